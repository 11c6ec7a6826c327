/- The document's Encode answers encL and encE, at all arguments. -/
import Derived.Test.YtambpbgmmmiocaaDoorE4
namespace Go.Proofs.YtambpbgmmmiocaaDoor
open Go.RowKit

def zeros (n : Nat) : List Int := List.replicate n 0
theorem le_zero : ∀ n, le n 0 = zeros n
  | 0 => rfl
  | n + 1 => by rw [le_snoc, le_zero n, Int.zero_ediv]; exact (List.replicate_succ' ..).symm
/-- The head of a block. -/
def encHead (kind place : Int) (n : Nat) : List Int := [83, 84, 82, 65, 1, kind] ++ le 2 n ++ le 8 place ++ zeros 12
/-- The words, as bytes. -/
def encWords (ws : List Int) : List Int := ws.flatMap (le 8)
/-- A block without its sum. -/
def encPre (kind place : Int) (ws : List Int) (n block : Nat) : List Int := encHead kind place n ++ encWords ws ++ zeros (block - 32 - 32 * n)
def encV (kind place : Int) (ws : List Int) (n block : Nat) : List Int := encPre kind place ws n block ++ le 4 (sumV (encPre kind place ws n block))
def encE (kind place : Int) (n : Nat) (block : Int) : Int := if kind < 1 then 1 else if 255 < kind then 1 else if place < 0 then 1 else if fitV block = 0 then 1 else if n = 0 then 1 else if fitV block < n then 8 else 0
def encL (kind place : Int) (ws : List Int) (n : Nat) (block : Int) : List Int := if encE kind place n block = 0 then encV kind place ws n block.toNat else []
/-- What an Encode leaves. -/
def Encoded (kind place : Int) (ws : List Int) (n : Nat) (block : Int) (w : World) (en : Ending) (w' : World) : Prop :=
  ∃ v, en = .returned (.tuple #[v, .int .i64 (encE kind place n block)]) ∧ Owns w' w.heap.size 5 v (nums .u8 (encL kind place ws n block)) ∧ Below w.heap.size w w'
theorem encoded_err {kind place : Int} {ws : List Int} {n : Nat} {block e : Int} {w w' : World} (h : encE kind place n block = e) (he : e ≠ 0) (hb : Below w.heap.size w w') :
    Encoded kind place ws n block w (.returned (.tuple #[.slice none 0 0, .int .i64 e])) w' :=
  ⟨_, by rw [h], by unfold encL; rw [h, if_neg he]; exact owns_nil _ _ _, hb⟩

/-- What puts numbers behind a row leaves, seen from the world in which the whole began. -/
def Grows (w : World) (ys : List Value) (en : Ending) (W' : World) : Prop := ∃ sv', en = .returned sv' ∧ Owns W' w.heap.size 5 sv' ys ∧ Hid (Below w.heap.size w W')
theorem number_in {w W : World} {sv : Value} {xs : List Int} (v : Int) (n : Nat) (ho : Owns W w.heap.size 5 sv (nums .u8 xs)) (hb : Hid (Below w.heap.size w W)) (hv0 : 0 ≤ v) (hv : v ≤ 18446744073709551615) (hlen : xs.length + n ≤ 70000000) :
    Calls Tryd.prog 32 #[sv, .int .u64 v, .int .i64 n] W (Grows w (nums .u8 (xs ++ le n v))) :=
  (number_any _ _ _ _ _ _ ho hb.out.size hv0 hv (by rw [nums_length]; exact hlen)).mono fun e W' ⟨sv', he, h1, h2, _⟩ =>
    ⟨sv', he, by rw [nums_append]; exact h1, Lib.hid (hb.out.grown h2 hb.out.size fun g hg => (ho.lt hg).1)⟩
theorem Owns.reads_at {w : World} {base : Nat} {e : TypeId} {v : Value} {k : IntKind} {l : List Int} {L : Nat} (h : Owns w base e v (nums k l)) (hL : l.length = L) : ∃ A c, v = .slice A L c ∧ Reads w k A l := by
  subst hL
  exact h.reads
theorem fit_pos {b : Int} (h : fitV b ≠ 0) : 64 ≤ b ∧ b ≤ 65536 ∧ b % 32 = 0 ∧ fitV b = b / 32 - 1 := by
  unfold fitV at h ⊢
  by_cases h1 : b < 64
  · rw [if_pos h1] at h; exact absurd rfl h
  · by_cases h2 : 65536 < b
    · rw [if_neg h1, if_pos h2] at h; exact absurd rfl h
    · by_cases h3 : b % 32 ≠ 0
      · rw [if_neg h1, if_neg h2, if_pos h3] at h; exact absurd rfl h
      · exact ⟨by omega, by omega, by omega, by rw [if_neg h1, if_neg h2, if_neg h3]⟩
theorem encHead_length (kind place : Int) (n : Nat) : (encHead kind place n).length = 28 := by simp [encHead, le_length, zeros]
theorem encWords_length : ∀ ws : List Int, (encWords ws).length = 8 * ws.length
  | [] => rfl
  | x :: r => by
    have := encWords_length r
    unfold encWords at this ⊢
    simp only [List.flatMap_cons, List.length_append, le_length, List.length_cons, this]
    omega
theorem encWords_snoc (ws : List Int) (x : Int) : encWords (ws ++ [x]) = encWords ws ++ le 8 x := by simp [encWords]
theorem le_bytes : ∀ n v, IsBytes (le n v)
  | 0, _ => fun x h => by cases h
  | n + 1, v => fun x h => by
    rw [le_snoc, List.mem_append] at h
    rcases h with h | h
    · exact le_bytes n v x h
    · simp at h; subst h; omega
theorem IsBytes.app {a b : List Int} (h : IsBytes a) (k : IsBytes b) : IsBytes (a ++ b) := fun x hx => by
  rcases List.mem_append.1 hx with hx | hx
  · exact h x hx
  · exact k x hx
theorem zeros_bytes (n : Nat) : IsBytes (zeros n) := fun x hx => by
  have := List.eq_of_mem_replicate hx
  omega
theorem encHead_bytes {kind place : Int} {n : Nat} (h0 : 1 ≤ kind) (h1 : kind ≤ 255) : IsBytes (encHead kind place n) := by
  unfold encHead
  refine ((IsBytes.app ?_ (le_bytes _ _)).app (le_bytes _ _)).app (zeros_bytes _)
  intro x hx
  simp at hx
  rcases hx with rfl | rfl | rfl | rfl | rfl | rfl <;> omega
theorem encWords_bytes (ws : List Int) : IsBytes (encWords ws) := fun x hx => by
  obtain ⟨y, _, h⟩ := List.mem_flatMap.1 hx
  exact le_bytes 8 y x h
theorem encPre_bytes {kind place : Int} {ws : List Int} {n block : Nat} (h0 : 1 ≤ kind) (h1 : kind ≤ 255) : IsBytes (encPre kind place ws n block) := ((encHead_bytes h0 h1).app (encWords_bytes _)).app (zeros_bytes _)
theorem sumV_range {xs : List Int} (h : IsBytes xs) : 0 ≤ sumV xs ∧ sumV xs ≤ 4294967295 := by
  have := crcN_lt xs 4294967295 (by decide) h
  unfold sumV
  omega

set_option maxRecDepth 100000 in
set_option maxHeartbeats 4000000 in
theorem encode_ref (kind place : Int) (A : Option Addr) (n c : Nat) (ws : List Int) (block : Int) (w : World) (hk : -9223372036854775808 ≤ kind ∧ kind ≤ 9223372036854775807) (hp : -9223372036854775808 ≤ place ∧ place ≤ 9223372036854775807)
    (hb : -9223372036854775808 ≤ block ∧ block ≤ 9223372036854775807) (hn : n ≤ 140737488355328) (hr : Reads w .u64 A ws) (hl : ws.length = 4 * n) (hw : ∀ x ∈ ws, 0 ≤ x ∧ x ≤ 18446744073709551615) :
    Calls Tryd.prog 17 #[.int .i64 kind, .int .i64 place, .slice A n c, .int .i64 block] w (Encoded kind place ws n block w) := by
  have HR := Lib.hid hr
  have HW := Lib.hid hw
  have HL := Lib.hid hl
  clear hr hw hl
  by_cases k1 : kind < 1
  · have HE : Hid (encE kind place n block = 1) := Lib.hid (by unfold encE; rw [if_pos k1])
    go_enter Tryd.func17, Tryd.ntmps17
    go_wp2_with (go_at_call 20; refine (fit_any 20 (by simp) _ _ hb).mono ?_; rintro e w1 ⟨rfl, hb1⟩)
    go_ret2
    exact encoded_err HE.out (by decide) (by first | exact Below.refl _ _ | exact hb1 | exact below_self (by assumption) hb1)
  ·
    by_cases k2 : 255 < kind
    · have HE : Hid (encE kind place n block = 1) := Lib.hid (by unfold encE; rw [if_neg k1, if_pos k2])
      go_enter Tryd.func17, Tryd.ntmps17
      go_wp2_with (go_at_call 20; refine (fit_any 20 (by simp) _ _ hb).mono ?_; rintro e w1 ⟨rfl, hb1⟩)
      go_ret2
      exact encoded_err HE.out (by decide) (by first | exact Below.refl _ _ | exact hb1 | exact below_self (by assumption) hb1)
    ·
      by_cases p1 : place < 0
      · have HE : Hid (encE kind place n block = 1) := Lib.hid (by unfold encE; rw [if_neg k1, if_neg k2, if_pos p1])
        go_enter Tryd.func17, Tryd.ntmps17
        go_wp2_with (go_at_call 20; refine (fit_any 20 (by simp) _ _ hb).mono ?_; rintro e w1 ⟨rfl, hb1⟩)
        go_ret2
        exact encoded_err HE.out (by decide) (by first | exact Below.refl _ _ | exact hb1 | exact below_self (by assumption) hb1)
      ·
        by_cases f1 : fitV block = 0
        · have HE : Hid (encE kind place n block = 1) := Lib.hid (by unfold encE; rw [if_neg k1, if_neg k2, if_neg p1, if_pos f1])
          have e1 : (fitV block == 0) = true := by simp [f1]
          have F1 := Lib.hid f1
          clear f1
          go_enter Tryd.func17, Tryd.ntmps17
          go_wp2_with (go_at_call 20; refine (fit_any 20 (by simp) _ _ hb).mono ?_; rintro e w1 ⟨rfl, hb1⟩)
          go_ret2
          exact encoded_err HE.out (by decide) (by first | exact Below.refl _ _ | exact hb1 | exact below_self (by assumption) hb1)
        ·
          by_cases n1 : n = 0
          · subst n1
            have HE : Hid (encE kind place 0 block = 1) := Lib.hid (by unfold encE; rw [if_neg k1, if_neg k2, if_neg p1, if_neg f1, if_pos rfl])
            have e1 : (fitV block == 0) = false := by simp [f1]
            have F1 := Lib.hid f1
            clear f1
            go_enter Tryd.func17, Tryd.ntmps17
            go_wp2_with (go_at_call 20; refine (fit_any 20 (by simp) _ _ hb).mono ?_; rintro e w1 ⟨rfl, hb1⟩)
            go_ret2
            exact encoded_err HE.out (by decide) (by first | exact Below.refl _ _ | exact hb1 | exact below_self (by assumption) hb1)
          ·
            by_cases m1 : fitV block < n
            · have HE : Hid (encE kind place n block = 8) := Lib.hid (by unfold encE; rw [if_neg k1, if_neg k2, if_neg p1, if_neg f1, if_neg n1, if_pos m1])
              have e1 : (fitV block == 0) = false := by simp [f1]
              have e2 : ((n : Int) == 0) = false := by simp; omega
              have e3 : decide (fitV block < (n : Int)) = true := by simpa using m1
              have F1 := Lib.hid f1
              clear f1
              go_enter Tryd.func17, Tryd.ntmps17
              go_wp2_with (go_at_call 20; refine (fit_any 20 (by simp) _ _ hb).mono ?_; rintro e w1 ⟨rfl, hb1⟩)
              go_ret2
              exact encoded_err HE.out (by decide) (by first | exact Below.refl _ _ | exact hb1 | exact below_self (by assumption) hb1)
            ·
              obtain ⟨b0, b1, b2, b3⟩ := fit_pos f1
              obtain ⟨bn, rfl⟩ : ∃ bn : Nat, block = bn := ⟨block.toNat, by omega⟩
              have hroom : 32 * n + 32 ≤ bn := by omega
              have hn2 : n ≤ 2047 := by omega
              have HE : Hid (encE kind place n bn = 0) := Lib.hid (by unfold encE; rw [if_neg k1, if_neg k2, if_neg p1, if_neg f1, if_neg n1, if_neg m1])
              have e1 : (fitV (bn : Int) == 0) = false := by simp [f1]
              have e2 : ((n : Int) == 0) = false := by simp; omega
              have e3 : decide (fitV (bn : Int) < (n : Int)) = false := by simpa using m1
              have F3 := Lib.hid b3
              clear f1 m1 b2 b3
              go_enter Tryd.func17, Tryd.ntmps17
              go_upto_region 6 with (go_at_call 20; refine (fit_any 20 (by simp) _ _ hb).mono ?_; rintro e w1 ⟨rfl, hb1⟩)
              have hw1 : Below w.heap.size w w1 := below_self (by assumption) hb1
              have O := Lib.hid (Owns.blk (base := w.heap.size) (c := 6) (Blk.new w1 5 (nums .u8 [83, 84, 82, 65, 1, kind])) hw1.size rfl (by simp [maxLen]))
              have B := Lib.hid (below_self hw1 (below1 w1 (.cells (nums .u8 [83, 84, 82, 65, 1, kind]).toArray 5)))
              show Code.wp _ _ _ _ (w1.alloc (.cells (nums .u8 [83, 84, 82, 65, 1, kind]).toArray 5))
              generalize w1.alloc (.cells (nums .u8 [83, 84, 82, 65, 1, kind]).toArray 5) = W at *
              have o0 : Owns W w.heap.size 5 (.slice (some ⟨w1.heap.size, 0, none⟩) 6 6) (nums .u8 [83, 84, 82, 65, 1, kind]) := O.out
              clear O
              generalize w1.heap.size = g0 at *
              clear hb1 hw1
              go_upto_region 7 with (go_at_call 32; refine (number_in n 2 (by assumption) (by assumption) (by omega) (by omega) (by simp)).mono ?_; rintro e W1 ⟨v1, rfl, o1, g1⟩)
              clear o0
              go_upto_region 8 with (go_at_call 32; refine (number_in place 8 (by assumption) (by assumption) (by omega) (by omega) (by simp [le_length])).mono ?_; rintro e W2 ⟨v2, rfl, o2, g2⟩)
              clear o1
              go_upto_region 9 with (go_at_call 32; refine (number_in 0 12 (by assumption) (by assumption) (by omega) (by omega) (by simp [le_length])).mono ?_; rintro e W3 ⟨v3, rfl, o3, g3⟩)
              clear o2
              have oh : Owns W3 w.heap.size 5 v3 (nums .u8 (encHead kind place n ++ encWords (ws.take (4 * 0)))) := by
                have e : [83, 84, 82, 65, 1, kind] ++ le 2 n ++ le 8 place ++ le 12 0 = encHead kind place n ++ encWords (ws.take (4 * 0)) := by
                  rw [le_zero 12]; simp [encHead, encWords]
                rw [← e]; exact o3
              have OH := Lib.hid oh
              clear oh o3 e1 e2 e3
              go_wp2
              go_loopw [10, 11] (fun s i wr => ∃ k : Nat, k ≤ n ∧ i = .int .i64 k ∧ Hid (Owns wr w.heap.size 5 s (nums .u8 (encHead kind place n ++ encWords (ws.take (4 * k))))) ∧ Hid (Below w.heap.size w wr)) (fun _ i _ => n - (intOf i).toNat)
              case atStart => exact ⟨0, by omega, rfl, OH, g3⟩
              case round =>
                obtain ⟨k, hk, rfl, HO, HB⟩ := hrel
                by_cases hlt : k < n
                · go_wp2
                  go_loopw [10, 12] (fun s i wr => ∃ j : Nat, j ≤ 4 ∧ i = .int .i64 j ∧ Hid (Owns wr w.heap.size 5 s (nums .u8 (encHead kind place n ++ encWords (ws.take (4 * k + j))))) ∧ Hid (Below w.heap.size w wr)) (fun _ i _ => 4 - (intOf i).toNat)
                  case atStart => exact ⟨0, by omega, rfl, HO, HB⟩
                  case round =>
                    obtain ⟨j, hj, rfl, HJ, HBJ⟩ := hrel
                    by_cases hjt : j < 4
                    · have hget : ws[4 * k + j]? = some (ws[4 * k + j]'(by rw [HL.out]; omega)) := List.getElem?_eq_getElem _
                      obtain ⟨b, o, rfl, hc0⟩ := HR.out.at_ hget
                      have hxb := HW.out (ws[4 * k + j]'(by rw [HL.out]; omega)) (List.getElem_mem _)
                      generalize ws[4 * k + j]'(by rw [HL.out]; omega) = x at *
                      obtain ⟨x0, x1⟩ := hxb
                      have hc := cell_kept HBJ.out hc0
                      rw [show o + (4 * k + j) = o + k * 4 + j by omega] at hc
                      have oj := HJ.out
                      have HG := Lib.hid hget
                      clear hget hc0
                      go_wp2_with (go_at_call 32; refine (number_in x 8 (by assumption) (by assumption) x0 x1 (by rw [List.length_append, encHead_length, encWords_length, List.length_take]; omega)).mono ?_; rintro e W4 ⟨v4, rfl, o4, g4⟩)
                      go_roundw
                      case rel => exact ⟨j + 1, by omega, by go_num, Lib.hid (by
                        rw [show 4 * k + (j + 1) = 4 * k + j + 1 by omega, List.take_add_one, HG.out]
                        show Owns _ _ _ _ (nums .u8 (encHead kind place n ++ encWords (ws.take (4 * k + j) ++ [x])))
                        rw [encWords_snoc, ← List.append_assoc]; exact o4), g4⟩
                      case measure => simp [intOf]; omega
                    · obtain rfl : j = 4 := by omega
                      go_wp2
                      go_roundw
                      case rel => exact ⟨k + 1, by omega, by go_num, Lib.hid (by rw [show 4 * (k + 1) = 4 * k + 4 by omega]; exact HJ.out), HBJ⟩
                      case measure => simp [intOf]; omega
                · obtain rfl : k = n := by omega
                  have hlen : (encHead kind place k ++ encWords (ws.take (4 * k))).length = 28 + 32 * k := by
                    rw [List.length_append, encHead_length, encWords_length, List.length_take, HL.out, Nat.min_self]; omega
                  obtain ⟨A1, c1, rfl, _⟩ := HO.out.reads_at hlen
                  have oh := HO.out
                  have HLen := Lib.hid hlen
                  have hz : (bn : Int) - 4 - (28 + 32 * (k : Int)) = ((bn - 32 - 32 * k : Nat) : Int) := by omega
                  clear hlen
                  go_upto_region 17 with (go_at_call 32; refine (number_in 0 (bn - 32 - 32 * k) (by assumption) (by assumption) (by omega) (by omega) (by rw [HLen.out]; omega)).mono ?_; rintro e W4 ⟨v4, rfl, o4, g4⟩)
                  have hp4 : encHead kind place k ++ encWords (ws.take (4 * k)) ++ le (bn - 32 - 32 * k) 0 = encPre kind place ws k bn := by
                    unfold encPre; rw [le_zero, ← HL.out, List.take_length]
                  rw [hp4] at o4
                  have hplen : (encPre kind place ws k bn).length = bn - 4 := by
                    rw [← hp4, List.length_append, HLen.out, le_length]; omega
                  obtain ⟨A2, c2, rfl, hr2⟩ := o4.reads_at hplen
                  have hpb : IsBytes (encPre kind place ws k bn) := encPre_bytes (by omega) (by omega)
                  obtain ⟨s0, s1⟩ := sumV_range hpb
                  have R2 := Lib.hid hr2; have P2 := Lib.hid hpb; have L2 := Lib.hid hplen
                  clear hr2 hpb hplen hp4 hz oh
                  go_wp2_with (first | ((go_at_call 26; refine (sum_ref A2 (bn - 4) c2 _ _ (R2.out) P2.out L2.out (by omega)).mono ?_; rintro e W5 ⟨rfl, hb5⟩; have o5 := o4.below hb5; have g5 := Lib.hid (below_then g4.out g4.out.size hb5))) | ((go_at_call 32; refine (number_in (sumV (encPre kind place ws k bn)) 4 o5 g5 (by omega) (by omega) (by rw [L2.out]; omega)).mono ?_; rintro e W6 ⟨v6, rfl, o6, g6⟩)))
                  go_ret2
                  exact ⟨v6, by rw [HE.out]; rfl, by unfold encL; rw [HE.out, if_pos rfl]; exact o6, g6.out⟩
end Go.Proofs.YtambpbgmmmiocaaDoor
