/- Encode of package recs answers encL and encE, at all arguments, where the tables lie as they are laid. -/
import Derived.Test.YtambpbgmmmiocaaDoorE5
namespace Go.Proofs.YtambpbgmmmiocaaDoor
open Go.RowKit

/-- The first four bytes of a block, as they are laid. -/
def Magic (w : World) : Prop := Reads w .u8 (some ⟨1, 0, none⟩) [83, 84, 82, 65]
theorem Magic.below {w w' : World} (h : Magic w) (hb : Below w.heap.size w w') : Magic w' := Reads.below h hb
theorem make_bytes (n : Nat) (h : n ≤ 140737488355328) : ∀ w, (Instr.makeSlice 36 (.int .i64 (n : Int)) (.int .i64 (n : Int))).run Tryd.prog w = .ok (.slice (some ⟨w.heap.size, 0, none⟩) n n) (w.alloc (.cells (nums .u8 (zeros n)).toArray 5)) := by
  intro w
  obtain ⟨i, hi, hz, hs, hb⟩ := info_parts info5
  have hr := run_make (P := Tryd.prog) w 36 5 i (.int .u8 0) Tryd.underlying36 hi hz .i64 .i64 n n (by omega) (by omega) (by rw [hb]; omega) (by omega)
  rw [hr, hs]
  simp only [Int.toNat_natCast, Nat.mul_one]
  congr 3
  apply Array.ext
  · simp [size_madeCells, nums_length, zeros]
  · intro k h1 h2
    simp [madeCells, nums, zeros, Value.cells, Nat.mod_one]
theorem add_zero_at (g j : Nat) : (⟨g, 0, none⟩ : Addr).add j = ⟨g, j, none⟩ := by unfold Addr.add; split <;> simp_all
theorem Blk.setRow {w : World} {g : Nat} {t : TypeId} {l : List Value} (h : Blk w g t l) (new : List Value) : Blk (w.setRow g new.toArray) g t new := setRow_heap w g _ _ t _ h
theorem only_setRow (w : World) (g : Nat) (new : Array Value) : w.grownBy (w.setRow g new) (some g) := ⟨rfl, rfl, rfl, by simp, fun k _ hk => setRow_other w g k _ (fun e => hk (by rw [e]))⟩
/-- put, seen from the world in which the whole began. -/
theorem put_in {w W : World} {g : Nat} {l : List Int} (v : Int) (o n m c : Nat) (hB : Blk W g 5 (nums .u8 l)) (hb : Hid (Below w.heap.size w W)) (hg : w.heap.size ≤ g) (hv : 0 ≤ v) (hn : n ≤ m) (h8 : n ≤ 8) (hl : o + n ≤ l.length) (hm : l.length ≤ 140737488355328) :
    Calls Tryd.prog 31 #[.slice (some ⟨g, o, none⟩) m c, .int .u64 v, .int .i64 n] W fun e w' => e = .returned (.tuple #[]) ∧ Blk w' g 5 (nums .u8 (splice l o (le n v))) ∧ Hid (Below w.heap.size w w') :=
  (put_any v g o n m c 5 l W hv hn h8 hB hl hm).mono fun e w' ⟨he, h1, h2⟩ => ⟨he, h1, Lib.hid (below_only hb.out hb.out.size h2 hg)⟩
theorem splice_app (X ys : List Int) (m : Nat) (h : ys.length ≤ m) : splice (X ++ zeros m) X.length ys = X ++ ys ++ zeros (m - ys.length) := by
  simp only [splice]
  rw [List.take_left, List.drop_append, List.drop_eq_nil_of_le (by omega)]
  simp [zeros, List.drop_replicate]
theorem copy_magic {W : World} {g bn : Nat} (hM : Magic W) (hB : Blk W g 5 (nums .u8 (zeros bn))) (h : 4 ≤ bn) : ∀ ty, (Builtin.copy_ #[36, 36] ty #[.slice (some ⟨g, 0, none⟩) bn bn, .slice (some ⟨1, 0, none⟩) 4 4]).run Tryd.prog W =
    .ok (goInt 4) (W.setRow g (nums .u8 (splice (zeros bn) 0 [83, 84, 82, 65])).toArray) := by
  intro ty
  have := run_copy_row (P := Tryd.prog) W 36 36 ty 5 g 0 bn bn ⟨1, 0, none⟩ 4 4 _ 5 (nums .u8 [83, 84, 82, 65]) Tryd.underlying36 (by kernel_rfl) hB (show 4 = Nat.min 4 bn from (Nat.min_eq_left h).symm) ?_ (by simp [nums, zeros]; omega) ?_
  · rw [this]
    congr 3
    simp [splice, nums, zeros]
  · intro j v hj
    obtain ⟨b, o, e, hc⟩ := hM (by simp)
    cases e
    rw [nums_get] at hj
    obtain ⟨x, hx, rfl⟩ := Option.map_eq_some_iff.1 hj
    have := hc j x hx
    rw [add_zero_at, ← Nat.zero_add j]
    exact this
  · intro v hv
    simp [nums] at hv
    rcases hv with rfl | rfl | rfl | rfl <;> rfl

theorem below_drew {B : Nat} {a w : World} (h : Below B a w) : Below B a w.drew := ⟨h.os, h.tape, h.output, h.size, h.block⟩
theorem sum_blk {w W : World} {g : Nat} (xs ys : List Int) (q c : Nat) (hT : Halves w) (hB : Hid (Below w.heap.size w W)) (hb : Blk W g 5 (nums .u8 (xs ++ ys))) (hx : IsBytes xs) (hl : xs.length = q) (hq : q ≤ 140737488355328) :
    Calls Tryd.prog 25 #[.slice (some ⟨g, 0, none⟩) q c] W.drew fun e w' => e = .returned (.int .u32 (sumV xs)) ∧ Blk w' g 5 (nums .u8 (xs ++ ys)) ∧ Hid (Below w.heap.size w w') := by
  have hb' : Blk W.drew g 5 (nums .u8 (xs ++ ys)) := hb
  refine (sum_any (some ⟨g, 0, none⟩) q c xs W.drew (hT.below (below_drew hB.out)) (Reads.of_blk (n := q) hb' ?_) hx hl hq).mono fun e w' ⟨he, h⟩ => ⟨he, hb'.self h, Lib.hid (below_self (below_drew hB.out) h)⟩
  rw [List.drop_zero, List.take_append_of_le_length (by omega), List.take_of_length_le (by omega)]

set_option maxRecDepth 100000 in
set_option maxHeartbeats 4000000 in
theorem encode_any (kind place : Int) (A : Option Addr) (n c : Nat) (ws : List Int) (block : Int) (w : World) (hM : Magic w) (hT : Halves w) (hk : -9223372036854775808 ≤ kind ∧ kind ≤ 9223372036854775807) (hp : -9223372036854775808 ≤ place ∧ place ≤ 9223372036854775807)
    (hb : -9223372036854775808 ≤ block ∧ block ≤ 9223372036854775807) (hn : n ≤ 140737488355328) (hr : Reads w .u64 A ws) (hl : ws.length = 4 * n) (hw : ∀ x ∈ ws, 0 ≤ x ∧ x ≤ 18446744073709551615) :
    Calls Tryd.prog 15 #[.int .i64 kind, .int .i64 place, .slice A n c, .int .i64 block] w (Encoded kind place ws n block w) := by
  have HR := Lib.hid hr
  have HW := Lib.hid hw
  have HL := Lib.hid hl
  have HM := Lib.hid hM
  have HT := Lib.hid hT
  clear hr hw hl hM hT
  by_cases k1 : kind < 1
  · have HE : Hid (encE kind place n block = 1) := Lib.hid (by unfold encE; rw [if_pos k1])
    go_enter Tryd.func15, Tryd.ntmps15
    go_wp2_with (go_at_call 19; refine (fit_any 19 (by simp) _ _ hb).mono ?_; rintro e w1 ⟨rfl, hb1⟩)
    go_ret2
    exact encoded_err HE.out (by decide) (by first | exact Below.refl _ _ | exact hb1 | exact below_self (by assumption) hb1)
  ·
    by_cases k2 : 255 < kind
    · have HE : Hid (encE kind place n block = 1) := Lib.hid (by unfold encE; rw [if_neg k1, if_pos k2])
      go_enter Tryd.func15, Tryd.ntmps15
      go_wp2_with (go_at_call 19; refine (fit_any 19 (by simp) _ _ hb).mono ?_; rintro e w1 ⟨rfl, hb1⟩)
      go_ret2
      exact encoded_err HE.out (by decide) (by first | exact Below.refl _ _ | exact hb1 | exact below_self (by assumption) hb1)
    ·
      by_cases p1 : place < 0
      · have HE : Hid (encE kind place n block = 1) := Lib.hid (by unfold encE; rw [if_neg k1, if_neg k2, if_pos p1])
        go_enter Tryd.func15, Tryd.ntmps15
        go_wp2_with (go_at_call 19; refine (fit_any 19 (by simp) _ _ hb).mono ?_; rintro e w1 ⟨rfl, hb1⟩)
        go_ret2
        exact encoded_err HE.out (by decide) (by first | exact Below.refl _ _ | exact hb1 | exact below_self (by assumption) hb1)
      ·
        by_cases f1 : fitV block = 0
        · have HE : Hid (encE kind place n block = 1) := Lib.hid (by unfold encE; rw [if_neg k1, if_neg k2, if_neg p1, if_pos f1])
          have e1 : (fitV block == 0) = true := by simp [f1]
          have F1 := Lib.hid f1
          clear f1
          go_enter Tryd.func15, Tryd.ntmps15
          go_wp2_with (go_at_call 19; refine (fit_any 19 (by simp) _ _ hb).mono ?_; rintro e w1 ⟨rfl, hb1⟩)
          go_ret2
          exact encoded_err HE.out (by decide) (by first | exact Below.refl _ _ | exact hb1 | exact below_self (by assumption) hb1)
        ·
          by_cases n1 : n = 0
          · subst n1
            have HE : Hid (encE kind place 0 block = 1) := Lib.hid (by unfold encE; rw [if_neg k1, if_neg k2, if_neg p1, if_neg f1, if_pos rfl])
            have e1 : (fitV block == 0) = false := by simp [f1]
            have F1 := Lib.hid f1
            clear f1
            go_enter Tryd.func15, Tryd.ntmps15
            go_wp2_with (go_at_call 19; refine (fit_any 19 (by simp) _ _ hb).mono ?_; rintro e w1 ⟨rfl, hb1⟩)
            go_ret2
            exact encoded_err HE.out (by decide) (by first | exact Below.refl _ _ | exact hb1 | exact below_self (by assumption) hb1)
          ·
            by_cases m1 : fitV block < n
            · have HE : Hid (encE kind place n block = 8) := Lib.hid (by unfold encE; rw [if_neg k1, if_neg k2, if_neg p1, if_neg f1, if_neg n1, if_pos m1])
              have e1 : (fitV block == 0) = false := by simp [f1]
              have e2 : ((n : Int) == 0) = false := by simp; omega
              have e3 : decide (fitV block < (n : Int)) = true := by simpa using m1
              have F1 := Lib.hid f1
              clear f1
              go_enter Tryd.func15, Tryd.ntmps15
              go_wp2_with (go_at_call 19; refine (fit_any 19 (by simp) _ _ hb).mono ?_; rintro e w1 ⟨rfl, hb1⟩)
              go_ret2
              exact encoded_err HE.out (by decide) (by first | exact Below.refl _ _ | exact hb1 | exact below_self (by assumption) hb1)
            ·
              obtain ⟨b0, b1, b2, b3⟩ := fit_pos f1
              obtain ⟨bn, rfl⟩ : ∃ bn : Nat, block = bn := ⟨block.toNat, by omega⟩
              have hroom : 32 * n + 32 ≤ bn := by omega
              have hn2 : n ≤ 2047 := by omega
              have HE : Hid (encE kind place n bn = 0) := Lib.hid (by unfold encE; rw [if_neg k1, if_neg k2, if_neg p1, if_neg f1, if_neg n1, if_neg m1])
              have e1 : (fitV (bn : Int) == 0) = false := by simp [f1]
              have e2 : ((n : Int) == 0) = false := by simp; omega
              have e3 : decide (fitV (bn : Int) < (n : Int)) = false := by simpa using m1
              have F3 := Lib.hid b3
              have hmk := make_bytes bn (by omega)
              clear f1 m1 b2 b3
              go_enter Tryd.func15, Tryd.ntmps15
              go_upto_region 6 with (go_at_call 19; refine (fit_any 19 (by simp) _ _ hb).mono ?_; rintro e w1 ⟨rfl, hb1⟩)
              have hw1 : Below w.heap.size w w1 := below_self (by assumption) hb1
              have O := Lib.hid (Blk.new w1 5 (nums .u8 (zeros bn)))
              have B := Lib.hid (below_self hw1 (below1 w1 (.cells (nums .u8 (zeros bn)).toArray 5)))
              have hg := hw1.size
              show Code.wp _ _ _ _ (w1.alloc (.cells (nums .u8 (zeros bn)).toArray 5))
              generalize w1.alloc (.cells (nums .u8 (zeros bn)).toArray 5) = W at *
              generalize w1.heap.size = g at *
              clear hb1 hw1 hmk e1 e2 e3
              have hcp := copy_magic (HM.out.below B.out) O.out (by omega)
              go_upto_region 7 with (fail)
              have P := Lib.hid (O.out.setRow (nums .u8 (splice (zeros bn) 0 [83, 84, 82, 65])))
              have B2 := Lib.hid (below_only B.out B.out.size (only_setRow W g (nums .u8 (splice (zeros bn) 0 [83, 84, 82, 65])).toArray) hg)
              clear hcp
              generalize W.setRow g (nums .u8 (splice (zeros bn) 0 [83, 84, 82, 65])).toArray = W2 at *
              have hsp : splice (zeros bn) 0 [83, 84, 82, 65] = [83, 84, 82, 65, 0, 0] ++ zeros (bn - 6) := by
                have := splice_app [] [83, 84, 82, 65] bn (by simp; omega)
                simp only [List.nil_append, List.length_nil] at this
                rw [this, show bn - [83, 84, 82, (65 : Int)].length = (bn - 6) + 2 by simp; omega]
                simp [zeros, List.replicate_succ]
              rw [hsp] at P
              have c4 : W2.cell? ⟨g, 4, none⟩ = some (.int .u8 0) := by rw [P.out.cell]; simp [nums]
              have c5 : W2.cell? ⟨g, 5, none⟩ = some (.int .u8 0) := by rw [P.out.cell]; simp [nums]
              have z4 := P.out.frozen 4
              have z5 := P.out.frozen 5
              clear hsp
              go_upto_region 8 with (fail)
              have P3 := Lib.hid ((P.out.set_ 4 (.int .u8 1)).set_ 5 (.int .u8 kind))
              have B3 := Lib.hid ((B2.out.setCell (p := ⟨g, 4, none⟩) hg (.int .u8 1)).setCell (p := ⟨g, 5, none⟩) hg (.int .u8 kind))
              clear c4 c5 z4 z5
              generalize (W2.setCell ⟨g, 4, none⟩ (.int .u8 1)).setCell ⟨g, 5, none⟩ (.int .u8 kind) = W3 at *
              have P4 : Blk W3 g 5 (nums .u8 ([83, 84, 82, 65, 1, kind] ++ zeros (bn - 6))) := by have := P3.out; simpa [nums] using this
              clear P P3 B B2 O
              go_upto_region 9 with (go_at_call 31; refine (put_in n 6 2 (bn - 6) (bn - 6) (by assumption) (by assumption) hg (by omega) (by omega) (by omega) (by simp [zeros]; omega) (by simp [zeros]; omega)).mono ?_; rintro e W4 ⟨rfl, o4, g4⟩)
              have q4 : splice ([83, 84, 82, 65, 1, kind] ++ zeros (bn - 6)) 6 (le 2 n) = [83, 84, 82, 65, 1, kind] ++ le 2 n ++ zeros (bn - 8) := by
                have := splice_app [83, 84, 82, 65, 1, kind] (le 2 n) (bn - 6) (by rw [le_length]; omega)
                rw [le_length] at this
                exact this.trans (by rw [show bn - 6 - 2 = bn - 8 by omega])
              rw [q4] at o4
              have l4 : ([83, 84, 82, 65, 1, kind] ++ le 2 n).length = 8 := by simp [le_length]
              clear P4 q4
              go_upto_region 10 with (go_at_call 31; refine (put_in place 8 8 (bn - 8) (bn - 8) (by assumption) (by assumption) hg (by omega) (by omega) (by omega) (by rw [List.length_append, l4]; simp [zeros]; omega) (by rw [List.length_append, l4]; simp [zeros]; omega)).mono ?_; rintro e W5 ⟨rfl, o5, g5⟩)
              have q5 : splice ([83, 84, 82, 65, 1, kind] ++ le 2 n ++ zeros (bn - 8)) 8 (le 8 place) = encHead kind place n ++ encWords (ws.take (4 * 0)) ++ zeros (bn - 28 - 32 * 0) := by
                have := splice_app ([83, 84, 82, 65, 1, kind] ++ le 2 n) (le 8 place) (bn - 8) (by rw [le_length]; omega)
                rw [l4, le_length] at this
                rw [this, show bn - 8 - 8 = 12 + (bn - 28) by omega]
                rw [show zeros (12 + (bn - 28)) = zeros 12 ++ zeros (bn - 28) from (List.replicate_append_replicate ..).symm]
                simp [encHead, encWords]
              rw [q5] at o5
              have OH := Lib.hid o5
              have GH := g5
              clear o4 g4 g5 q5 o5 l4 B3
              go_wp2
              go_loopw [64] (fun i wr => ∃ k : Nat, k ≤ n ∧ i = .int .i64 k ∧ Hid (Blk wr g 5 (nums .u8 (encHead kind place n ++ encWords (ws.take (4 * k)) ++ zeros (bn - 28 - 32 * k)))) ∧ Hid (Below w.heap.size w wr)) (fun i _ => n - (intOf i).toNat)
              case atStart => exact ⟨0, by omega, rfl, OH, GH⟩
              case round =>
                obtain ⟨k, hk, rfl, HO, HB⟩ := hrel
                by_cases hlt : k < n
                · have hget : ∀ j, j < 4 → ∃ x, ws[4 * k + j]? = some x := fun j hj => ⟨_, List.getElem?_eq_getElem (by rw [HL.out]; omega)⟩
                  obtain ⟨x0, h0⟩ := hget 0 (by omega)
                  obtain ⟨x1, h1⟩ := hget 1 (by omega)
                  obtain ⟨x2, h2⟩ := hget 2 (by omega)
                  obtain ⟨x3, h3⟩ := hget 3 (by omega)
                  obtain ⟨b, o, rfl, hc0⟩ := HR.out.at_ h0
                  have at_ : ∀ j x, ws[4 * k + j]? = some x → wr.cell? ⟨b, o + k * 4 + j, none⟩ = some (.int .u64 x) := fun j x hx => by
                    obtain ⟨b', o', e, hc⟩ := HR.out.at_ hx
                    cases e
                    have := cell_kept HB.out hc
                    rwa [show o + (4 * k + j) = o + k * 4 + j by omega] at this
                  have c0 := at_ 0 x0 h0
                  have c1 := at_ 1 x1 h1
                  have c2 := at_ 2 x2 h2
                  have c3 := at_ 3 x3 h3
                  have HX : Hid (∀ j x, [x0, x1, x2, x3][j]? = some x → ws[4 * k + j]? = some x ∧ 0 ≤ x ∧ x ≤ 18446744073709551615) := Lib.hid (fun j x hx => by
                    have hs : ws[4 * k + j]? = some x := by
                      match j, hx with
                      | 0, hx | 1, hx | 2, hx | 3, hx => simp at hx; subst hx; assumption
                      | j + 4, hx => simp at hx
                    exact ⟨hs, HW.out x (List.mem_of_getElem? hs)⟩)
                  clear hget hc0 at_ h0 h1 h2 h3
                  simp only [Nat.add_zero] at c0
                  go_wp2
                  go_loopw [70] (fun i wr2 => ∃ j : Nat, j ≤ 4 ∧ i = .int .i64 j ∧ Hid (Blk wr2 g 5 (nums .u8 (encHead kind place n ++ encWords (ws.take (4 * k + j)) ++ zeros (bn - 28 - 32 * k - 8 * j)))) ∧ Hid (Below w.heap.size w wr2)) (fun i _ => 4 - (intOf i).toNat)
                  case atStart => exact ⟨0, by omega, rfl, Lib.hid (HO.out.alloc _), Lib.hid (HB.out.alloc HB.out.size _)⟩
                  case round =>
                    obtain ⟨j, hj, rfl, HJ, HBJ⟩ := hrel
                    by_cases hjt : j < 4
                    · obtain ⟨x, hx⟩ : ∃ x, [x0, x1, x2, x3][j]? = some x := ⟨_, List.getElem?_eq_getElem (by simpa using hjt)⟩
                      have hix : ∀ w, (Instr.index 26 (.agg #[.int .u64 x0, .int .u64 x1, .int .u64 x2, .int .u64 x3]) (.int .i64 j)).run Tryd.prog w = .ok (.int .u64 x) w := fun w => by
                        refine run_index_agg w Tryd.underlying26 (by kernel_rfl) (by kernel_rfl) (by omega) (by omega) ?_
                        match j, hjt, hx with
                        | 0, _, hx | 1, _, hx | 2, _, hx | 3, _, hx => simp at hx; subst hx; rfl
                      obtain ⟨hs, y0, y1⟩ := HX.out j x hx
                      have HS := Lib.hid hs
                      have hlen : (encHead kind place n ++ encWords (ws.take (4 * k + j))).length = 28 + 32 * k + 8 * j := by
                        rw [List.length_append, encHead_length, encWords_length, List.length_take, HL.out, Nat.min_eq_left (by omega)]; omega
                      have HLen := Lib.hid hlen
                      have HQ : Hid (splice (encHead kind place n ++ encWords (ws.take (4 * k + j)) ++ zeros (bn - 28 - 32 * k - 8 * j)) (28 + 32 * k + 8 * j) (le 8 x) = encHead kind place n ++ encWords (ws.take (4 * k + (j + 1))) ++ zeros (bn - 28 - 32 * k - 8 * (j + 1))) := Lib.hid (by
                        have := splice_app (encHead kind place n ++ encWords (ws.take (4 * k + j))) (le 8 x) (bn - 28 - 32 * k - 8 * j) (by rw [le_length]; omega)
                        rw [hlen, le_length] at this
                        rw [this, show 4 * k + (j + 1) = 4 * k + j + 1 by omega, List.take_add_one, hs, show bn - 28 - 32 * k - 8 * j - 8 = bn - 28 - 32 * k - 8 * (j + 1) by omega]
                        show _ = encHead kind place n ++ encWords (ws.take (4 * k + j) ++ [x]) ++ _
                        rw [encWords_snoc, ← List.append_assoc])
                      clear hx hs hlen
                      go_wp2_with (go_at_call 31; refine (put_in x (28 + 32 * k + 8 * j) 8 (bn - (28 + 32 * k + 8 * j)) (bn - (28 + 32 * k + 8 * j)) HJ.out HBJ hg y0 (by omega) (by omega) (by rw [List.length_append, HLen.out]; simp [zeros]; omega) (by rw [List.length_append, HLen.out]; simp [zeros]; omega)).mono ?_; rintro e W6 ⟨rfl, o6, g6⟩)
                      go_roundw
                      case rel => exact ⟨j + 1, by omega, by go_num, Lib.hid (by rw [← HQ.out]; exact o6), g6⟩
                      case measure => simp [intOf]; omega
                    · obtain rfl : j = 4 := by omega
                      go_wp2
                      go_roundw
                      case rel => exact ⟨k + 1, by omega, by go_num, Lib.hid (by rw [show 4 * (k + 1) = 4 * k + 4 by omega, show bn - 28 - 32 * (k + 1) = bn - 28 - 32 * k - 8 * 4 by omega]; exact HJ.out), HBJ⟩
                      case measure => simp [intOf]; omega
                · obtain rfl : k = n := by omega
                  have HP : Hid (encHead kind place k ++ encWords (ws.take (4 * k)) ++ zeros (bn - 28 - 32 * k) = encPre kind place ws k bn ++ zeros 4) := Lib.hid (by
                    unfold encPre; rw [← HL.out, List.take_length, show bn - 28 - 32 * k = (bn - 32 - 32 * k) + 4 by omega, show zeros (bn - 32 - 32 * k + 4) = zeros (bn - 32 - 32 * k) ++ zeros 4 from (List.replicate_append_replicate ..).symm, ← List.append_assoc])
                  have ob := HO.out
                  rw [HP.out] at ob
                  have hplen : (encPre kind place ws k bn).length = bn - 4 := by
                    unfold encPre
                    rw [List.length_append, List.length_append, encHead_length, encWords_length, HL.out]; simp [zeros]; omega
                  have hpb : IsBytes (encPre kind place ws k bn) := encPre_bytes k1 k2
                  obtain ⟨s0, s1⟩ := sumV_range hpb
                  have OB := Lib.hid ob; have P2 := Lib.hid hpb; have L2 := Lib.hid hplen
                  clear ob hpb hplen
                  go_upto_region 19 with (fail)
                  obtain ⟨q, rfl⟩ : ∃ q, bn = q + 4 := ⟨bn - 4, by omega⟩
                  have hq : IntKind.i64.wrap (q : Int) = (q : Int) := by rw [IntKind.wrap_i64]; omega
                  have hq0 : (0 : Int) ≤ (q : Int) := by omega
                  have hq1 : (q : Int) ≤ (q : Int) + 4 := by omega
                  have hq4 : q + 4 - q = 4 := by omega
                  have S0 := Lib.hid s0; have S1 := Lib.hid s1; have BM : Hid (q ≤ 65536) := Lib.hid (by omega)
                  have hd : Hid (q + 4 - 4 = q) := Lib.hid (by omega)
                  have TT := HT.out.below HB.out
                  have hk' : 0 ≤ kind ∧ kind ≤ 255 := ⟨by omega, k2⟩
                  have HE' : Hid (encE kind place k ((q : Int) + 4) = 0) := Lib.hid (by have := HE.out; rwa [show ((q + 4 : Nat) : Int) = (q : Int) + 4 by omega] at this)
                  have OB' := OB.out
                  have HSP : Hid (splice (encPre kind place ws k (q + 4) ++ zeros 4) q (le 4 (sumV (encPre kind place ws k (q + 4)))) = encV kind place ws k (q + 4)) := Lib.hid (by
                    have := splice_app (encPre kind place ws k (q + 4)) (le 4 (sumV (encPre kind place ws k (q + 4)))) 4 (by rw [le_length]; omega)
                    rw [L2.out, le_length] at this
                    simpa [zeros, encV] using this)
                  clear hlt hk n1 hp hb b0 b1 HP s0 s1 hk' HE HO OH F3 OB
                  have L3 := Lib.hid (L2.out.trans hd.out)
                  have s0 := S0.out; have s1 := S1.out
                  have hsw : IntKind.u64.wrap (sumV (encPre kind place ws k (q + 4))) = sumV (encPre kind place ws k (q + 4)) := by rw [IntKind.wrap_u64]; omega
                  have SV : Hid (sumV (encPre kind place ws k (q + 4)) = sumV (encPre kind place ws k (q + 4))) := Lib.hid rfl
                  have HEV : Hid (encL kind place ws k ((q : Int) + 4) = encV kind place ws k (q + 4) ∧ (encV kind place ws k (q + 4)).length = q + 4) := Lib.hid (by
                    refine ⟨?_, by unfold encV; rw [List.length_append, L3.out, le_length]⟩
                    unfold encL; rw [HE'.out, if_pos rfl]; congr 1)
                  have hcall := fun (W : World) (hB : Hid (Below w.heap.size w W)) (hb : Blk W g 5 (nums .u8 (encPre kind place ws k (q + 4) ++ zeros 4))) => sum_blk (encPre kind place ws k (q + 4)) (zeros 4) q (q + 4) HT.out hB hb P2.out L3.out (by have := BM.out; omega)
                  have LL : (encPre kind place ws k (q + 4) ++ zeros 4).length = q + 4 := by rw [List.length_append, L3.out]; simp [zeros]
                  generalize encV kind place ws k (q + 4) = ev at *
                  generalize sumV (encPre kind place ws k (q + 4)) = sv at *
                  generalize encPre kind place ws k (q + 4) ++ zeros 4 = pz at *
                  go_region_held3 (fun w' => True) (trivial) (first | ((go_at_call 25; refine (hcall _ HB OB').mono ?_; rintro e w5 ⟨rfl, o5, g5⟩)) | ((go_at_call 31; refine (put_in sv q 4 4 4 o5 g5 hg s0 (by omega) (by omega) (by omega) (by have := BM.out; omega)).mono ?_; rintro e w6 ⟨rfl, o6, g6⟩; rw [HSP.out] at o6)))
                  go_wp2
                  go_ret2
                  refine ⟨.slice (some ⟨g, 0, none⟩) (q + 4) (q + 4), ?_, ?_, g6.out⟩
                  · rw [show ((q + 4 : Nat) : Int) = (q : Int) + 4 by omega, HE'.out]; rfl
                  · rw [show ((q + 4 : Nat) : Int) = (q : Int) + 4 by omega, HEV.out.1, ← HEV.out.2]
                    exact Owns.blk o6 hg rfl (by rw [HEV.out.2]; have := BM.out; simp [maxLen]; omega)
end Go.Proofs.YtambpbgmmmiocaaDoor
