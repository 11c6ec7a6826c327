/- The document's Decode answers decE and decL, at all arguments. -/
import Derived.Test.YtambpbgmmmiocaaDoorD2
import Derived.Test.YtambpbgmmmiocaaDoorF0
namespace Go.Proofs.YtambpbgmmmiocaaDoor
open Go.RowKit

/-- The first j words of record k. -/
def rowV (xs : List Int) (k j : Nat) : List Int := (List.range j).map fun i => wordV xs (4 * k + i)
theorem rowV_length (xs : List Int) (k j : Nat) : (rowV xs k j).length = j := by simp [rowV]
theorem rowV_succ (xs : List Int) (k j : Nat) : rowV xs k (j + 1) = rowV xs k j ++ [wordV xs (4 * k + j)] := by simp [rowV, List.range_succ]
theorem wordsV_row (xs : List Int) (k : Nat) : wordsV xs (4 * (k + 1)) = wordsV xs (4 * k) ++ rowV xs k 4 := by
  rw [show 4 * (k + 1) = 4 * k + 1 + 1 + 1 + 1 by omega, wordsV_succ, wordsV_succ, wordsV_succ, wordsV_succ]
  simp [rowV, List.range_succ]
set_option maxRecDepth 100000 in
set_option maxHeartbeats 4000000 in
theorem decode_ref (kind place : Int) (A : Option Addr) (L c : Nat) (xs : List Int) (w : World) (hk : -9223372036854775808 ≤ kind ∧ kind ≤ 9223372036854775807) (hp : -9223372036854775808 ≤ place ∧ place ≤ 9223372036854775807)
    (hr : Reads w .u8 A xs) (hx : IsBytes xs) (hl : xs.length = L) (hc : L ≤ c) (hm : L ≤ 140737488355328) :
    Calls Tryd.prog 24 #[.int .i64 kind, .int .i64 place, .slice A L c] w (Decoded kind place xs w) := by
  have HR := Lib.hid hr; have HX := Lib.hid hx; have HL := Lib.hid hl
  clear hr hx hl
  by_cases k1 : kind < 1
  · have HE : Hid (decE kind place xs = 1) := Lib.hid (by unfold decE; rw [if_pos k1])
    go_enter Tryd.func24, Tryd.ntmps24
    go_wp2_with (go_at_call 20; refine (fit_any 20 (by simp) _ _ (by omega)).mono ?_; rintro e w1 ⟨rfl, hb1⟩)
    go_ret2
    exact decoded_err HE.out (by decide) (by first | exact Below.refl _ _ | exact hb1 | exact below_self (by assumption) hb1)
  by_cases k2 : 255 < kind
  · have HE : Hid (decE kind place xs = 1) := Lib.hid (by unfold decE; rw [if_neg k1, if_pos k2])
    go_enter Tryd.func24, Tryd.ntmps24
    go_wp2_with (go_at_call 20; refine (fit_any 20 (by simp) _ _ (by omega)).mono ?_; rintro e w1 ⟨rfl, hb1⟩)
    go_ret2
    exact decoded_err HE.out (by decide) (by first | exact Below.refl _ _ | exact hb1 | exact below_self (by assumption) hb1)
  by_cases p1 : place < 0
  · have HE : Hid (decE kind place xs = 1) := Lib.hid (by unfold decE; rw [if_neg k1, if_neg k2, if_pos p1])
    go_enter Tryd.func24, Tryd.ntmps24
    go_wp2_with (go_at_call 20; refine (fit_any 20 (by simp) _ _ (by omega)).mono ?_; rintro e w1 ⟨rfl, hb1⟩)
    go_ret2
    exact decoded_err HE.out (by decide) (by first | exact Below.refl _ _ | exact hb1 | exact below_self (by assumption) hb1)
  by_cases f1 : fitV L = 0
  · have HE : Hid (decE kind place xs = 1) := Lib.hid (by unfold decE; rw [HL.out]; rw [if_neg k1, if_neg k2, if_neg p1, if_pos f1])
    have e1 : (fitV (L : Int) == 0) = true := by simp [f1]
    have F1 := Lib.hid f1
    clear f1
    go_enter Tryd.func24, Tryd.ntmps24
    go_wp2_with (go_at_call 20; refine (fit_any 20 (by simp) _ _ (by omega)).mono ?_; rintro e w1 ⟨rfl, hb1⟩)
    go_ret2
    exact decoded_err HE.out (by decide) (by first | exact Below.refl _ _ | exact hb1 | exact below_self (by assumption) hb1)
  obtain ⟨b0, b1, b2, b3⟩ := fit_pos f1
  have e1 : (fitV (L : Int) == 0) = false := by simp [f1]
  have HF := Lib.hid f1
  have HK := Lib.hid (And.intro k1 (And.intro k2 p1))
  clear f1 b2 b3
  obtain ⟨b, o, rfl, hcell⟩ := HR.out (by rw [HL.out]; omega)
  have HC := Lib.hid hcell
  clear hcell
  go_enter Tryd.func24, Tryd.ntmps24
  go_upto_region 3 with (go_at_call 20; refine (fit_any 20 (by simp) _ _ (by omega)).mono ?_; rintro e w1 ⟨rfl, hb1⟩)
  have HB : Hid (Below w.heap.size w w1) := Lib.hid (by first | exact hb1 | exact below_self (by assumption) hb1)
  clear hb1
  obtain ⟨q, rfl⟩ : ∃ q, L = q + 4 := ⟨L - 4, by omega⟩
  have hq0 : (0 : Int) ≤ (q : Int) := by omega
  have hq1 : (q : Int) ≤ (q : Int) + 4 := by omega
  have hqc : (q : Int) ≤ (c : Int) := by omega
  have hq4 : q + 4 - q = 4 := by omega
  have hqb : q ≤ 65532 := by omega
  have hcq : ¬ c = q := by omega
  have hqc4 : (q : Int) + 4 ≤ (c : Int) := by omega
  obtain ⟨g, hg⟩ : ∃ g, unle (xs.drop q) = g := ⟨_, rfl⟩
  obtain ⟨s, hs⟩ : ∃ s, sumV (xs.take q) = s := ⟨_, rfl⟩
  have hgr : 0 ≤ g ∧ g ≤ 4294967295 := by
    have h := unle_range (xs.drop q) fun x hx => HX.out x (List.mem_of_mem_drop hx)
    rw [show (xs.drop q).length = 4 by rw [List.length_drop, HL.out]; omega, hg] at h
    omega
  have hsr : 0 ≤ s ∧ s ≤ 4294967295 := by rw [← hs]; exact sumV_range fun x hx => HX.out x (List.mem_of_mem_take hx)
  have hcall : Calls Tryd.prog 26 #[.slice (some ⟨b, o, none⟩) q c] w1 fun e w' => e = .returned (.int .u32 s) ∧ Below w1.heap.size w1 w' := by
    have h := sum_ref (some ⟨b, o, none⟩) q c (xs.take q) w1 (Reads.head (ys := xs.drop q) (by rw [List.take_append_drop]; exact HR.out.below HB.out)) (fun x hx => HX.out x (List.mem_of_mem_take hx)) (by rw [List.length_take, HL.out]; omega) (by omega)
    rw [hs] at h
    exact h
  have readAt : ∀ W, Hid (Below w.heap.size w W) → Calls Tryd.prog 37 #[.slice (some ⟨b, o + q, none⟩) 4 (c - q)] W fun e w' => e = .returned (.int .u64 g) ∧ Below W.heap.size W w' := fun W hW => by
    have h := read_any (some ⟨b, o + q, none⟩) 4 (c - q) ((xs.drop q).take 4) W ((HR.out.below hW.out).cut) (fun x hx => HX.out x (List.mem_of_mem_drop (List.mem_of_mem_take hx))) (by rw [List.length_take, List.length_drop, HL.out]; omega) (by omega)
    rw [List.take_of_length_le (by rw [List.length_drop, HL.out]; omega), hg] at h
    exact h
  have HG := Lib.hid hg; have HS := Lib.hid hs
  clear hg hs
  go_upto_region 4 with (go_at_call 26; refine hcall.mono ?_; rintro e w2 ⟨rfl, hb2⟩)
  have HB2 := Lib.hid (below_self HB.out hb2)
  have hcallR := readAt w2 HB2
  clear hcall
  clear readAt hb2
  by_cases m1 : g = s
  rotate_left
  · have e2 : (g != s) = true := by simp [m1]
    have HE : Hid (decE kind place xs = 30) := Lib.hid (by
      unfold decE
      rw [if_neg (by have := HK.out; omega), if_neg (by have := HK.out; omega), if_neg (by have := HK.out; omega), if_neg (by rw [HL.out]; exact HF.out), HL.out, Nat.add_sub_cancel, HG.out, HS.out, if_pos m1])
    clear m1
    go_wp2_with (go_at_call 37; refine hcallR.mono ?_; rintro e w3 ⟨rfl, hb3⟩)
    go_ret2
    exact decoded_err HE.out (by decide) (below_self HB2.out hb3)
  subst m1
  have hcallH : ∀ W, Hid (Below w.heap.size w W) → Calls Tryd.prog 38 #[.slice (some ⟨b, o, none⟩) (q + 4) c] W fun e w' => e = .returned (.bool (headV xs)) ∧ Below W.heap.size W w' := fun W hW =>
    head_any _ (q + 4) c xs W (HR.out.below hW.out) HX.out HL.out HF.out hc
  go_upto_region 6 with (go_at_call 37; refine hcallR.mono ?_; rintro e w3 ⟨rfl, hb3⟩)
  have HB3 := Lib.hid (below_self HB2.out hb3)
  have hcall2 := hcallH w3 HB3
  clear hcallR hcallH hb3 hgr hsr hcq hq4
  rcases HH : headV xs with _ | _
  · have HE : Hid (decE kind place xs = 31) := Lib.hid (by
      unfold decE
      rw [if_neg (by have := HK.out; omega), if_neg (by have := HK.out; omega), if_neg (by have := HK.out; omega), if_neg (by rw [HL.out]; exact HF.out), HL.out, Nat.add_sub_cancel, HG.out, HS.out, if_neg (by simp), if_pos HH])
    rw [HH] at hcall2
    clear HH
    go_wp2_with (go_at_call 38; refine hcall2.mono ?_; rintro e w4 ⟨rfl, hb4⟩)
    go_ret2
    exact decoded_err HE.out (by decide) (below_self HB3.out hb4)
  rw [HH] at hcall2
  have HV := Lib.hid HH
  clear HH
  go_upto_region 9 with (go_at_call 38; refine hcall2.mono ?_; rintro e w4 ⟨rfl, hb4⟩)
  have HB4 := Lib.hid (below_self HB3.out hb4)
  clear hcall2 hb4
  obtain ⟨x5, h5⟩ : ∃ x, xs[5]? = some x := ⟨_, List.getElem?_eq_getElem (by rw [HL.out]; omega)⟩
  have c5 := cell_kept HB4.out (HC.out 5 x5 h5)
  have H5 := Lib.hid h5
  have x5r := HX.out x5 (List.mem_of_getElem? h5)
  have hq5 : (5 : Int) < (q : Int) + 4 := by omega
  have hc16 : (16 : Int) ≤ (c : Int) := by omega
  obtain ⟨P, hP⟩ : ∃ P, unle ((xs.drop 8).take 8) = P := ⟨_, rfl⟩
  have read8 : ∀ W, Hid (Below w.heap.size w W) → Calls Tryd.prog 37 #[.slice (some ⟨b, o + 8, none⟩) 8 (c - 8)] W fun e w' => e = .returned (.int .u64 P) ∧ Below W.heap.size W w' := fun W hW => by
    have h := read_any (some ⟨b, o + 8, none⟩) 8 (c - 8) ((xs.drop 8).take 8) W ((HR.out.below hW.out).cut) (fun x hx => HX.out x (List.mem_of_mem_drop (List.mem_of_mem_take hx))) (by rw [List.length_take, List.length_drop, HL.out]; omega) (by omega)
    rw [hP] at h; exact h
  have HP := Lib.hid hP
  have hcall := read8 w4 HB4
  have H32 : Hid ((x5 ≠ kind ∨ P ≠ place) → Hid (decE kind place xs = 32)) := Lib.hid (fun hv => Lib.hid (by
    unfold decE
    rw [if_neg (by have := HK.out; omega), if_neg (by have := HK.out; omega), if_neg (by have := HK.out; omega), if_neg (by rw [HL.out]; exact HF.out), HL.out, Nat.add_sub_cancel, HG.out, HS.out, if_neg (by simp), if_neg (by rw [HV.out]; simp), H5.out, HP.out]
    rcases hv with h | h
    · rw [if_pos (by simpa using h)]
    · by_cases h5 : (some x5 : Option Int) ≠ some kind
      · rw [if_pos h5]
      · rw [if_neg h5, if_pos h]))
  clear h5 hP read8
  by_cases v1 : x5 = kind
  rotate_left
  · have HE := H32.out (.inl v1)
    have e3 : (x5 != kind) = true := by simp [v1]
    clear v1
    go_wp2
    go_ret2
    exact decoded_err HE.out (by decide) HB4.out
  subst v1
  by_cases v2 : P = place
  rotate_left
  · have HE := H32.out (.inr v2)
    have e4 : (P != place) = true := by simp [v2]
    clear v2
    go_wp2_with (go_at_call 37; refine hcall.mono ?_; rintro e w6 ⟨rfl, hb6⟩)
    go_ret2
    exact decoded_err HE.out (by decide) (below_self HB4.out hb6)
  subst v2
  have HE : Hid (decE x5 P xs = 0) := Lib.hid (by
    unfold decE
    rw [if_neg (by have := HK.out; omega), if_neg (by have := HK.out; omega), if_neg (by have := HK.out; omega), if_neg (by rw [HL.out]; exact HF.out), HL.out, Nat.add_sub_cancel, HG.out, HS.out, if_neg (by simp), if_neg (by rw [HV.out]; simp), H5.out, HP.out, if_neg (by simp), if_neg (by simp)])
  go_upto_region 11 with (go_at_call 37; refine hcall.mono ?_; rintro e w6 ⟨rfl, hb6⟩)
  have HB6 := Lib.hid (below_self HB4.out hb6)
  clear hcall hb6 c5 H32
  obtain ⟨nn, hnn⟩ : ∃ nn : Nat, numV xs = nn := ⟨(numV xs).toNat, by have := (numV_range HX.out (by rw [HL.out]; omega)).1; omega⟩
  have hnn' : nn ≤ 65535 := by have := (numV_range HX.out (by rw [HL.out]; omega)).2; omega
  have HN := Lib.hid hnn
  have hnq : 32 * nn + 28 ≤ q := by
    have h := HV.out
    unfold headV at h
    simp only [Bool.and_eq_true, decide_eq_true_eq, hnn, HL.out] at h
    obtain ⟨_, _, _, h3⟩ := fit_pos HF.out
    have := h.1.1.2
    rw [h3] at this
    omega
  have hc8 : (8 : Int) ≤ (c : Int) := by omega
  have hcall : Calls Tryd.prog 37 #[.slice (some ⟨b, o + 6, none⟩) 2 (c - 6)] w6 fun e w' => e = .returned (.int .u64 (nn : Int)) ∧ Below w6.heap.size w6 w' := by
    have h := read_any (some ⟨b, o + 6, none⟩) 2 (c - 6) ((xs.drop 6).take 2) w6 ((HR.out.below HB6.out).cut) (fun x hx => HX.out x (List.mem_of_mem_drop (List.mem_of_mem_take hx))) (by rw [List.length_take, List.length_drop, HL.out]; omega) (by omega)
    exact (show unle ((xs.drop 6).take 2) = (nn : Int) from hnn) ▸ h
  clear hnn
  go_upto_region 14 with (go_at_call 37; refine hcall.mono ?_; rintro e w7 ⟨rfl, hb7⟩)
  have HB7 := Lib.hid (below_self HB6.out hb7)
  clear hcall hb7 hc8 hc16 hq5 HC H5 HP x5r b0 b1 e1
  go_loopw [11, 12] (fun s i wr => ∃ k : Nat, k ≤ nn ∧ i = .int .i64 k ∧ Hid (wr.ownsRow w.heap.size 26 4 s k (nums .u64 (wordsV xs (4 * k)))) ∧ Hid (Below w.heap.size w wr)) (fun _ i _ => nn - (intOf i).toNat)
  case atStart => exact ⟨0, by omega, rfl, Lib.hid (World.ownsRow_nil _ _ _ _), HB7⟩
  case round =>
    obtain ⟨k, hk', rfl, HO, HBk⟩ := hrel
    by_cases hlt : k < nn
    · go_upto_region 18 with (fail)
      have HN0 : Hid (Blk (wr.alloc (.cells (nums .u64 [0, 0, 0, 0]).toArray 26)) wr.heap.size 26 (nums .u64 (rowV xs k 0 ++ zeros (4 - 0)))) := Lib.hid (Blk.new wr 26 (nums .u64 [0, 0, 0, 0]))
      have HOa := Lib.hid (rows_below HO.out (below1 wr (.cells (nums .u64 [0, 0, 0, 0]).toArray 26)))
      have HBa := Lib.hid (HBk.out.alloc HBk.out.size (.cells (nums .u64 [0, 0, 0, 0]).toArray 26))
      have HSZ : Hid (w.heap.size ≤ wr.heap.size) := Lib.hid HBk.out.size
      have HOB : Hid (∀ g, u11.ownBlock = some g → g < wr.heap.size) := Lib.hid (fun g hg => (World.ownsRow.lt HO.out g hg).2)
      have HG0 : Hid (w.heap.size ≤ (wr.alloc (.cells (nums .u64 [0, 0, 0, 0]).toArray 26)).heap.size) := Lib.hid HBa.out.size
      clear HO HBk
      show Code.wp _ _ _ _ (wr.alloc (.cells (nums .u64 [0, 0, 0, 0]).toArray 26))
      generalize wr.alloc (.cells (nums .u64 [0, 0, 0, 0]).toArray 26) = W0 at *
      generalize wr.heap.size = g3 at *
      go_loopw [14] (fun i wr2 => ∃ j : Nat, j ≤ 4 ∧ i = .int .i64 j ∧ Hid (Blk wr2 g3 26 (nums .u64 (rowV xs k j ++ zeros (4 - j)))) ∧ Hid (wr2.ownsRow w.heap.size 26 4 u11 k (nums .u64 (wordsV xs (4 * k)))) ∧ Hid (Below w.heap.size w wr2)) (fun i _ => 4 - (intOf i).toNat)
      case atStart => exact ⟨0, by omega, rfl, HN0, HOa, HBa⟩
      case round =>
        obtain ⟨j, hj, rfl, HJ, HOJ, HBJ⟩ := hrel
        by_cases hjt : j < 4
        · obtain ⟨p, hp'⟩ : ∃ p, p = 28 + 8 * (4 * k + j) := ⟨_, rfl⟩
          have hpq : p + 8 ≤ q := by omega
          have hw5 : 28 + 32 * (k : Int) + 8 * (j : Int) = (p : Int) := by omega
          have hp8 : (p : Int) + 8 ≤ (c : Int) := by omega
          have hp0 : (0 : Int) ≤ (p : Int) := by omega
          obtain ⟨v, hv⟩ : ∃ v, wordV xs (4 * k + j) = v := ⟨_, rfl⟩
          have hvr := wordV_range HX.out (4 * k + j)
          rw [hv] at hvr
          have hcall : Calls Tryd.prog 37 #[.slice (some ⟨b, o + p, none⟩) 8 (c - p)] wr fun e w' => e = .returned (.int .u64 v) ∧ Below wr.heap.size wr w' := by
            have h := read_any (some ⟨b, o + p, none⟩) 8 (c - p) ((xs.drop p).take 8) wr ((HR.out.below HBJ.out).cut) (fun x hx => HX.out x (List.mem_of_mem_drop (List.mem_of_mem_take hx))) (by rw [List.length_take, List.length_drop, HL.out]; omega) (by omega)
            have hv2 : unle ((xs.drop p).take 8) = v := by rw [hp']; exact hv
            rw [hv2] at h; exact h
          have HPP := Lib.hid hp'; have HVV := Lib.hid hv
          have hcell0 : wr.cell? ⟨g3, j, none⟩ = some (.int .u64 0) := by
            rw [HJ.out.cell, nums_get, List.getElem?_append_right (by rw [rowV_length]; omega), rowV_length, Nat.sub_self]
            unfold zeros
            rw [List.getElem?_replicate, if_pos (by omega)]; rfl
          have HC0 := Lib.hid hcell0
          have hz0 := HJ.out.frozen j
          have HZ0 := Lib.hid hz0
          clear hp' hv hcell0 hz0
          have hp88 : p + 8 - p = 8 := by omega
          go_wp2_with (go_at_call 37; refine hcall.mono ?_; rintro e w8 ⟨rfl, hb8⟩; have hcell := cell_kept hb8 HC0.out; have hz := (HJ.out.self hb8).frozen j; have HB8 := Lib.hid hb8; clear hb8)
          clear hcell hz
          go_roundw
          case rel =>
            have h := (HJ.out.self HB8.out).set_ j (.int .u64 v)
            rw [nums_set] at h
            have e : (rowV xs k j ++ zeros (4 - j)).set j v = rowV xs k (j + 1) ++ zeros (4 - (j + 1)) := by
              rw [List.set_append_right _ _ (by rw [rowV_length]; omega), rowV_length, Nat.sub_self, show 4 - j = (4 - (j + 1)) + 1 by omega, rowV_succ, HVV.out, List.append_assoc]
              rfl
            rw [e] at h
            exact ⟨j + 1, by omega, by go_num, Lib.hid h, Lib.hid (World.ownsRow.kept (rows_below HOJ.out HB8.out) (only_setCell (p := ⟨g3, j, none⟩) (only_refl _ _) (.inl rfl) _) (by
              rcases hv : u11.ownBlock with _ | gg
              · exact .inl rfl
              · refine .inr fun e => ?_
                have := HOB.out gg hv
                have e2 : gg = g3 := Option.some.inj e
                omega)), Lib.hid ((below_self HBJ.out HB8.out).setCell (p := ⟨g3, j, none⟩) HSZ.out _)⟩
          case measure => simp [intOf]; omega
        · obtain rfl : j = 4 := by omega
          obtain ⟨x0, hx0⟩ : ∃ x, wordV xs (4 * k + 0) = x := ⟨_, rfl⟩
          obtain ⟨x1, hx1⟩ : ∃ x, wordV xs (4 * k + 1) = x := ⟨_, rfl⟩
          obtain ⟨x2, hx2⟩ : ∃ x, wordV xs (4 * k + 2) = x := ⟨_, rfl⟩
          obtain ⟨x3, hx3⟩ : ∃ x, wordV xs (4 * k + 3) = x := ⟨_, rfl⟩
          have hrow : rowV xs k 4 = [x0, x1, x2, x3] := by
            show [wordV xs (4 * k + 0), wordV xs (4 * k + 1), wordV xs (4 * k + 2), wordV xs (4 * k + 3)] = _
            rw [hx0, hx1, hx2, hx3]
          have hj4 : Blk wr g3 26 (nums .u64 [x0, x1, x2, x3]) := by
            have h := HJ.out
            rw [hrow] at h
            simpa [zeros] using h
          have HROW := Lib.hid hrow
          have c0 := hj4.cell 0
          have c1 := hj4.cell 1
          have c2 := hj4.cell 2
          have c3 := hj4.cell 3
          replace c0 : wr.cell? ⟨g3, 0, none⟩ = some (.int .u64 x0) := c0
          replace c1 : wr.cell? ⟨g3, 1, none⟩ = some (.int .u64 x1) := c1
          replace c2 : wr.cell? ⟨g3, 2, none⟩ = some (.int .u64 x2) := c2
          replace c3 : wr.cell? ⟨g3, 3, none⟩ = some (.int .u64 x3) := c3
          have hB : Hid (Below w.heap.size w (wr.alloc (.cells (nums .u64 [x0, x1, x2, x3]).toArray 26))) := Lib.hid (HBJ.out.alloc HBJ.out.size _)
          have hO := Lib.hid (rows_below HOJ.out (below1 wr (.cells (nums .u64 [x0, x1, x2, x3]).toArray 26)))
          have hN := Lib.hid (reads_new wr 26 .u64 [x0, x1, x2, x3])
          have hsz := HBJ.out.size
          clear hx0 hx1 hx2 hx3 hrow hj4
          go_wp2_with (at_builtin; refine wpList_more rfl _ _ 32 rfl w.heap.size 26 _ 4 32 Tryd.underlying32 info26 rfl (by decide) u11 k (nums .u64 (wordsV xs (4 * k))) rfl hO.out (some ⟨wr.heap.size, 0, none⟩) 1 1 .u64 [x0, x1, x2, x3] rfl hN.out rfl (by simp [maxLen]; omega) (by omega) (by simp; omega) ?_; intro v2 w9 o2 g2 a2)
          go_roundw
          case rel => exact ⟨k + 1, by omega, by go_num, Lib.hid (by rw [wordsV_row, HROW.out, nums_append]; exact o2), Lib.hid (hB.out.grown g2 hB.out.size (fun i e => (World.ownsRow.lt hO.out i e).1))⟩
          case measure => simp [intOf]; omega
    · obtain rfl : k = nn := by omega
      have HD : Hid (decN x5 P xs = k ∧ decL x5 P xs = wordsV xs (4 * k)) := Lib.hid (by
        have hN : decN x5 P xs = k := by unfold decN; rw [if_pos HE.out, HN.out]; rfl
        exact ⟨hN, by unfold decL; rw [hN]⟩)
      go_wp2
      go_ret2
      exact ⟨u11, by rw [HE.out]; rfl, by rw [HD.out.1, HD.out.2]; exact HO.out, HBk.out⟩
end Go.Proofs.YtambpbgmmmiocaaDoor
