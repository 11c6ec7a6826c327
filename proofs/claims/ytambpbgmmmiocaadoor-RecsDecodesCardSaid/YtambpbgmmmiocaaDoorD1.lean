/- head of the document's answer: does a block say what a block of records says ahead of its words? -/
import Derived.Test.YtambpbgmmmiocaaDoorH5
namespace Go.Proofs.YtambpbgmmmiocaaDoor
open Go.RowKit

/-- The number of records that a block names. -/
def numV (xs : List Int) : Int := unle ((xs.drop 6).take 2)
def headV (xs : List Int) : Bool :=
  decide (unle (xs.take 4) = 1095914579) && (xs[4]? == some 1) && (xs[5]? != some 0) && decide (1 ≤ numV xs) && decide (numV xs ≤ fitV xs.length) && blankV ((xs.drop 16).take 12) &&
    blankV ((xs.drop (28 + 32 * (numV xs).toNat)).take (xs.length - 4 - (28 + 32 * (numV xs).toNat)))
theorem blank_get {xs : List Int} {a m : Nat} : blankV ((xs.drop a).take m) = true ↔ ∀ j, a ≤ j → j < a + m → ∀ x, xs[j]? = some x → x = 0 := by
  unfold blankV
  rw [List.all_eq_true]
  constructor
  · intro h j h1 h2 x hx
    have : x ∈ (xs.drop a).take m := List.mem_of_getElem? (i := j - a) (by rw [List.getElem?_take, if_pos (by omega), List.getElem?_drop, show a + (j - a) = j by omega]; exact hx)
    simpa using h x this
  · intro h x hx
    obtain ⟨i, hi⟩ := List.getElem?_of_mem hx
    rw [List.getElem?_take] at hi
    split at hi
    · rw [List.getElem?_drop] at hi
      simpa using h (a + i) (by omega) (by omega) x hi
    · cases hi
theorem blank_not {xs : List Int} {a m j : Nat} {x : Int} (h1 : a ≤ j) (h2 : j < a + m) (hx : xs[j]? = some x) (h0 : x ≠ 0) : blankV ((xs.drop a).take m) = false := by
  rcases h : blankV ((xs.drop a).take m) with _ | _
  · rfl
  · exact absurd (blank_get.1 h j h1 h2 x hx) h0
theorem numV_range {xs : List Int} (h : IsBytes xs) (hl : 8 ≤ xs.length) : 0 ≤ numV xs ∧ numV xs ≤ 65535 := by
  have := unle_range ((xs.drop 6).take 2) fun x hx => h x (List.mem_of_mem_drop (List.mem_of_mem_take hx))
  rw [show ((xs.drop 6).take 2).length = 2 by simp; omega] at this
  unfold numV
  omega
set_option maxRecDepth 100000 in
set_option maxHeartbeats 4000000 in
theorem head_any (A : Option Addr) (L c : Nat) (xs : List Int) (w : World) (hr : Reads w .u8 A xs) (hx : IsBytes xs) (hxm : xs.length = L) (hL : fitV L ≠ 0) (hc : L ≤ c) :
    Calls Tryd.prog 38 #[.slice A L c] w fun e w' => e = .returned (.bool (headV xs)) ∧ Below w.heap.size w w' := by
  obtain ⟨L0, L1, L2, L3⟩ := fit_pos hL
  obtain ⟨b, o, rfl, hcell⟩ := hr (by omega)
  obtain ⟨q0, q1⟩ := numV_range hx (by omega)
  obtain ⟨nn, hnn⟩ : ∃ nn : Nat, numV xs = nn := ⟨(numV xs).toNat, by omega⟩
  have hnn' : nn ≤ 65535 := by omega
  obtain ⟨x4, h4⟩ : ∃ x, xs[4]? = some x := ⟨_, List.getElem?_eq_getElem (by omega)⟩
  obtain ⟨x5, h5⟩ : ∃ x, xs[5]? = some x := ⟨_, List.getElem?_eq_getElem (by omega)⟩
  have c4 := hcell 4 x4 h4
  have c5 := hcell 5 x5 h5
  have call2 := fun (W : World) (hb : Below w.heap.size w W) => read_any (some ⟨b, o + 6, none⟩) 2 (c - 6) ((xs.drop 6).take 2) W ((hr.below hb).cut) (fun x h => hx x (List.mem_of_mem_drop (List.mem_of_mem_take h))) (by simp; omega) (by omega)
  have call4 := fun (W : World) (hb : Below w.heap.size w W) => read_any (some ⟨b, o, none⟩) 4 c (xs.take 4) W (Reads.head (ys := xs.drop 4) (by rw [List.take_append_drop]; exact hr.below hb)) (fun x h => hx x (List.mem_of_mem_take h)) (by simp; omega) (by omega)
  have callF := fun (W : World) => fit_any 20 (by simp) (L : Int) W (by omega)
  have HC := Lib.hid hcell; have HX := Lib.hid hx; have HN := Lib.hid hnn; have HL := Lib.hid hxm; have H4 := Lib.hid h4; have H5 := Lib.hid h5; have HF := Lib.hid hL
  have hc8 : (8 : Int) ≤ (c : Int) := by omega
  have hc4 : (4 : Int) ≤ (c : Int) := by omega
  have hL4 : (4 : Int) < (L : Int) := by omega
  have hL5 : (5 : Int) < (L : Int) := by omega
  obtain ⟨m, hm⟩ : ∃ m, unle (xs.take 4) = m := ⟨_, rfl⟩
  have hn2 : unle ((xs.drop 6).take 2) = (nn : Int) := hnn
  rw [hm] at call4; rw [hn2] at call2
  have HM := Lib.hid hm
  have HXX := Lib.hid hr
  obtain ⟨F, hF⟩ : ∃ F, fitV (L : Int) = F := ⟨_, rfl⟩
  rw [hF] at callF
  have HFF := Lib.hid hF
  have hw : IntKind.i64.wrap (nn : Int) = (nn : Int) := by rw [IntKind.wrap_i64]; omega
  clear hcell hx hnn hxm h4 h5 hL hm hn2 hr hF q0 q1 L2 L3
  go_enter Tryd.func38, Tryd.ntmps38
  by_cases m0 : ¬ m = 1095914579
  · have e0 : (m != 1095914579) = true := by simpa using m0
    have HV : Hid (headV xs = false) := Lib.hid (by unfold headV; rw [HM.out]; simp [m0])
    clear HXX
    go_wp2_with (first | ((go_at_call 37; with_reducible refine (call2 _ (Below.refl _ _)).mono ?_; rintro e w2 ⟨rfl, b2⟩)) | ((go_at_call 37; with_reducible refine (call4 _ b2).mono ?_; rintro e w3 ⟨rfl, b3⟩; have b23 := below_self b2 b3; have d4 := cell_kept b23 c4; have d5 := cell_kept b23 c5)) | ((go_at_call 20; with_reducible refine (callF _).mono ?_; rintro e w4 ⟨rfl, b4⟩)))
    go_ret
    exact ⟨ret_bool HV.out.symm, by first | exact b23 | exact below_self b23 b4⟩
  replace m0 := Classical.not_not.1 m0
  have e0 : (m != 1095914579) = false := by simp [m0]
  by_cases m1 : ¬ x4 = 1
  · have e1 : (x4 != 1) = true := by simpa using m1
    have HV : Hid (headV xs = false) := Lib.hid (by unfold headV; rw [H4.out]; simp [m1])
    clear HXX
    go_wp2_with (first | ((go_at_call 37; with_reducible refine (call2 _ (Below.refl _ _)).mono ?_; rintro e w2 ⟨rfl, b2⟩)) | ((go_at_call 37; with_reducible refine (call4 _ b2).mono ?_; rintro e w3 ⟨rfl, b3⟩; have b23 := below_self b2 b3; have d4 := cell_kept b23 c4; have d5 := cell_kept b23 c5)) | ((go_at_call 20; with_reducible refine (callF _).mono ?_; rintro e w4 ⟨rfl, b4⟩)))
    go_ret
    exact ⟨ret_bool HV.out.symm, by first | exact b23 | exact below_self b23 b4⟩
  replace m1 := Classical.not_not.1 m1
  have e1 : (x4 != 1) = false := by simp [m1]
  by_cases m2 : x5 = 0
  · have e2 : (x5 == 0) = true := by simp [m2]
    have HV : Hid (headV xs = false) := Lib.hid (by unfold headV; rw [H5.out]; simp [m2])
    clear HXX
    go_wp2_with (first | ((go_at_call 37; with_reducible refine (call2 _ (Below.refl _ _)).mono ?_; rintro e w2 ⟨rfl, b2⟩)) | ((go_at_call 37; with_reducible refine (call4 _ b2).mono ?_; rintro e w3 ⟨rfl, b3⟩; have b23 := below_self b2 b3; have d4 := cell_kept b23 c4; have d5 := cell_kept b23 c5)) | ((go_at_call 20; with_reducible refine (callF _).mono ?_; rintro e w4 ⟨rfl, b4⟩)))
    go_ret
    exact ⟨ret_bool HV.out.symm, by first | exact b23 | exact below_self b23 b4⟩
  have e2 : (x5 == 0) = false := by simp [m2]
  by_cases m3 : nn < 1
  · have e3 : decide ((nn : Int) < 1) = true := by simp; omega
    have HV : Hid (headV xs = false) := Lib.hid (by unfold headV; rw [HN.out]; simp; omega)
    clear HXX
    go_wp2_with (first | ((go_at_call 37; with_reducible refine (call2 _ (Below.refl _ _)).mono ?_; rintro e w2 ⟨rfl, b2⟩)) | ((go_at_call 37; with_reducible refine (call4 _ b2).mono ?_; rintro e w3 ⟨rfl, b3⟩; have b23 := below_self b2 b3; have d4 := cell_kept b23 c4; have d5 := cell_kept b23 c5)) | ((go_at_call 20; with_reducible refine (callF _).mono ?_; rintro e w4 ⟨rfl, b4⟩)))
    go_ret
    exact ⟨ret_bool HV.out.symm, by first | exact b23 | exact below_self b23 b4⟩
  have e3 : decide ((nn : Int) < 1) = false := by simp; omega
  by_cases m4 : F < nn
  · have e4 : decide (F < (nn : Int)) = true := by simp; omega
    have HV : Hid (headV xs = false) := Lib.hid (by unfold headV; rw [HN.out, HL.out, HFF.out]; simp; omega)
    clear HXX
    go_wp2_with (first | ((go_at_call 37; with_reducible refine (call2 _ (Below.refl _ _)).mono ?_; rintro e w2 ⟨rfl, b2⟩)) | ((go_at_call 37; with_reducible refine (call4 _ b2).mono ?_; rintro e w3 ⟨rfl, b3⟩; have b23 := below_self b2 b3; have d4 := cell_kept b23 c4; have d5 := cell_kept b23 c5)) | ((go_at_call 20; with_reducible refine (callF _).mono ?_; rintro e w4 ⟨rfl, b4⟩)))
    go_ret
    exact ⟨ret_bool HV.out.symm, by first | exact b23 | exact below_self b23 b4⟩
  have e4 : decide (F < (nn : Int)) = false := by simp; omega
  go_upto_region 4 with (first | ((go_at_call 37; with_reducible refine (call2 _ (Below.refl _ _)).mono ?_; rintro e w2 ⟨rfl, b2⟩)) | ((go_at_call 37; with_reducible refine (call4 _ b2).mono ?_; rintro e w3 ⟨rfl, b3⟩; have b23 := below_self b2 b3; have d4 := cell_kept b23 c4; have d5 := cell_kept b23 c5)) | ((go_at_call 20; with_reducible refine (callF _).mono ?_; rintro e w4 ⟨rfl, b4⟩)))
  have HB := Lib.hid (below_self b23 b4)
  have hFn : Hid (32 * nn + 32 ≤ L ∧ 1 ≤ nn ∧ (nn : Int) ≤ F) := Lib.hid (by
    have h := HFF.out
    obtain ⟨_, _, _, h3⟩ := fit_pos HF.out
    rw [h3] at h
    omega)
  have HV0 : Hid (headV xs = (blankV ((xs.drop 16).take 12) && blankV ((xs.drop (28 + 32 * nn)).take (L - 4 - (28 + 32 * nn))))) := Lib.hid (by
    unfold headV
    rw [HM.out, H4.out, H5.out, HN.out, HL.out, HFF.out, m0, m1]
    have h1 : decide ((1 : Int) ≤ (nn : Int)) = true := by have := hFn.out; simp; omega
    have h2 : decide ((nn : Int) ≤ F) = true := by have := hFn.out; simp; omega
    have h3 : (some x5 != some (0 : Int)) = true := by simpa using m2
    rw [h1, h2, h3]
    simp)
  clear call2 call4 callF b2 b3 b23 d4 d5 b4 e0 e1 e2 e3 e4 m0 m1 m2 m3 m4 c4 c5 H4 H5 HM HFF HF HXX
  go_wp2
  go_loop [4] (fun i => ∃ k : Nat, 16 ≤ k ∧ k ≤ 28 ∧ i = .int .i64 k ∧ Hid (∀ j, 16 ≤ j → j < k → ∀ x, xs[j]? = some x → x = 0)) (fun i => 28 - (intOf i).toNat)
  case atStart => exact ⟨16, by omega, by omega, rfl, Lib.hid (fun j h1 h2 => by omega)⟩
  case round =>
    obtain ⟨k, hk1, hk2, rfl, HZ⟩ := hrel
    by_cases hlt : k < 28
    · obtain ⟨x, hx⟩ : ∃ x, xs[k]? = some x := ⟨_, List.getElem?_eq_getElem (by rw [HL.out]; omega)⟩
      have hcell := cell_kept HB.out (HC.out k x hx)
      have GX := Lib.hid hx
      clear hx
      by_cases hx0 : x = 0
      · have e1 : (x != 0) = false := by simp [hx0]
        have HN2 : Hid (∀ j, 16 ≤ j → j < k + 1 → ∀ x, xs[j]? = some x → x = 0) := Lib.hid fun j h1 h2 y hy => by
          by_cases hj : j < k
          · exact HZ.out j h1 hj y hy
          · obtain rfl : j = k := by omega
            rw [GX.out] at hy; cases hy; exact hx0
        clear hx0
        go_wp2
        go_round
        case rel => exact ⟨k + 1, by omega, by omega, by go_num, HN2⟩
        case measure => simp [intOf]; omega
      · have e1 : (x != 0) = true := by simp [hx0]
        have HR : Hid (headV xs = false) := Lib.hid (by rw [HV0.out, blank_not (j := k) hk1 (by omega) GX.out hx0]; rfl)
        clear hx0
        go_wp2
        go_ret
        exact ⟨ret_bool HR.out.symm, HB.out⟩
    · obtain rfl : k = 28 := by omega
      have HZ1 : Hid (blankV ((xs.drop 16).take 12) = true) := Lib.hid (blank_get.2 fun j h1 h2 x hx => HZ.out j h1 (by omega) x hx)
      have hL4' : (4 : Int) ≤ (L : Int) := by omega
      obtain ⟨e, he⟩ : ∃ e, e + 4 = L := ⟨L - 4, by omega⟩
      obtain ⟨s0, hs0⟩ : ∃ s0, s0 = 28 + 32 * nn := ⟨_, rfl⟩
      have hse : s0 ≤ e := by have := hFn.out; omega
      have heb : e ≤ 65536 := by omega
      have hw2 : IntKind.i64.wrap (32 * (nn : Int)) = 32 * (nn : Int) := by rw [IntKind.wrap_i64]; omega
      have hw3 : IntKind.i64.wrap (28 + 32 * (nn : Int)) = (s0 : Int) := by rw [IntKind.wrap_i64]; omega
      have hw4 : 28 + 32 * (nn : Int) = (s0 : Int) := by omega
      have HS0 := Lib.hid hs0
      have hw5 : IntKind.i64.wrap ((L : Int) - 4) = (e : Int) := by rw [IntKind.wrap_i64]; omega
      have hw6 : (L : Int) - 4 = (e : Int) := by omega
      have HE := Lib.hid he
      clear hlt HZ hs0 he hnn' L0 L1
      go_wp2
      go_loop [5] (fun i => ∃ k : Nat, s0 ≤ k ∧ k ≤ e ∧ i = .int .i64 k ∧ Hid (∀ j, s0 ≤ j → j < k → ∀ x, xs[j]? = some x → x = 0)) (fun i => e - (intOf i).toNat)
      case atStart => exact ⟨s0, by omega, by omega, by go_num, Lib.hid (fun j h1 h2 => by omega)⟩
      case round =>
        obtain ⟨k, hk1, hk2, rfl, HZ⟩ := hrel
        by_cases hlt : k < e
        · obtain ⟨x, hx⟩ : ∃ x, xs[k]? = some x := ⟨_, List.getElem?_eq_getElem (by rw [HL.out]; have := HE.out; omega)⟩
          have hcell := cell_kept HB.out (HC.out k x hx)
          have GX := Lib.hid hx
          have hkL : (k : Int) < (L : Int) := by have := HE.out; omega
          clear hx
          by_cases hx0 : x = 0
          · have e1 : (x != 0) = false := by simp [hx0]
            have HN2 : Hid (∀ j, s0 ≤ j → j < k + 1 → ∀ x, xs[j]? = some x → x = 0) := Lib.hid fun j h1 h2 y hy => by
              by_cases hj : j < k
              · exact HZ.out j h1 hj y hy
              · obtain rfl : j = k := by omega
                rw [GX.out] at hy; cases hy; exact hx0
            clear hx0
            go_wp2
            go_round
            case rel => exact ⟨k + 1, by omega, by omega, by go_num, HN2⟩
            case measure => simp [intOf]; omega
          · have e1 : (x != 0) = true := by simp [hx0]
            have HR : Hid (headV xs = false) := Lib.hid (by rw [HV0.out, ← HS0.out, blank_not (j := k) hk1 (by have := HE.out; omega) GX.out hx0, Bool.and_false])
            clear hx0
            go_wp2
            go_ret
            exact ⟨ret_bool HR.out.symm, HB.out⟩
        · obtain rfl : k = e := by omega
          have HR : Hid (headV xs = true) := Lib.hid (by
            rw [HV0.out, HZ1.out, ← HS0.out, Bool.true_and]
            exact blank_get.2 fun j h1 h2 x hx => HZ.out j h1 (by have := HE.out; omega) x hx)
          go_wp2
          go_ret
          exact ⟨ret_bool HR.out.symm, HB.out⟩
end Go.Proofs.YtambpbgmmmiocaaDoor
