/- Fit, blank of package recs; number, read of the document's answer. -/
import Derived.Test.YtambpbgmmmiocaaDoorE2
namespace Go.Proofs.YtambpbgmmmiocaaDoor
open Go.RowKit

def fitV (b : Int) : Int := if b < 64 then 0 else if 65536 < b then 0 else if b % 32 ≠ 0 then 0 else b / 32 - 1
theorem fit_any (f : FuncId) (hf : f = 19 ∨ f = 20) (b : Int) (w : World) (hb : -9223372036854775808 ≤ b ∧ b ≤ 9223372036854775807) :
    Calls Tryd.prog f #[.int .i64 b] w fun e w' => e = .returned (.int .i64 (fitV b)) ∧ Below w.heap.size w w' := by
  by_cases h1 : b < 64
  · have H : Hid (fitV b = 0) := Lib.hid (by unfold fitV; rw [if_pos h1])
    rcases hf with rfl | rfl
    · go_enter Tryd.func19, Tryd.ntmps19
      go_wp2
      go_ret
      exact ⟨ret_int H.out.symm, Below.refl _ _⟩
    · go_enter Tryd.func20, Tryd.ntmps20
      go_wp2
      go_ret
      exact ⟨ret_int H.out.symm, Below.refl _ _⟩
  · by_cases h2 : 65536 < b
    · have H : Hid (fitV b = 0) := Lib.hid (by unfold fitV; rw [if_neg h1, if_pos h2])
      rcases hf with rfl | rfl
      · go_enter Tryd.func19, Tryd.ntmps19
        go_wp2
        go_ret
        exact ⟨ret_int H.out.symm, Below.refl _ _⟩
      · go_enter Tryd.func20, Tryd.ntmps20
        go_wp2
        go_ret
        exact ⟨ret_int H.out.symm, Below.refl _ _⟩
    · by_cases h3 : b % 32 = 0
      · have H : Hid (fitV b = b / 32 - 1) := Lib.hid (by unfold fitV; rw [if_neg h1, if_neg h2, if_neg (by omega)])
        have e1 : (b % 32 != 0) = false := by simp [h3]
        clear h3
        rcases hf with rfl | rfl
        · go_enter Tryd.func19, Tryd.ntmps19
          go_wp2
          go_ret
          exact ⟨ret_int H.out.symm, Below.refl _ _⟩
        · go_enter Tryd.func20, Tryd.ntmps20
          go_wp2
          go_ret
          exact ⟨ret_int H.out.symm, Below.refl _ _⟩
      · have H : Hid (fitV b = 0) := Lib.hid (by unfold fitV; rw [if_neg h1, if_neg h2, if_pos h3])
        have e1 : (b % 32 != 0) = true := by simp [h3]
        clear h3
        rcases hf with rfl | rfl
        · go_enter Tryd.func19, Tryd.ntmps19
          go_wp2
          go_ret
          exact ⟨ret_int H.out.symm, Below.refl _ _⟩
        · go_enter Tryd.func20, Tryd.ntmps20
          go_wp2
          go_ret
          exact ⟨ret_int H.out.symm, Below.refl _ _⟩

def blankV (l : List Int) : Bool := l.all (· == 0)
set_option maxHeartbeats 2000000 in
theorem blank_any (A : Option Addr) (m c : Nat) (xs : List Int) (w : World) (hr : Reads w .u8 A xs) (hxm : xs.length = m) (hm : m ≤ 140737488355328) :
    Calls Tryd.prog 36 #[.slice A m c] w fun e w' => e = .returned (.bool (blankV xs)) ∧ Below w.heap.size w w' := by
  have HR := Lib.hid hr
  clear hr
  go_enter Tryd.func36, Tryd.ntmps36
  go_wp2
  go_loop [7] (fun i => ∃ k : Nat, k ≤ m ∧ i = .int .i64 k ∧ Hid (blankV (xs.take k) = true)) (fun i => m - (intOf i).toNat)
  case atStart => exact ⟨0, by omega, rfl, Lib.hid rfl⟩
  case round =>
    obtain ⟨k, hk, rfl, HA⟩ := hrel
    by_cases hlt : k < m
    · have hget : xs[k]? = some (xs[k]'(by omega)) := List.getElem?_eq_getElem _
      obtain ⟨b, o, rfl, hc⟩ := HR.out.at_ hget
      have HM := Lib.hid (List.mem_of_getElem? hget)
      generalize xs[k]'(by omega) = x at *
      by_cases hx : x = 0
      · have e1 : (x != 0) = false := by simp [hx]
        have HN : Hid (blankV (xs.take (k + 1)) = true) := Lib.hid (by rw [List.take_add_one, hget, hx]; unfold blankV; rw [List.all_append]; simp; have := HA.out; unfold blankV at this; simpa using this)
        clear hget hx
        go_wp2
        go_round
        case rel => exact ⟨k + 1, by omega, by go_num, HN⟩
        case measure => simp [intOf]; omega
      · have e1 : (x != 0) = true := by simp [hx]
        have HN : Hid (blankV xs = false) := Lib.hid (by unfold blankV; rw [List.all_eq_false]; exact ⟨x, HM.out, by simpa using hx⟩)
        clear hget hx
        go_wp2
        go_ret
        exact ⟨ret_bool HN.out.symm, Below.refl _ _⟩
    · obtain rfl : k = m := by omega
      have HN : Hid (blankV xs = true) := Lib.hid (by have := HA.out; rwa [List.take_of_length_le (by omega)] at this)
      go_wp2
      go_ret
      exact ⟨ret_bool HN.out.symm, Below.refl _ _⟩

theorem pow256 : ∀ k : Nat, k < 8 → (256 : Int) ^ k ≤ 72057594037927936 := by decide
set_option maxHeartbeats 2000000 in
theorem read_any (A : Option Addr) (m c : Nat) (xs : List Int) (w : World) (hr : Reads w .u8 A xs) (hx : IsBytes xs) (hxm : xs.length = m) (h8 : m ≤ 8) :
    Calls Tryd.prog 37 #[.slice A m c] w fun e w' => e = .returned (.int .u64 (unle xs)) ∧ Below w.heap.size w w' := by
  have HR := Lib.hid hr
  have HX := Lib.hid hx
  clear hr hx
  go_enter Tryd.func37, Tryd.ntmps37
  go_wp2
  go_loop [3, 4] (fun acc i => ∃ k : Nat, ∃ v j : Int, k ≤ m ∧ j = (m : Int) - k - 1 ∧ i = .int .i64 j ∧ acc = .int .u64 v ∧ 0 ≤ v ∧ Hid (v = unle (xs.drop (m - k)))) (fun _ i => (intOf i + 1).toNat)
  case atStart => exact ⟨0, 0, (m : Int) - 1, by omega, by omega, by go_num, rfl, by omega, Lib.hid (by rw [List.drop_eq_nil_of_le (by omega)]; rfl)⟩
  case round =>
    obtain ⟨k, v, j, hk, hj, rfl, rfl, hv0, HA⟩ := hrel
    by_cases hlt : k < m
    · obtain ⟨q, hq⟩ : ∃ q, q = m - k - 1 := ⟨_, rfl⟩
      have hqm : q < m := by omega
      have hget : xs[q]? = some (xs[q]'(by omega)) := List.getElem?_eq_getElem _
      obtain ⟨b, o, rfl, hc⟩ := HR.out.at_ hget
      have hxb := HX.out (xs[q]'(by omega)) (List.getElem_mem _)
      have HD : Hid (xs.drop (m - (k + 1)) = xs[q]'(by omega) :: xs.drop (m - k)) := Lib.hid (by
        rw [show m - (k + 1) = q by omega, List.drop_eq_getElem_cons (by omega), show q + 1 = m - k by omega])
      generalize xs[q]'(by omega) = x at *
      obtain ⟨x0, x1⟩ := hxb
      have hbd := unle_range (xs.drop (m - k)) fun y hy => HX.out y (List.mem_of_mem_drop hy)
      rw [← HA.out] at hbd
      have hlenk : (xs.drop (m - k)).length = k := by rw [List.length_drop]; omega
      rw [hlenk] at hbd
      have hv : v < 72057594037927936 := Int.lt_of_lt_of_le hbd.2 (by
        exact pow256 k (by omega))
      have HN : Hid (v * 256 + x = unle (xs.drop (m - (k + 1)))) := Lib.hid (by rw [HD.out, unle, ← HA.out]; omega)
      obtain rfl : j = (q : Int) := by omega
      have HQ := Lib.hid hq
      clear hget hbd hlenk hq hj
      go_wp2
      go_round
      case rel => exact ⟨k + 1, v * 256 + x, (q : Int) - 1, by omega, by have := HQ.out; omega, by go_num, by go_num, by omega, HN⟩
      case measure => simp [intOf]
    · obtain rfl : k = m := by omega
      have HF : Hid (v = unle xs) := Lib.hid (by rw [HA.out, Nat.sub_self]; rfl)
      obtain rfl : j = -1 := by omega
      clear hj
      go_wp2
      go_ret
      exact ⟨ret_int HF.out, Below.refl _ _⟩
end Go.Proofs.YtambpbgmmmiocaaDoor
