/- Fit and blank leave the world as it is. -/
import Derived.Test.YtambpbgmmmiocaaDoorE3
namespace Go.Proofs.YtambpbgmmmiocaaDoor
open Go.RowKit

theorem fit_same (f : FuncId) (hf : f = 19 ∨ f = 20) (b : Int) (w : World) (hb : -9223372036854775808 ≤ b ∧ b ≤ 9223372036854775807) :
    Calls Tryd.prog f #[.int .i64 b] w fun e w' => e = .returned (.int .i64 (fitV b)) ∧ w' = w := by
  by_cases h1 : b < 64
  · have H : Hid (fitV b = 0) := Lib.hid (by unfold fitV; rw [if_pos h1])
    rcases hf with rfl | rfl
    · go_enter Tryd.func19, Tryd.ntmps19
      go_wp2
      go_ret
      exact ⟨ret_int H.out.symm, rfl⟩
    · go_enter Tryd.func20, Tryd.ntmps20
      go_wp2
      go_ret
      exact ⟨ret_int H.out.symm, rfl⟩
  · by_cases h2 : 65536 < b
    · have H : Hid (fitV b = 0) := Lib.hid (by unfold fitV; rw [if_neg h1, if_pos h2])
      rcases hf with rfl | rfl
      · go_enter Tryd.func19, Tryd.ntmps19
        go_wp2
        go_ret
        exact ⟨ret_int H.out.symm, rfl⟩
      · go_enter Tryd.func20, Tryd.ntmps20
        go_wp2
        go_ret
        exact ⟨ret_int H.out.symm, rfl⟩
    · by_cases h3 : b % 32 = 0
      · have H : Hid (fitV b = b / 32 - 1) := Lib.hid (by unfold fitV; rw [if_neg h1, if_neg h2, if_neg (by omega)])
        have e1 : (b % 32 != 0) = false := by simp [h3]
        clear h3
        rcases hf with rfl | rfl
        · go_enter Tryd.func19, Tryd.ntmps19
          go_wp2
          go_ret
          exact ⟨ret_int H.out.symm, rfl⟩
        · go_enter Tryd.func20, Tryd.ntmps20
          go_wp2
          go_ret
          exact ⟨ret_int H.out.symm, rfl⟩
      · have H : Hid (fitV b = 0) := Lib.hid (by unfold fitV; rw [if_neg h1, if_neg h2, if_pos h3])
        have e1 : (b % 32 != 0) = true := by simp [h3]
        clear h3
        rcases hf with rfl | rfl
        · go_enter Tryd.func19, Tryd.ntmps19
          go_wp2
          go_ret
          exact ⟨ret_int H.out.symm, rfl⟩
        · go_enter Tryd.func20, Tryd.ntmps20
          go_wp2
          go_ret
          exact ⟨ret_int H.out.symm, rfl⟩
set_option maxHeartbeats 2000000 in
theorem blank_same (A : Option Addr) (m c : Nat) (xs : List Int) (w : World) (hr : Reads w .u8 A xs) (hxm : xs.length = m) (hm : m ≤ 140737488355328) :
    Calls Tryd.prog 36 #[.slice A m c] w fun e w' => e = .returned (.bool (blankV xs)) ∧ w' = w := by
  have HR := Lib.hid hr
  clear hr
  go_enter Tryd.func36, Tryd.ntmps36
  go_wp2
  go_loop [7] (fun i => ∃ k : Nat, k ≤ m ∧ i = .int .i64 k ∧ Hid (blankV (xs.take k) = true)) (fun i => m - (intOf i).toNat)
  case atStart => exact ⟨0, by omega, rfl, Lib.hid rfl⟩
  case round =>
    obtain ⟨k, hk, rfl, HA⟩ := hrel
    by_cases hlt : k < m
    · have hget : xs[k]? = some (xs[k]'(by omega)) := List.getElem?_eq_getElem _
      obtain ⟨b, o, rfl, hc⟩ := HR.out.at_ hget
      have HM := Lib.hid (List.mem_of_getElem? hget)
      generalize xs[k]'(by omega) = x at *
      by_cases hx : x = 0
      · have e1 : (x != 0) = false := by simp [hx]
        have HN : Hid (blankV (xs.take (k + 1)) = true) := Lib.hid (by rw [List.take_add_one, hget, hx]; unfold blankV; rw [List.all_append]; simp; have := HA.out; unfold blankV at this; simpa using this)
        clear hget hx
        go_wp2
        go_round
        case rel => exact ⟨k + 1, by omega, by go_num, HN⟩
        case measure => simp [intOf]; omega
      · have e1 : (x != 0) = true := by simp [hx]
        have HN : Hid (blankV xs = false) := Lib.hid (by unfold blankV; rw [List.all_eq_false]; exact ⟨x, HM.out, by simpa using hx⟩)
        clear hget hx
        go_wp2
        go_ret
        exact ⟨ret_bool HN.out.symm, rfl⟩
    · obtain rfl : k = m := by omega
      have HN : Hid (blankV xs = true) := Lib.hid (by have := HA.out; rwa [List.take_of_length_le (by omega)] at this)
      go_wp2
      go_ret
      exact ⟨ret_bool HN.out.symm, rfl⟩
set_option maxHeartbeats 2000000 in
theorem get_same (A : Option Addr) (n m c : Nat) (xs : List Int) (w : World) (hr : Reads w .u8 A xs) (hx : IsBytes xs) (hxm : xs.length = m) (hn : n ≤ m) (h8 : n ≤ 8) (hm : m ≤ 140737488355328) :
    Calls Tryd.prog 35 #[.slice A m c, .int .i64 n] w fun e w' => e = .returned (.int .u64 (unle (xs.take n))) ∧ w' = w := by
  have HR := Lib.hid hr
  have HX := Lib.hid hx
  clear hr hx
  go_enter Tryd.func35, Tryd.ntmps35
  go_wp2
  go_loop [5, 8] (fun acc i => ∃ k : Nat, ∃ a : Int, k ≤ n ∧ i = .int .i64 k ∧ acc = .int .u64 a ∧ Hid (a = unle (xs.take k))) (fun _ i => n - (intOf i).toNat)
  case atStart => exact ⟨0, 0, by omega, rfl, rfl, Lib.hid rfl⟩
  case round =>
    obtain ⟨k, a, hk, rfl, rfl, HA⟩ := hrel
    by_cases hlt : k < n
    · have hget : xs[k]? = some (xs[k]'(by omega)) := List.getElem?_eq_getElem _
      obtain ⟨b, o, rfl, hc⟩ := HR.out.at_ hget
      have hxb := HX.out (xs[k]'(by omega)) (List.getElem_mem _)
      generalize xs[k]'(by omega) = x at *
      obtain ⟨x0, x1⟩ := hxb
      have HT : Hid (unle (xs.take (k + 1)) = a + x * 256 ^ k) := Lib.hid (by
        rw [List.take_add_one, hget]
        show unle (xs.take k ++ [x]) = _
        rw [unle_snoc, ← HA.out, List.length_take, Nat.min_eq_left (by omega)])
      have HG := Lib.hid hget
      clear hget
      go_wp2
      go_round
      case rel =>
        have ha := unle_range (xs.take k) fun y hy => HX.out y (List.mem_of_mem_take hy)
        rw [← HA.out, List.length_take, Nat.min_eq_left (by omega)] at ha
        exact ⟨k + 1, a + x * 256 ^ k, by omega, by go_num, by rw [or_byte k (by omega) a x ha.1 ha.2 x0 x1], Lib.hid HT.out.symm⟩
      case measure => simp [intOf]; omega
    · obtain rfl : k = n := by omega
      go_wp2
      go_ret
      exact ⟨ret_int HA.out, rfl⟩
end Go.Proofs.YtambpbgmmmiocaaDoor
