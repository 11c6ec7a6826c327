/- The document's Sound answers soundB, at every order. -/
import Derived.Test.YtambpbgmmmiocaaDoorA1
namespace Go.Proofs.YtambpbgmmmiocaaDoor
open Go.RowKit

def ind (x v : Int) : Int := if x = v then 1 else 0
def cntI (l : List Int) (v : Int) : Int := (l.map (ind · v)).sum
theorem ind_range (x v : Int) : 0 ≤ ind x v ∧ ind x v ≤ 1 := by unfold ind; split <;> omega
theorem cntI_snoc (l : List Int) (x v : Int) : cntI (l ++ [x]) v = cntI l v + ind x v := by simp [cntI]
theorem cntI_range (v : Int) : ∀ l : List Int, 0 ≤ cntI l v ∧ cntI l v ≤ l.length
  | [] => by simp [cntI]
  | x :: l => by
    have := cntI_range v l; have := ind_range x v
    simp only [cntI, List.map_cons, List.sum_cons, List.length_cons] at *
    omega
theorem ind_four (x : Int) : ind x 0 + ind x 1 + ind x 2 + ind x 3 ≤ 1 := by unfold ind; repeat' split <;> omega
theorem ind_out (x : Int) (h : ¬ (0 ≤ x ∧ x ≤ 3)) : ind x 0 = 0 ∧ ind x 1 = 0 ∧ ind x 2 = 0 ∧ ind x 3 = 0 := by
  unfold ind; refine ⟨?_, ?_, ?_, ?_⟩ <;> rw [if_neg (by omega)]
theorem sound_fin : ∀ a b c d : Fin 4, soundB a.val b.val c.val d.val = (cntI [a.val, b.val, c.val, d.val] 0 == 1 && cntI [a.val, b.val, c.val, d.val] 1 == 1 && cntI [a.val, b.val, c.val, d.val] 2 == 1 && cntI [a.val, b.val, c.val, d.val] 3 == 1) := by decide +kernel
theorem sound_cnt (o0 o1 o2 o3 : Int) : soundB o0 o1 o2 o3 = (cntI [o0, o1, o2, o3] 0 == 1 && cntI [o0, o1, o2, o3] 1 == 1 && cntI [o0, o1, o2, o3] 2 == 1 && cntI [o0, o1, o2, o3] 3 == 1) := by
  by_cases h : (0 ≤ o0 ∧ o0 ≤ 3) ∧ (0 ≤ o1 ∧ o1 ≤ 3) ∧ (0 ≤ o2 ∧ o2 ≤ 3) ∧ (0 ≤ o3 ∧ o3 ≤ 3)
  · obtain ⟨h0, h1, h2, h3⟩ := h
    have := sound_fin ⟨o0.toNat, by omega⟩ ⟨o1.toNat, by omega⟩ ⟨o2.toNat, by omega⟩ ⟨o3.toNat, by omega⟩
    simp only [Int.toNat_of_nonneg h0.1, Int.toNat_of_nonneg h1.1, Int.toNat_of_nonneg h2.1, Int.toNat_of_nonneg h3.1] at this
    exact this
  · have hf : soundB o0 o1 o2 o3 = false := by
      have : okB [o0, o1, o2, o3] = false := by
        cases hb : okB [o0, o1, o2, o3] with
        | false => rfl
        | true => exact absurd (by simp [okB] at hb; omega) h
      unfold soundB; rw [this]; rfl
    rw [hf]
    have e : ∀ v, cntI [o0, o1, o2, o3] v = ind o0 v + ind o1 v + ind o2 v + ind o3 v := fun v => by simp [cntI]; omega
    have i0 := ind_four o0; have i1 := ind_four o1; have i2 := ind_four o2; have i3 := ind_four o3
    have z : ind o0 0 + ind o0 1 + ind o0 2 + ind o0 3 = 0 ∨ ind o1 0 + ind o1 1 + ind o1 2 + ind o1 3 = 0 ∨ ind o2 0 + ind o2 1 + ind o2 2 + ind o2 3 = 0 ∨ ind o3 0 + ind o3 1 + ind o3 2 + ind o3 3 = 0 := by
      by_cases a0 : 0 ≤ o0 ∧ o0 ≤ 3
      · by_cases a1 : 0 ≤ o1 ∧ o1 ≤ 3
        · by_cases a2 : 0 ≤ o2 ∧ o2 ≤ 3
          · have := ind_out o3 (fun a3 => h ⟨a0, a1, a2, a3⟩); omega
          · have := ind_out o2 a2; omega
        · have := ind_out o1 a1; omega
      · have := ind_out o0 a0; omega
    rw [e, e, e, e]
    symm
    simp only [Bool.and_eq_false_iff, beq_eq_false_iff_ne]
    omega

/-- The loop over v: the numbers below k have been met once each. -/
def Once (l : List Int) (k : Nat) : Prop := ∀ v : Nat, v < k → cntI l v = 1

theorem cell4 {w : World} {x0 x1 x2 x3 : Value} {t : TypeId} (k : Nat) (v : Value) (h : #[x0, x1, x2, x3][k]? = some v) : (w.alloc (.cells #[x0, x1, x2, x3] t)).cell? ⟨w.heap.size, k, none⟩ = some v := by
  simp only [World.cell?]
  rw [show (w.alloc (.cells #[x0, x1, x2, x3] t)).heap[w.heap.size]? = some (.cells #[x0, x1, x2, x3] t) from heap_alloc_new w _]
  exact h

set_option maxHeartbeats 4000000 in
theorem sound_ref (o0 o1 o2 o3 : Int) (w : World) :
    Calls Tryd.prog 11 #[.agg #[.int .i64 o0, .int .i64 o1, .int .i64 o2, .int .i64 o3]] w fun e w' => e = .returned (.bool (soundB o0 o1 o2 o3)) ∧ Below w.heap.size w w' := by
  go_enter Tryd.func11, Tryd.ntmps11
  go_wp2
  go_loop [3] (fun v => ∃ k : Nat, k ≤ 4 ∧ v = .int .i64 k ∧ Hid (Once [o0, o1, o2, o3] k)) (fun v => 4 - (intOf v).toNat)
  case atStart => exact ⟨0, by omega, rfl, Lib.hid (fun v hv => absurd hv (by omega))⟩
  case round =>
    obtain ⟨k, hk, rfl, HO⟩ := hrel
    by_cases hlt : k < 4
    · go_wp2
      go_loop [4, 5] (fun n i => ∃ j : Nat, ∃ c : Int, j ≤ 4 ∧ 0 ≤ c ∧ c ≤ j ∧ i = .int .i64 j ∧ n = .int .i64 c ∧ Hid (c = cntI ([o0, o1, o2, o3].take j) k)) (fun _ i => 4 - (intOf i).toNat)
      case atStart => exact ⟨0, 0, by omega, by omega, by omega, rfl, rfl, Lib.hid rfl⟩
      case round =>
        obtain ⟨j, c, hj, hc0, hc1, rfl, rfl, HC⟩ := hrel
        by_cases hjt : j < 4
        · obtain ⟨x, hx⟩ : ∃ x, [o0, o1, o2, o3][j]? = some x := ⟨_, List.getElem?_eq_getElem (by simpa using hjt)⟩
          have htk : Hid ([o0, o1, o2, o3].take (j + 1) = [o0, o1, o2, o3].take j ++ [x]) := Lib.hid (by rw [List.take_add_one, hx]; rfl)
          have hcell : (w.alloc (.cells #[.int .i64 o0, .int .i64 o1, .int .i64 o2, .int .i64 o3] 23)).cell? ⟨w.heap.size, j, none⟩ = some (.int .i64 x) := by
            refine cell4 j _ ?_
            match j, hjt, hx with
            | 0, _, hx | 1, _, hx | 2, _, hx | 3, _, hx => simp at hx; subst hx; rfl
          have HX := Lib.hid hx
          clear hx
          have hs : Hid (cntI ([o0, o1, o2, o3].take (j + 1)) k = c + ind x k) := Lib.hid (by rw [htk.out, cntI_snoc, HC.out])
          clear htk HC
          by_cases hq : x = k
          · have he : (x == (k : Int)) = true := by simp [hq]
            have hi : Hid (ind x k = 1) := Lib.hid (by simp [ind, hq])
            clear hq
            go_wp2
            go_round
            case rel => exact ⟨j + 1, c + 1, by omega, by omega, by omega, by go_num, rfl, Lib.hid (by rw [hs.out, hi.out])⟩
            case measure => simp [intOf]; omega
          · have he : (x == (k : Int)) = false := by simp [hq]
            have hi : Hid (ind x k = 0) := Lib.hid (by simp [ind, hq])
            clear hq
            go_wp2
            go_round
            case rel => exact ⟨j + 1, c, by omega, by omega, by omega, by go_num, rfl, Lib.hid (by rw [hs.out, hi.out]; omega)⟩
            case measure => simp [intOf]; omega
        · obtain rfl : j = 4 := by omega
          by_cases hq : c = 1
          · subst hq
            go_wp2
            go_round
            case rel => exact ⟨k + 1, by omega, by go_num, Lib.hid (fun v hv => by
              by_cases e : v = k
              · subst e; exact HC.out.symm
              · exact HO.out v (by omega))⟩
            case measure => simp [intOf]; omega
          · have he : (c != 1) = true := by simp [hq]
            have hno : Hid (soundB o0 o1 o2 o3 = false) := Lib.hid (by
              have h1 : cntI [o0, o1, o2, o3] k ≠ 1 := fun e => hq (HC.out.trans e)
              rw [sound_cnt]
              match k, hlt, h1 with
              | 0, _, h1 | 1, _, h1 | 2, _, h1 | 3, _, h1 => simp at h1; simp [h1])
            clear hq
            go_wp2
            go_ret
            exact ⟨ret_bool hno.out.symm, below1 _ _⟩
    · obtain rfl : k = 4 := by omega
      have hyes : Hid (soundB o0 o1 o2 o3 = true) := Lib.hid (by
        have h := HO.out
        have h0 := h 0 (by omega); have h1 := h 1 (by omega); have h2 := h 2 (by omega); have h3 := h 3 (by omega)
        rw [sound_cnt]; simp at h0 h1 h2 h3; simp [h0, h1, h2, h3])
      go_wp2
      go_ret
      exact ⟨ret_bool hyes.out.symm, below1 _ _⟩
end Go.Proofs.YtambpbgmmmiocaaDoor
