/- Plain laws of the order by words: one of less, equal, greater; transitive; the places told by the order. -/
import Derived.Test.YtambpbgmmmiocaaDoorA3
namespace Go.Proofs.YtambpbgmmmiocaaDoor
open Go.RowKit

theorem cmpL_swap : ∀ l : List (Int × Int), cmpL (l.map fun p => (p.2, p.1)) = - cmpL l
  | [] => rfl
  | (x, y) :: r => by
    simp only [List.map_cons, cmpL]
    by_cases h1 : x < y
    · rw [if_neg (by omega), if_pos h1, if_pos h1]; rfl
    · by_cases h2 : y < x
      · rw [if_pos h2, if_neg h1, if_pos h2]
      · rw [if_neg h2, if_neg h1, if_neg h1, if_neg h2]; exact cmpL_swap r
theorem cmpL_range : ∀ l : List (Int × Int), -1 ≤ cmpL l ∧ cmpL l ≤ 1
  | [] => by simp [cmpL]
  | (x, y) :: r => by
    simp only [cmpL]
    split
    · omega
    · split
      · omega
      · exact cmpL_range r
theorem cmpL_zero : ∀ l : List (Int × Int), cmpL l = 0 → ∀ p ∈ l, p.1 = p.2
  | [], _ => by simp
  | (x, y) :: r, h => by
    simp only [cmpL] at h
    split at h
    · omega
    · split at h
      · omega
      · intro p hp
        rcases List.mem_cons.1 hp with rfl | hp
        · show x = y; omega
        · exact cmpL_zero r h p hp
/-- What is not behind what is not behind something is not behind it. -/
theorem cmpL_trans (f g h : Int → Int) : ∀ ps : List Int, cmpL (ps.map fun p => (f p, g p)) ≤ 0 → cmpL (ps.map fun p => (g p, h p)) ≤ 0 → cmpL (ps.map fun p => (f p, h p)) ≤ 0
  | [], _, _ => by simp [cmpL]
  | p :: ps, h1, h2 => by
    simp only [List.map_cons, cmpL] at *
    by_cases a : f p < g p
    · by_cases b : g p < h p
      · rw [if_pos (by omega)]; omega
      · rw [if_neg b] at h2
        by_cases b2 : h p < g p
        · rw [if_pos b2] at h2; omega
        · rw [if_pos (by omega)]; omega
    · rw [if_neg a] at h1
      by_cases a2 : g p < f p
      · rw [if_pos a2] at h1; omega
      · rw [if_neg a2] at h1
        by_cases b : g p < h p
        · rw [if_pos (by omega)]; omega
        · rw [if_neg b] at h2
          by_cases b2 : h p < g p
          · rw [if_pos b2] at h2; omega
          · rw [if_neg b2] at h2
            rw [if_neg (by omega), if_neg (by omega)]
            exact cmpL_trans f g h ps h1 h2

theorem metB_mem {l : List Int} {j : Int} (h : metB l j = true) : j ∈ l := by
  unfold metB at h
  obtain ⟨x, hx, e⟩ := List.any_eq_true.1 h
  have : x = j := by simpa using e
  exact this ▸ hx
theorem sound_places {o0 o1 o2 o3 : Int} (h : soundB o0 o1 o2 o3 = true) : (∀ p ∈ [o0, o1, o2, o3], 0 ≤ p ∧ p ≤ 3) ∧ ∀ p : Int, 0 ≤ p → p ≤ 3 → p ∈ [o0, o1, o2, o3] := by
  unfold soundB at h
  simp only [Bool.and_eq_true] at h
  obtain ⟨⟨⟨⟨h4, h0⟩, h1⟩, h2⟩, h3⟩ := h
  refine ⟨fun p hp => by simpa using List.all_eq_true.1 h4 p hp, fun p a b => ?_⟩
  rcases four p a b with rfl | rfl | rfl | rfl
  · exact metB_mem h0
  · exact metB_mem h1
  · exact metB_mem h2
  · exact metB_mem h3
theorem places_all (o0 o1 o2 o3 : Int) : ∀ p : Int, 0 ≤ p → p ≤ 3 → p ∈ placesOf o0 o1 o2 o3 := by
  intro p h0 h1
  unfold placesOf
  split
  · rename_i h; exact (sound_places h).2 p h0 h1
  · rcases four p h0 h1 with rfl | rfl | rfl | rfl <;> simp

section
variable (o0 o1 o2 o3 a0 a1 a2 a3 b0 b1 b2 b3 c0 c1 c2 c3 : Int)
theorem cmp_swap : cmp o0 o1 o2 o3 b0 b1 b2 b3 a0 a1 a2 a3 = - cmp o0 o1 o2 o3 a0 a1 a2 a3 b0 b1 b2 b3 := by
  unfold cmp pairs
  rw [← cmpL_swap, List.map_map]; rfl
theorem cmp_range : -1 ≤ cmp o0 o1 o2 o3 a0 a1 a2 a3 b0 b1 b2 b3 ∧ cmp o0 o1 o2 o3 a0 a1 a2 a3 b0 b1 b2 b3 ≤ 1 := cmpL_range _
theorem cmp_zero : (a0 == b0 && a1 == b1 && a2 == b2 && a3 == b3) = (cmp o0 o1 o2 o3 a0 a1 a2 a3 b0 b1 b2 b3 == 0) := by
  rw [Bool.eq_iff_iff]
  constructor
  · intro h
    simp at h
    obtain ⟨⟨⟨rfl, rfl⟩, rfl⟩, rfl⟩ := h
    have : cmp o0 o1 o2 o3 a0 a1 a2 a3 a0 a1 a2 a3 = 0 := cmpL_eq _ fun p hp => by
      simp only [pairs, List.mem_map] at hp
      obtain ⟨q, _, rfl⟩ := hp
      rfl
    simp [this]
  · intro h
    have hz : cmp o0 o1 o2 o3 a0 a1 a2 a3 b0 b1 b2 b3 = 0 := by simpa using h
    have hall := cmpL_zero _ hz
    have at_ : ∀ p : Int, 0 ≤ p → p ≤ 3 → word a0 a1 a2 a3 p = word b0 b1 b2 b3 p := fun p h0 h1 =>
      hall (word a0 a1 a2 a3 p, word b0 b1 b2 b3 p) (List.mem_map.2 ⟨p, places_all o0 o1 o2 o3 p h0 h1, rfl⟩)
    have e0 := at_ 0 (by omega) (by omega)
    have e1 := at_ 1 (by omega) (by omega)
    have e2 := at_ 2 (by omega) (by omega)
    have e3 := at_ 3 (by omega) (by omega)
    simp [word] at e0 e1 e2 e3
    simp [e0, e1, e2, e3]
theorem cmp_trans (h1 : cmp o0 o1 o2 o3 a0 a1 a2 a3 b0 b1 b2 b3 ≤ 0) (h2 : cmp o0 o1 o2 o3 b0 b1 b2 b3 c0 c1 c2 c3 ≤ 0) : cmp o0 o1 o2 o3 a0 a1 a2 a3 c0 c1 c2 c3 ≤ 0 :=
  cmpL_trans (word a0 a1 a2 a3) (word b0 b1 b2 b3) (word c0 c1 c2 c3) _ h1 h2
theorem places_plain : placesOf 0 1 2 3 = [0, 1, 2, 3] := by decide
theorem cmp_unsound (h : soundB o0 o1 o2 o3 = false) : cmp o0 o1 o2 o3 a0 a1 a2 a3 b0 b1 b2 b3 = cmp 0 1 2 3 a0 a1 a2 a3 b0 b1 b2 b3 := by
  unfold cmp
  rw [places_plain]
  unfold placesOf
  rw [h]; rfl
theorem cmp_sound (h : soundB o0 o1 o2 o3 = true) : cmp o0 o1 o2 o3 a0 a1 a2 a3 b0 b1 b2 b3 =
    cmp 0 1 2 3 (word a0 a1 a2 a3 o0) (word a0 a1 a2 a3 o1) (word a0 a1 a2 a3 o2) (word a0 a1 a2 a3 o3) (word b0 b1 b2 b3 o0) (word b0 b1 b2 b3 o1) (word b0 b1 b2 b3 o2) (word b0 b1 b2 b3 o3) := by
  unfold cmp
  rw [places_plain]
  unfold placesOf
  rw [h]; rfl
end
end Go.Proofs.YtambpbgmmmiocaaDoor
