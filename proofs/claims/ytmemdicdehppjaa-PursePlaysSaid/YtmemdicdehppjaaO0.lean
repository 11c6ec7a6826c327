/- What comes in, opened: scripts, lists of numbers. -/
import Derived.Test.YtmemdicdehppjaaG1
import Derived.Lib.SmallJoins
import Derived.Deep.Slices
import Derived.Deep.Strs
namespace Go.Proofs.Ytmemdicdehppjaa
open Go.ChangeShapes Go.WideShapes Go.ChangeAt Go.RowKit Go.Deep Go.Joins

theorem i64_wf {z : Int} (h : (Lit.int .i64 z).wf = true) : -9223372036854775808 ≤ z ∧ z ≤ 9223372036854775807 := by
  have := range_i64 (zs := [z]) (by simpa using h) 0
  simpa using this
section
variable {H : Type} {enc : TypeId × Value → H} {W : World} {base : Nat} {spare : Nat → Bool} {held : Bool}
/-- A script that came in. -/
theorem open_script {fuel : Nat} {cs : List Value} {y : DataW H × List MemPlace} (h : DataW.trod enc Try.prog W base spare held fuel 22 cs = some y) :
    ∃ A m c xs, cs = [.slice A m c] ∧ Reads W .i64 A xs ∧ xs.length = 3 * m ∧ (∀ x ∈ xs, -9223372036854775808 ≤ x ∧ x ≤ 9223372036854775807) ∧ m ≤ 9223372036854775807 := by
  rcases open_slice Try.underlying22 h with ⟨hcs, hx⟩ | ⟨a, len, cap, m, n, D, Pl, hcs, hb, hl, hm, hmm, hx, hi⟩
  · exact ⟨none, 0, 0, [], hcs, Reads.nil _ _ _, rfl, by simp, by omega⟩
  · have hlm : len ≤ m := by rw [hmm]; split <;> omega
    have h3 : Try.prog.cellsOf 29 = 3 := by kernel_rfl
    have k3 : Try.prog.cellsOf 3 = 1 := by kernel_rfl
    rw [h3] at hi
    have each : ∀ j, j < len * 3 → ∃ x : Int, W.cell? (a.add j) = some (.int .i64 x) ∧ -9223372036854775808 ≤ x ∧ x ≤ 9223372036854775807 := by
      intro j hj
      obtain ⟨cs', hc, ht⟩ := hi (j / 3) (by omega)
      obtain ⟨_, hlen, hcell⟩ := World.cells?_some hc
      match cs', hlen with
      | [e0, e1, e2], _ =>
        obtain ⟨y0, y1, y2, n', _, _, h0, h1, h2⟩ := trod_struct3 Try.underlying29 ht
        simp only [k3] at h0 h1 h2
        obtain ⟨z0, r0, _, w0⟩ := DataW.trod_int Try.underlying3 h0
        obtain ⟨z1, r1, _, w1⟩ := DataW.trod_int Try.underlying3 h1
        obtain ⟨z2, r2, _, w2⟩ := DataW.trod_int Try.underlying3 h2
        simp at r0 r1 r2
        subst r0 r1 r2
        have hj3 := hcell (j % 3) (by omega)
        rw [Addr.add_add, show j / 3 * 3 + j % 3 = j by omega] at hj3
        rw [hj3]
        have : j % 3 < 3 := by omega
        match j % 3, this with
        | 0, _ => exact ⟨z0, rfl, i64_wf w0⟩
        | 1, _ => exact ⟨z1, rfl, i64_wf w1⟩
        | 2, _ => exact ⟨z2, rfl, i64_wf w2⟩
    obtain ⟨X, hX⟩ := choose_lt (α := Int) each
    refine ⟨some a, len, cap, (List.range (len * 3)).map X, hcs, fun hn => ?_, by simp; omega, fun x hx => ?_, by unfold maxLen at hm; omega⟩
    · simp at hn
      obtain ⟨ab, ao, spot⟩ := a
      have hspot : spot = none := by simpa [Addr.add] using World.cell?_spot (hX 0 (by omega)).1
      subst hspot
      refine ⟨ab, ao, rfl, fun j x hx => ?_⟩
      rw [List.getElem?_map] at hx
      by_cases hj : j < len * 3
      · rw [List.getElem?_range hj] at hx
        simp at hx
        subst hx
        have := (hX j hj).1
        rwa [Addr.add_lit] at this
      · rw [List.getElem?_eq_none (by simpa using hj)] at hx
        simp at hx
    · simp at hx
      obtain ⟨j, hj, rfl⟩ := hx
      exact (hX j hj).2
/-- A list of numbers that came in. -/
theorem open_nums {fuel : Nat} {cs : List Value} {y : DataW H × List MemPlace} (h : DataW.trod enc Try.prog W base spare held fuel 43 cs = some y) :
    ∃ A m c xs, cs = [.slice A m c] ∧ Reads W .i64 A xs ∧ xs.length = m ∧ (∀ x ∈ xs, -9223372036854775808 ≤ x ∧ x ≤ 9223372036854775807) ∧ m ≤ 9223372036854775807 := by
  rcases open_slice1 Try.underlying43 (by kernel_rfl) h with ⟨hcs, hx⟩ | ⟨a, len, cap, m, n, V, D, Pl, hcs, hb, hl, hm, hmm, hx, hi⟩
  · exact ⟨none, 0, 0, [], hcs, Reads.nil _ _ _, rfl, by simp, by omega⟩
  · have hlm : len ≤ m := by rw [hmm]; split <;> omega
    have each : ∀ j, j < len → ∃ x : Int, W.cell? (a.add j) = some (.int .i64 x) ∧ -9223372036854775808 ≤ x ∧ x ≤ 9223372036854775807 := by
      intro j hj
      obtain ⟨hc, ht⟩ := hi j (by omega)
      obtain ⟨z0, r0, _, w0⟩ := DataW.trod_int Try.underlying3 ht
      simp only [List.cons.injEq, and_true] at r0
      rw [r0] at hc
      exact ⟨z0, hc, i64_wf w0⟩
    obtain ⟨X, hX⟩ := choose_lt (α := Int) each
    refine ⟨some a, len, cap, (List.range len).map X, hcs, fun hn => ?_, by simp, fun x hx => ?_, by unfold maxLen at hm; omega⟩
    · simp at hn
      obtain ⟨ab, ao, spot⟩ := a
      have hspot : spot = none := by simpa [Addr.add] using World.cell?_spot (hX 0 (by omega)).1
      subst hspot
      refine ⟨ab, ao, rfl, fun j x hx => ?_⟩
      rw [List.getElem?_map] at hx
      by_cases hj : j < len
      · rw [List.getElem?_range hj] at hx
        simp at hx
        subst hx
        have := (hX j hj).1
        rwa [Addr.add_lit] at this
      · rw [List.getElem?_eq_none (by simpa using hj)] at hx
        simp at hx
    · simp at hx
      obtain ⟨j, hj, rfl⟩ := hx
      exact (hX j hj).2
end
end Go.Proofs.Ytmemdicdehppjaa
