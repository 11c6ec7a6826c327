/- Lists of numbers that came in, with their sizes. -/
import Derived.Test.YtmemdicdehppjaaO0
namespace Go.Proofs.Ytmemdicdehppjaa
open Go.ChangeShapes Go.WideShapes Go.ChangeAt Go.RowKit Go.Deep Go.Joins
section
variable {H : Type} {enc : TypeId × Value → H} {W : World} {base : Nat} {spare : Nat → Bool} {held : Bool}
/-- A list of numbers that came in. -/
theorem open_sized {fuel : Nat} {cs : List Value} {y : DataW H × List MemPlace} (h : DataW.trod enc Try.prog W base spare held fuel 43 cs = some y) :
    ∃ A m c xs, cs = [.slice A m c] ∧ Reads W .i64 A xs ∧ xs.length = m ∧ (∀ x ∈ xs, -9223372036854775808 ≤ x ∧ x ≤ 9223372036854775807) ∧ ((y.1 = .nil ∧ m = 0) ∨ ∃ el sp, y.1 = .slice el sp ∧ el.length = m) := by
  rcases open_slice1 Try.underlying43 (by kernel_rfl) h with ⟨hcs, hx⟩ | ⟨a, len, cap, m, n, V, D, Pl, hcs, hb, hl, hm, hmm, hx, hi⟩
  · exact ⟨none, 0, 0, [], hcs, Reads.nil _ _ _, rfl, by simp, .inl ⟨by rw [hx], rfl⟩⟩
  · have hlm : len ≤ m := by rw [hmm]; split <;> omega
    have each : ∀ j, j < len → ∃ x : Int, W.cell? (a.add j) = some (.int .i64 x) ∧ -9223372036854775808 ≤ x ∧ x ≤ 9223372036854775807 := by
      intro j hj
      obtain ⟨hc, ht⟩ := hi j (by omega)
      obtain ⟨z0, r0, _, w0⟩ := DataW.trod_int Try.underlying3 ht
      simp only [List.cons.injEq, and_true] at r0
      rw [r0] at hc
      exact ⟨z0, hc, i64_wf w0⟩
    obtain ⟨X, hX⟩ := choose_lt (α := Int) each
    refine ⟨some a, len, cap, (List.range len).map X, hcs, fun hn => ?_, by simp, fun x hx => ?_, .inr ⟨_, _, by rw [hx], by simp⟩⟩
    · simp at hn
      obtain ⟨ab, ao, spot⟩ := a
      have hspot : spot = none := by simpa [Addr.add] using World.cell?_spot (hX 0 (by omega)).1
      subst hspot
      refine ⟨ab, ao, rfl, fun j x hx => ?_⟩
      rw [List.getElem?_map] at hx
      by_cases hj : j < len
      · rw [List.getElem?_range hj] at hx
        simp at hx
        subst hx
        have := (hX j hj).1
        rwa [Addr.add_lit] at this
      · rw [List.getElem?_eq_none (by simpa using hj)] at hx
        simp at hx
    · simp at hx
      obtain ⟨j, hj, rfl⟩ := hx
      exact (hX j hj).2
theorem nums_bytes {ts : List TypeId} {ds : List (DataW H)} {j : Nat} {d : DataW H} {m : Nat} (h : (DataW.weightsEach Try.prog ts ds).all (· ≤ reachBytes) = true) (ht : ts[j]? = some 43) (hd : ds[j]? = some d)
    (hs : (d = .nil ∧ m = 0) ∨ ∃ el sp, d = .slice el sp ∧ el.length = m) : m * 8 ≤ 140737488351232 := by
  rcases hs with ⟨_, rfl⟩ | ⟨el, sp, rfl, rfl⟩
  · omega
  · have := sized_slice h ht hd Try.underlying43
    rw [show Try.prog.bytesOf 3 = 8 by kernel_rfl] at this
    simp only [reachBytes] at this
    omega
end
end Go.Proofs.Ytmemdicdehppjaa
