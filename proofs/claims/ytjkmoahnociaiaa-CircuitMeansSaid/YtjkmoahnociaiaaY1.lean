/- A list of truths that came in, opened. -/
import Derived.Test.YtjkmoahnociaiaaY0
import Derived.Test.YtjkmoahnociaiaaSA
namespace Go.Proofs.Ytjkmoahnociaiaa
open Go.ChangeShapes Go.WideShapes Go.ChangeAt Go.RowKit Go.Deep Go.Joins

section
variable {H : Type} {enc : TypeId × Value → H} {W : World} {base : Nat} {spare : Nat → Bool} {held : Bool}
theorem open_truths {fuel : Nat} {cs : List Value} {y : DataW H × List MemPlace} (h : DataW.trod enc Try.prog W base spare held fuel 35 cs = some y) :
    ∃ A m c xs, cs = [.slice A m c] ∧ CReads W A (bools xs) ∧ xs.length = m ∧ m ≤ maxLen ∧ ((y.1 = .nil ∧ m = 0) ∨ ∃ el sp, y.1 = .slice el sp ∧ el.length = m) := by
  rcases open_slice1 Try.underlying35 (by kernel_rfl) h with ⟨hcs, hx⟩ | ⟨a, len, cap, m, n, V, D, Pl, hcs, hb, hl, hm, hmm, hx, hi⟩
  · exact ⟨none, 0, 0, [], hcs, CReads.nil _ _, rfl, by omega, .inl ⟨by rw [hx], rfl⟩⟩
  · have hlm : len ≤ m := by rw [hmm]; split <;> omega
    have each : ∀ j, j < len → ∃ x : Bool, W.cell? (a.add j) = some (.bool x) := by
      intro j hj
      obtain ⟨hc, ht⟩ := hi j (by omega)
      obtain ⟨z0, r0, _⟩ := DataW.trod_bool Try.underlying4 ht
      simp only [List.cons.injEq, and_true] at r0
      rw [r0] at hc
      exact ⟨z0, hc⟩
    obtain ⟨X, hX⟩ := choose_lt (α := Bool) each
    refine ⟨some a, len, cap, (List.range len).map X, hcs, fun hn => ?_, by simp, by omega, .inr ⟨_, _, by rw [hx], by simp⟩⟩
    simp [bools] at hn
    obtain ⟨ab, ao, spot⟩ := a
    have hspot : spot = none := by simpa [Addr.add] using World.cell?_spot (hX 0 (by omega))
    subst hspot
    refine ⟨ab, ao, rfl, fun j x hx => ?_⟩
    unfold bools at hx
    rw [List.getElem?_map, List.getElem?_map] at hx
    by_cases hj : j < len
    · rw [List.getElem?_range hj] at hx
      simp at hx
      subst hx
      have := hX j hj
      rwa [Addr.add_lit] at this
    · rw [List.getElem?_eq_none (by simpa using hj)] at hx
      simp at hx
theorem all_le {ts : List TypeId} {ds : List (DataW H)} (h : (DataW.weightsEach Try.prog ts ds).all (· ≤ reachBytes) = true) : ∀ x ∈ DataW.weightsEach Try.prog ts ds, x ≤ reachBytes := fun x hx => by
  have := List.all_eq_true.1 h x hx
  simpa using this
end
end Go.Proofs.Ytjkmoahnociaiaa
