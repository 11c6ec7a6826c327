/- A list of lists of truths that came in, opened. -/
import Derived.Test.YtjkmoahnociaiaaY1
import Derived.Test.YtjkmoahnociaiaaRows
import Derived.Test.YtjkmoahnociaiaaSC
namespace Go.Proofs.Ytjkmoahnociaiaa
open Go.ChangeShapes Go.WideShapes Go.ChangeAt Go.RowKit Go.Deep Go.Joins

instance : Inhabited LR := ⟨⟨none, 0, []⟩⟩
section
variable {H : Type} {enc : TypeId × Value → H} {W : World} {base : Nat} {spare : Nat → Bool} {held : Bool}
/-- What one list's datum says of its length. -/
def LenOf (d : DataW H) (n : Nat) : Prop := (d = .nil ∧ n = 0) ∨ ∃ el sp, d = .slice el sp ∧ el.length = n
theorem open_lists {fuel : Nat} {cs : List Value} {y : DataW H × List MemPlace} (h : DataW.trod enc Try.prog W base spare held fuel 43 cs = some y) :
    ∃ (A : Option Addr) (m c : Nat) (I : List LR), cs = [.slice A m c] ∧ CReads W A (I.map LR.v) ∧ (∀ r ∈ I, CReads W r.A (bools r.xs)) ∧ I.length = m ∧ m ≤ maxLen ∧ (∀ r ∈ I, r.xs.length ≤ maxLen) ∧
      ((y.1 = .nil ∧ m = 0) ∨ ∃ el sp, y.1 = .slice el sp ∧ el.length = m ∧ ∀ r ∈ I, ∃ d ∈ el, LenOf d r.xs.length) := by
  rcases open_slice1 Try.underlying43 (by kernel_rfl) h with ⟨hcs, hx⟩ | ⟨a, len, cap, m, n, V, D, Pl, hcs, hb, hl, hm, hmm, hx, hi⟩
  · exact ⟨none, 0, 0, [], hcs, CReads.nil _ _, by simp, rfl, by omega, by simp, .inl ⟨by rw [hx], rfl⟩⟩
  · have hlm : len ≤ m := by rw [hmm]; split <;> omega
    have each : ∀ j, j < len → ∃ r : LR, W.cell? (a.add j) = some r.v ∧ CReads W r.A (bools r.xs) ∧ r.xs.length ≤ maxLen ∧ LenOf (D j) r.xs.length := by
      intro j hj
      obtain ⟨hc, ht⟩ := hi j (by omega)
      obtain ⟨A, q, c, xs, hcs2, hr, hlq, hql, hs⟩ := open_truths ht
      simp only [List.cons.injEq, and_true] at hcs2
      rw [hcs2] at hc
      subst hlq
      exact ⟨⟨A, c, xs⟩, hc, hr, hql, hs⟩
    obtain ⟨X, hX⟩ := choose_lt (α := LR) each
    have hmem : ∀ r ∈ (List.range len).map X, ∃ j, j < len ∧ X j = r := fun r hr => by
      simp at hr
      obtain ⟨j, hj, e⟩ := hr
      exact ⟨j, hj, e⟩
    refine ⟨some a, len, cap, (List.range len).map X, hcs, fun hn => ?_, fun r hr => ?_, by simp, by omega, fun r hr => ?_, .inr ⟨_, _, by rw [hx], by simp, fun r hr => ?_⟩⟩
    · simp at hn
      obtain ⟨ab, ao, spot⟩ := a
      have hspot : spot = none := by simpa [Addr.add] using World.cell?_spot (hX 0 (by omega)).1
      subst hspot
      refine ⟨ab, ao, rfl, fun j x hx => ?_⟩
      rw [List.getElem?_map, List.getElem?_map] at hx
      by_cases hj : j < len
      · rw [List.getElem?_range hj] at hx
        simp at hx
        subst hx
        have := (hX j hj).1
        rwa [Addr.add_lit] at this
      · rw [List.getElem?_eq_none (by simpa using hj)] at hx
        simp at hx
    · obtain ⟨j, hj, rfl⟩ := hmem r hr
      exact (hX j hj).2.1
    · obtain ⟨j, hj, rfl⟩ := hmem r hr
      exact (hX j hj).2.2.1
    · obtain ⟨j, hj, rfl⟩ := hmem r hr
      exact ⟨D j, List.mem_map.2 ⟨j, List.mem_range.2 hj, rfl⟩, (hX j hj).2.2.2⟩
end
section
variable {H : Type}
theorem bulk_pos (d : DataW H) : 1 ≤ Rows.uptoBulk d := by
  cases d with
  | lit l => cases l <;> simp [Rows.uptoBulk]
  | _ => simp [Rows.uptoBulk]
theorem bulk_len : ∀ l : List (DataW H), l.length ≤ Rows.uptoBulkAll l
  | [] => by simp
  | d :: l => by
    have h1 := bulk_len l
    have h2 := bulk_pos d
    simp [Rows.uptoBulkAll]
    omega
theorem bulk_mem {d : DataW H} : ∀ {l : List (DataW H)}, d ∈ l → Rows.uptoBulk d ≤ Rows.uptoBulkAll l
  | x :: l, h => by
    simp only [Rows.uptoBulkAll]
    rcases List.mem_cons.1 h with rfl | h
    · omega
    · have := bulk_mem h
      omega
theorem bulk_of {d : DataW H} {n : Nat} (h : LenOf d n) : n ≤ Rows.uptoBulk d := by
  rcases h with ⟨_, rfl⟩ | ⟨el, sp, rfl, rfl⟩
  · omega
  · have := bulk_len el
    simp only [Rows.uptoBulk]
    omega
theorem lists_small {d : DataW H} {m : Nat} {I : List LR} {B : Nat} (hs : (d = .nil ∧ m = 0) ∨ ∃ el sp, d = .slice el sp ∧ el.length = m ∧ ∀ r ∈ I, ∃ d ∈ el, LenOf d r.xs.length) (hI : I.length = m) (hB : Rows.uptoBulk d ≤ B) : m ≤ B ∧ ∀ r ∈ I, r.xs.length ≤ B := by
  rcases hs with ⟨_, rfl⟩ | ⟨el, sp, rfl, hl, hr⟩
  · refine ⟨by omega, fun r hr => ?_⟩
    have := List.length_pos_of_mem hr
    omega
  · simp only [Rows.uptoBulk] at hB
    refine ⟨by have := bulk_len el; omega, fun r hr' => ?_⟩
    obtain ⟨d, hd, hlo⟩ := hr r hr'
    have h1 := bulk_mem hd
    have h2 := bulk_of hlo
    omega
end
end Go.Proofs.Ytjkmoahnociaiaa
