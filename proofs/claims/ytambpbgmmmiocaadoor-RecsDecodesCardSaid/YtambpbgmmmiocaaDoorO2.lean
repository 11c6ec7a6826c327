/- Bytes that came in, opened. -/
import Derived.Test.YtambpbgmmmiocaaDoorO1
namespace Go.Proofs.YtambpbgmmmiocaaDoor
open Go.ChangeShapes Go.WideShapes Go.ChangeAt Go.RowKit Go.Deep Go.Joins

theorem u8_wf {z : Int} (h : (Lit.int .u8 z).wf = true) : 0 ≤ z ∧ z ≤ 255 := by
  have := range_u8 (zs := [z]) (by simpa using h) 0
  simpa using this
theorem u32_wf {z : Int} (h : (Lit.int .u32 z).wf = true) : 0 ≤ z ∧ z ≤ 4294967295 := by
  have := range_u32 (zs := [z]) (by simpa using h) 0
  simpa using this
section
variable {H : Type} {enc : TypeId × Value → H} {W : World} {base : Nat} {spare : Nat → Bool} {held : Bool}
theorem open_bytes {fuel : Nat} {cs : List Value} {y : DataW H × List MemPlace} (h : DataW.trod enc Tryd.prog W base spare held fuel 36 cs = some y) :
    ∃ A m c xs, cs = [.slice A m c] ∧ Reads W .u8 A xs ∧ xs.length = m ∧ IsBytes xs ∧ m ≤ c ∧ ((y.1 = .nil ∧ m = 0) ∨ ∃ el sp, y.1 = .slice el sp ∧ el.length = m) := by
  rcases open_slice1 Tryd.underlying36 (by kernel_rfl) h with ⟨hcs, hx⟩ | ⟨a, len, cap, m, n, V, D, Pl, hcs, hb, hl, hm, hmm, hx, hi⟩
  · exact ⟨none, 0, 0, [], hcs, Reads.nil _ _ _, rfl, (fun x hx => by cases hx), Nat.le_refl _, .inl ⟨by rw [hx], rfl⟩⟩
  · have hlm : len ≤ m := by rw [hmm]; split <;> omega
    have each : ∀ j, j < len → ∃ x : Int, W.cell? (a.add j) = some (.int .u8 x) ∧ 0 ≤ x ∧ x ≤ 255 := by
      intro j hj
      obtain ⟨hc, ht⟩ := hi j (by omega)
      obtain ⟨z0, r0, _, w0⟩ := DataW.trod_int Tryd.underlying5 ht
      simp only [List.cons.injEq, and_true] at r0
      rw [r0] at hc
      exact ⟨z0, hc, u8_wf w0⟩
    obtain ⟨X, hX⟩ := choose_lt (α := Int) each
    refine ⟨some a, len, cap, (List.range len).map X, hcs, fun hn => ?_, by simp, fun x hx => ?_, hl, .inr ⟨_, _, by rw [hx], by simp⟩⟩
    · simp at hn
      obtain ⟨ab, ao, spot⟩ := a
      have hspot : spot = none := by simpa [Addr.add] using World.cell?_spot (hX 0 (by omega)).1
      subst hspot
      refine ⟨ab, ao, rfl, fun j x hx => ?_⟩
      rw [List.getElem?_map] at hx
      by_cases hj : j < len
      · rw [List.getElem?_range hj] at hx
        simp at hx
        subst hx
        have := (hX j hj).1
        rwa [Addr.add_lit] at this
      · rw [List.getElem?_eq_none (by simpa using hj)] at hx
        simp at hx
    · simp at hx
      obtain ⟨j, hj, rfl⟩ := hx
      exact (hX j hj).2
/-- Two numbers and bytes. -/
theorem open_told {v0 v1 v2 : Value} {d0 d1 d2 : DataW H} {p0 p1 p2 : List MemPlace} (h0 : DataW.Trod enc Tryd.prog W base spare held 3 v0 d0 p0) (h1 : DataW.Trod enc Tryd.prog W base spare held 3 v1 d1 p1) (h2 : DataW.Trod enc Tryd.prog W base spare held 36 v2 d2 p2)
    (ho0 : v0.cells = #[v0]) (ho1 : v1.cells = #[v1]) (ho2 : v2.cells = #[v2])
    (hsz : (DataW.weightsEach Tryd.prog [3, 3, 36] [d0, d1, d2]).all (· ≤ reachBytes) = true) :
    ∃ kind place A L c xs, v0 = .int .i64 kind ∧ v1 = .int .i64 place ∧ v2 = .slice A L c ∧ Reads W .u8 A xs ∧ xs.length = L ∧ IsBytes xs ∧ L ≤ c ∧ L ≤ 140737488351232 ∧
      (-9223372036854775808 ≤ kind ∧ kind ≤ 9223372036854775807) ∧ (-9223372036854775808 ≤ place ∧ place ≤ 9223372036854775807) := by
  obtain ⟨f0, h0⟩ := h0
  obtain ⟨f1, h1⟩ := h1
  obtain ⟨f2, h2⟩ := h2
  rw [ho0] at h0; rw [ho1] at h1; rw [ho2] at h2
  obtain ⟨z0, e0, r0, w0⟩ := DataW.trod_int Tryd.underlying3 h0
  obtain ⟨z1, e1, r1, w1⟩ := DataW.trod_int Tryd.underlying3 h1
  obtain ⟨A, m, c, xs, e2, hr, hl, hx, hc, hd⟩ := open_bytes h2
  simp at e0 e1 e2
  refine ⟨z0, z1, A, m, c, xs, e0, e1, e2, hr, hl, hx, hc, ?_, i64_wf w0, i64_wf w1⟩
  rcases hd with ⟨_, h0⟩ | ⟨el, sp, hy, hel⟩
  · omega
  · have h3 : (el.length + sp.length) * Tryd.prog.bytesOf 5 ≤ reachBytes := of_decide_eq_true (List.all_eq_true.1 hsz _ (by
      simp only at hy
      rw [hy]
      simp [DataW.weights, DataW.weightsEach, Tryd.underlying36, Tryd.underlying3]))
    rw [show Tryd.prog.bytesOf 5 = 1 by kernel_rfl] at h3
    simp only [reachBytes] at h3
    omega
/-- The law's piece: its list's length is within its capacity. -/
theorem piece_cap {kind place block : Int} {A : Option Addr} {n c : Nat} {d : DataW H} {ps : List MemPlace} (h : DataW.Trod enc Tryd.prog W base spare held 34 (.agg #[.int .i64 kind, .int .i64 place, .slice A n c, .int .i64 block]) d ps) : n ≤ c := by
  obtain ⟨fuel, hf⟩ := h
  obtain ⟨y0, y1, y2, y3, m, hx, _, h0, h1, h2, h3⟩ := trod_struct4 Tryd.underlying34 hf
  have k3 : Tryd.prog.cellsOf 3 = 1 := by kernel_rfl
  have k32 : Tryd.prog.cellsOf 32 = 1 := by kernel_rfl
  simp only [Value.cells, k3, k32] at h0 h1 h2 h3
  rcases open_slice Tryd.underlying32 h2 with ⟨hcs, _⟩ | ⟨a, len, cap, m, n', D, Pl, hcs, hb, hl, _⟩
  · simp at hcs; omega
  · simp at hcs; omega
end
end Go.Proofs.YtambpbgmmmiocaaDoor
