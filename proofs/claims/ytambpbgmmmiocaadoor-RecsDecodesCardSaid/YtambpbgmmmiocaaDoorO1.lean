/- What comes in, opened: lists of records, bytes, the law's piece; what the tables hold. -/
import Derived.Test.YtambpbgmmmiocaaDoorE6
import Derived.Lib.SmallJoins
import Derived.Lib.LaidTab
import Derived.Deep.Slices
import Derived.Stop.LaidErr
import Derived.SizedLaws
namespace Go.Proofs.YtambpbgmmmiocaaDoor
open Go.ChangeShapes Go.WideShapes Go.ChangeAt Go.RowKit Go.Deep Go.Joins

theorem u64_wf {z : Int} (h : (Lit.int .u64 z).wf = true) : 0 ≤ z ∧ z ≤ 18446744073709551615 := by
  have := range_u64 (zs := [z]) (by simpa using h) 0
  simpa using this
theorem i64_wf {z : Int} (h : (Lit.int .i64 z).wf = true) : -9223372036854775808 ≤ z ∧ z ≤ 9223372036854775807 := by
  have := range_i64 (zs := [z]) (by simpa using h) 0
  simpa using this
section
variable {H : Type} {enc : TypeId × Value → H} {W : World} {base : Nat} {spare : Nat → Bool} {held : Bool}
/-- A list of records that came in. -/
theorem open_recs {fuel : Nat} {cs : List Value} {y : DataW H × List MemPlace} (h : DataW.trod enc Tryd.prog W base spare held fuel 32 cs = some y) :
    ∃ A m c ws, cs = [.slice A m c] ∧ Reads W .u64 A ws ∧ ws.length = m * 4 ∧ (∀ x ∈ ws, 0 ≤ x ∧ x ≤ 18446744073709551615) ∧ ((y.1 = .nil ∧ m = 0) ∨ ∃ el sp, y.1 = .slice el sp ∧ el.length = m) := by
  rcases open_slice Tryd.underlying32 h with ⟨hcs, hx⟩ | ⟨a, len, cap, m, n, D, Pl, hcs, hb, hl, hm, hmm, hx, hi⟩
  · exact ⟨none, 0, 0, [], hcs, Reads.nil _ _ _, rfl, by simp, .inl ⟨by rw [hx], rfl⟩⟩
  · have hlm : len ≤ m := by rw [hmm]; split <;> omega
    have h4 : Tryd.prog.cellsOf 26 = 4 := by kernel_rfl
    rw [h4] at hi
    have each : ∀ j, j < len * 4 → ∃ x : Int, W.cell? (a.add j) = some (.int .u64 x) ∧ 0 ≤ x ∧ x ≤ 18446744073709551615 := by
      intro j hj
      obtain ⟨cs', hc, ht⟩ := hi (j / 4) (by omega)
      obtain ⟨_, hlen, hcell⟩ := World.cells?_some hc
      match cs', hlen with
      | [e0, e1, e2, e3], _ =>
        obtain ⟨y0, y1, y2, y3, n', _, h0, h1, h2, h3⟩ := trod_array4 Tryd.underlying26 (by kernel_rfl) ht
        obtain ⟨z0, r0, _, w0⟩ := DataW.trod_int Tryd.underlying24 h0
        obtain ⟨z1, r1, _, w1⟩ := DataW.trod_int Tryd.underlying24 h1
        obtain ⟨z2, r2, _, w2⟩ := DataW.trod_int Tryd.underlying24 h2
        obtain ⟨z3, r3, _, w3⟩ := DataW.trod_int Tryd.underlying24 h3
        simp only [List.cons.injEq, and_true] at r0 r1 r2 r3
        subst r0 r1 r2 r3
        have hj4 := hcell (j % 4) (by omega)
        rw [Addr.add_add, show j / 4 * 4 + j % 4 = j by omega] at hj4
        rw [hj4]
        have : j % 4 < 4 := by omega
        match j % 4, this with
        | 0, _ => exact ⟨z0, rfl, u64_wf w0⟩
        | 1, _ => exact ⟨z1, rfl, u64_wf w1⟩
        | 2, _ => exact ⟨z2, rfl, u64_wf w2⟩
        | 3, _ => exact ⟨z3, rfl, u64_wf w3⟩
    obtain ⟨X, hX⟩ := choose_lt (α := Int) each
    refine ⟨some a, len, cap, (List.range (len * 4)).map X, hcs, fun hn => ?_, by simp, fun x hx => ?_, .inr ⟨_, _, by rw [hx], by simp⟩⟩
    · simp at hn
      obtain ⟨ab, ao, spot⟩ := a
      have hspot : spot = none := by simpa [Addr.add] using World.cell?_spot (hX 0 (by omega)).1
      subst hspot
      refine ⟨ab, ao, rfl, fun j x hx => ?_⟩
      rw [List.getElem?_map] at hx
      by_cases hj : j < len * 4
      · rw [List.getElem?_range hj] at hx
        simp at hx
        subst hx
        have := (hX j hj).1
        rwa [Addr.add_lit] at this
      · rw [List.getElem?_eq_none (by simpa using hj)] at hx
        simp at hx
    · simp at hx
      obtain ⟨j, hj, rfl⟩ := hx
      exact (hX j hj).2
/-- The law's piece. -/
theorem open_piece {r : Reach} {b : Nat} {v : Value} {d : DataW H} {ps : List MemPlace} (hv : Value.okWide Tryd.prog W r b 34 v) (h : DataW.Trod enc Tryd.prog W base spare held 34 v d ps)
    {ts : List TypeId} {ds : List (DataW H)} (hsz : (DataW.weightsEach Tryd.prog (34 :: ts) (d :: ds)).all (· ≤ reachBytes) = true) :
    ∃ kind place A n c ws block, v = .agg #[.int .i64 kind, .int .i64 place, .slice A n c, .int .i64 block] ∧ Reads W .u64 A ws ∧ ws.length = n * 4 ∧ (∀ x ∈ ws, 0 ≤ x ∧ x ≤ 18446744073709551615) ∧ (n + 2) * 32 ≤ 140737488355328 ∧
      (-9223372036854775808 ≤ kind ∧ kind ≤ 9223372036854775807) ∧ (-9223372036854775808 ≤ place ∧ place ≤ 9223372036854775807) ∧ (-9223372036854775808 ≤ block ∧ block ≤ 9223372036854775807) := by
  unfold Value.okWide at hv
  rw [Tryd.underlying34] at hv
  obtain ⟨cs, rfl, hs, _⟩ := hv
  obtain ⟨c0, c1, c2, c3, rfl⟩ := array4 (hs.trans (by kernel_rfl : Tryd.prog.cellsOf 34 = 4))
  obtain ⟨fuel, hf⟩ := h
  obtain ⟨y0, y1, y2, y3, n, hx, _, h0, h1, h2, h3⟩ := trod_struct4 Tryd.underlying34 hf
  have k3 : Tryd.prog.cellsOf 3 = 1 := by kernel_rfl
  have k32 : Tryd.prog.cellsOf 32 = 1 := by kernel_rfl
  simp only [Value.cells, k3, k32] at h0 h1 h2 h3
  obtain ⟨z0, e0, r0, w0⟩ := DataW.trod_int Tryd.underlying3 h0
  obtain ⟨z1, e1, r1, w1⟩ := DataW.trod_int Tryd.underlying3 h1
  obtain ⟨z3, e3, r3, w3⟩ := DataW.trod_int Tryd.underlying3 h3
  obtain ⟨A, m, c, ws, e2, hr, hl, hw, hd⟩ := open_recs h2
  simp at e0 e1 e2 e3
  subst e0 e1 e2 e3
  refine ⟨z0, z1, A, m, c, ws, z3, rfl, hr, hl, hw, ?_, i64_wf w0, i64_wf w1, i64_wf w3⟩
  rcases hd with ⟨_, h0⟩ | ⟨el, sp, hy, hel⟩
  · omega
  · have h2 : (el.length + sp.length) * Tryd.prog.bytesOf 26 ≤ reachBytes := of_decide_eq_true (List.all_eq_true.1 hsz _ (by
      simp only [Prod.mk.injEq] at hx
      rw [hx.1, hy]
      simp [DataW.weights, DataW.weightsEach, Tryd.underlying34, Tryd.underlying32]))
    rw [show Tryd.prog.bytesOf 26 = 32 by kernel_rfl] at h2
    simp only [reachBytes] at h2
    omega
end
end Go.Proofs.YtambpbgmmmiocaaDoor
