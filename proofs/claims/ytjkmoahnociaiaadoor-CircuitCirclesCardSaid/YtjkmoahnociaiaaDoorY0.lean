/- A circuit that came in, opened. -/
import Derived.Test.YtjkmoahnociaiaaDoorX0
import Derived.Lib.SmallJoins
import Derived.Deep.Slices
import Derived.Deep.Strs
import Derived.Deep.Fields
import Derived.ChangeSame
import Derived.SizedLaws
namespace Go.Proofs.YtjkmoahnociaiaaDoor
open Go.ChangeShapes Go.WideShapes Go.ChangeAt Go.RowKit Go.Deep Go.Joins

instance : Inhabited Gt := ⟨⟨0, ⟨#[]⟩, 0, 0, 0, 0⟩⟩
theorem i64_wf {z : Int} (h : (Lit.int .i64 z).wf = true) : -9223372036854775808 ≤ z ∧ z ≤ 9223372036854775807 := by
  have := range_i64 (zs := [z]) (by simpa using h) 0
  simpa using this
section
variable {H : Type} {enc : TypeId × Value → H} {P : Program} {w : World} {base : Nat} {spare : Nat → Bool} {held : Bool}
theorem open_slice_fields {t e : TypeId} {fs : Array Field} {fuel : Nat} {cs : List Value} {x : DataW H × List MemPlace} (ht : P.underlying t = some (.slice e)) (he : P.underlying e = some (.struct fs))
    (hone : oneCellFields P fs = true) (hC : P.cellsOf e = fs.size) (h : DataW.trod enc P w base spare held fuel t cs = some x) :
    (cs = [.slice none 0 0] ∧ x = (.nil, [])) ∨
    ∃ (a : Addr) (len cap m : Nat) (D : Nat → DataW H) (Pl : Nat → List MemPlace), cs = [.slice (some a) len cap] ∧ base ≤ a.block ∧ len ≤ cap ∧ cap ≤ maxLen ∧ m = (if spare a.block then cap else len) ∧
      x = (.slice ((List.range len).map D) ((List.range (m - len)).map fun j => D (len + j)), MemPlace.row a (m * fs.size) ++ (List.range m).flatMap Pl) ∧
      ∀ i, i < m → ∃ (ys : List (DataW H × List MemPlace)) (n : Nat), D i = .agg (ys.map (·.1)) ∧ Pl i = ys.flatMap (·.2) ∧ ys.length = fs.size ∧
        ∀ (j : Nat) (f : Field), fs[j]? = some f → ∃ (v : Value) (y : DataW H × List MemPlace), w.cell? (a.add (i * fs.size + j)) = some v ∧ ys[j]? = some y ∧ DataW.trod enc P w base spare held n f.type [v] = some y := by
  rcases open_slice ht h with h0 | ⟨a, len, cap, m, n, D, Pl, hcs, hb, hl, hm, hmm, hx, hi⟩
  · exact .inl h0
  · refine .inr ⟨a, len, cap, m, D, Pl, hcs, hb, hl, hm, hmm, by rw [hC] at hx; exact hx, fun i him => ?_⟩
    obtain ⟨cs', hc, ht'⟩ := hi i him
    rw [hC] at hc
    obtain ⟨ys, n', hn', hy, hlen, hyl, hf⟩ := DataW.trod_struct he ht'
    obtain ⟨_, hcl, hat⟩ := World.cells?_some hc
    simp only [Prod.mk.injEq] at hy
    refine ⟨ys, n', hy.1, hy.2, hyl, fun j f hj => ?_⟩
    obtain ⟨ho, hk⟩ := hone_of hone j f hj
    have hjl : j < fs.size := (Array.getElem?_eq_some_iff.1 hj).1
    have hcell := hat j hjl
    have hv : cs'[j]? = some (cs'[j]'(by omega)) := List.getElem?_eq_getElem (by omega)
    have h1 := hf j f hj
    rw [ho, hk] at h1
    have hone' : (cs'.drop j).take 1 = [cs'[j]'(by omega)] := by
      rw [List.drop_eq_getElem_cons (by omega)]
      rfl
    rw [hone'] at h1
    have hys : ys[j]? = some (ys[j]'(by omega)) := List.getElem?_eq_getElem (by omega)
    refine ⟨_, _, ?_, hys, h1.trans hys⟩
    rw [← Go.Deep.add_add, hcell, hv]
end
def I64 (z : Int) : Prop := -9223372036854775808 ≤ z ∧ z ≤ 9223372036854775807
/-- The numbers and texts of a line are such as Go can hold. -/
structure GtOk (g : Gt) : Prop where
  kind : I64 g.kind
  op : I64 g.op
  a : I64 g.a
  b : I64 g.b
  c : I64 g.c
  name : g.name.size ≤ maxLen
section
variable {H : Type} {enc : TypeId × Value → H} {W : World} {base : Nat} {spare : Nat → Bool} {held : Bool}
theorem open_gates {fuel : Nat} {cs : List Value} {y : DataW H × List MemPlace} (h : DataW.trod enc Tryd.prog W base spare held fuel 22 cs = some y) :
    ∃ A n c gs, cs = [.slice A n c] ∧ CReads W A (gcells gs) ∧ gs.length = n ∧ n ≤ maxLen ∧ (∀ g ∈ gs, GtOk g) ∧ ((y.1 = .nil ∧ n = 0) ∨ ∃ el sp, y.1 = .slice el sp ∧ el.length = n) := by
  have h6 : Tryd.prog.cellsOf 46 = 6 := by kernel_rfl
  rcases open_slice_fields Tryd.underlying22 Tryd.underlying46 (by kernel_rfl) (by rw [h6]; rfl) h with ⟨hcs, hx⟩ | ⟨a, len, cap, m, D, Pl, hcs, hb, hl, hm, hmm, hx, hi⟩
  · exact ⟨none, 0, 0, [], hcs, CReads.nil _ _, rfl, by omega, by simp, .inl ⟨by rw [hx], rfl⟩⟩
  · have hlm : len ≤ m := by rw [hmm]; split <;> omega
    have each : ∀ i, i < len → ∃ g : Gt, GtOk g ∧ ∀ j, j < 6 → W.cell? (a.add (i * 6 + j)) = g.cells[j]? := by
      intro i hi'
      obtain ⟨ys, n', _, _, _, hf⟩ := hi i (by omega)
      obtain ⟨v0, y0, c0, _, t0⟩ := hf 0 _ rfl
      obtain ⟨v1, y1, c1, _, t1⟩ := hf 1 _ rfl
      obtain ⟨v2, y2, c2, _, t2⟩ := hf 2 _ rfl
      obtain ⟨v3, y3, c3, _, t3⟩ := hf 3 _ rfl
      obtain ⟨v4, y4, c4, _, t4⟩ := hf 4 _ rfl
      obtain ⟨v5, y5, c5, _, t5⟩ := hf 5 _ rfl
      obtain ⟨z0, r0, _, w0⟩ := DataW.trod_int Tryd.underlying3 t0
      obtain ⟨s1, r1, _, w1⟩ := DataW.trod_string Tryd.underlying9 t1
      obtain ⟨z2, r2, _, w2⟩ := DataW.trod_int Tryd.underlying3 t2
      obtain ⟨z3, r3, _, w3⟩ := DataW.trod_int Tryd.underlying3 t3
      obtain ⟨z4, r4, _, w4⟩ := DataW.trod_int Tryd.underlying3 t4
      obtain ⟨z5, r5, _, w5⟩ := DataW.trod_int Tryd.underlying3 t5
      simp only [List.cons.injEq, and_true] at r0 r1 r2 r3 r4 r5
      subst r0 r1 r2 r3 r4 r5
      refine ⟨⟨z0, s1, z2, z3, z4, z5⟩, ⟨i64_wf w0, i64_wf w2, i64_wf w3, i64_wf w4, i64_wf w5, w1⟩, fun j hj => ?_⟩
      match j, hj with
      | 0, _ => exact c0
      | 1, _ => exact c1
      | 2, _ => exact c2
      | 3, _ => exact c3
      | 4, _ => exact c4
      | 5, _ => exact c5
    obtain ⟨X, hX⟩ := choose_lt (α := Gt) each
    refine ⟨some a, len, cap, (List.range len).map X, hcs, fun hn => ?_, by simp, by omega, fun g hg => ?_, .inr ⟨_, _, by rw [hx], by simp⟩⟩
    · rw [gcells_length] at hn
      simp at hn
      obtain ⟨ab, ao, spot⟩ := a
      have hspot : spot = none := by
        have := (hX 0 (by omega)).2 0 (by omega)
        simpa [Addr.add] using World.cell?_spot this
      subst hspot
      refine ⟨ab, ao, rfl, fun j x hx => ?_⟩
      have hj := (List.getElem?_eq_some_iff.1 hx).1
      rw [gcells_length] at hj
      simp at hj
      have hg : ((List.range len).map X)[j / 6]? = some (X (j / 6)) := by
        rw [List.getElem?_map, List.getElem?_range (by omega)]
        rfl
      have h1 := gcells_get hg (j % 6) (by omega)
      rw [show j / 6 * 6 + j % 6 = j by omega] at h1
      have h2 := (hX (j / 6) (by omega)).2 (j % 6) (by omega)
      rw [show j / 6 * 6 + j % 6 = j by omega, ← h1, hx, Addr.add_lit] at h2
      exact h2
    · simp at hg
      obtain ⟨j, hj, rfl⟩ := hg
      exact (hX j hj).1
/-- A list of numbers that came in. -/
theorem open_sized {fuel : Nat} {cs : List Value} {y : DataW H × List MemPlace} (h : DataW.trod enc Tryd.prog W base spare held fuel 23 cs = some y) :
    ∃ A m c xs, cs = [.slice A m c] ∧ Reads W .i64 A xs ∧ xs.length = m ∧ m ≤ maxLen ∧ (∀ x ∈ xs, I64 x) ∧ ((y.1 = .nil ∧ m = 0) ∨ ∃ el sp, y.1 = .slice el sp ∧ el.length = m) := by
  rcases open_slice1 Tryd.underlying23 (by kernel_rfl) h with ⟨hcs, hx⟩ | ⟨a, len, cap, m, n, V, D, Pl, hcs, hb, hl, hm, hmm, hx, hi⟩
  · exact ⟨none, 0, 0, [], hcs, Reads.nil _ _ _, rfl, by omega, by simp, .inl ⟨by rw [hx], rfl⟩⟩
  · have hlm : len ≤ m := by rw [hmm]; split <;> omega
    have each : ∀ j, j < len → ∃ x : Int, W.cell? (a.add j) = some (.int .i64 x) ∧ -9223372036854775808 ≤ x ∧ x ≤ 9223372036854775807 := by
      intro j hj
      obtain ⟨hc, ht⟩ := hi j (by omega)
      obtain ⟨z0, r0, _, w0⟩ := DataW.trod_int Tryd.underlying3 ht
      simp only [List.cons.injEq, and_true] at r0
      rw [r0] at hc
      exact ⟨z0, hc, i64_wf w0⟩
    obtain ⟨X, hX⟩ := choose_lt (α := Int) each
    refine ⟨some a, len, cap, (List.range len).map X, hcs, fun hn => ?_, by simp, by omega, fun x hx => ?_, .inr ⟨_, _, by rw [hx], by simp⟩⟩
    · simp at hn
      obtain ⟨ab, ao, spot⟩ := a
      have hspot : spot = none := by simpa [Addr.add] using World.cell?_spot (hX 0 (by omega)).1
      subst hspot
      refine ⟨ab, ao, rfl, fun j x hx => ?_⟩
      rw [List.getElem?_map] at hx
      by_cases hj : j < len
      · rw [List.getElem?_range hj] at hx
        simp at hx
        subst hx
        have := (hX j hj).1
        rwa [Addr.add_lit] at this
      · rw [List.getElem?_eq_none (by simpa using hj)] at hx
        simp at hx
    · simp at hx
      obtain ⟨j, hj, rfl⟩ := hx
      exact (hX j hj).2
theorem part_bytes {t e : TypeId} {ts : List TypeId} {ds : List (DataW H)} {j n bytes : Nat} {d : DataW H} (h : ∀ x ∈ DataW.weightsEach Tryd.prog ts ds, x ≤ reachBytes) (ht : ts[j]? = some t) (hd : ds[j]? = some d)
    (hu : Tryd.prog.underlying t = some (.slice e)) (hb : Tryd.prog.bytesOf e = bytes) (hs : (d = .nil ∧ n = 0) ∨ ∃ el sp, d = .slice el sp ∧ el.length = n) : n * bytes ≤ 140737488351232 := by
  rcases hs with ⟨_, rfl⟩ | ⟨el, sp, rfl, rfl⟩
  · omega
  · have h1 := h _ (DataW.weights_mem_each ht hd ((el.length + sp.length) * Tryd.prog.bytesOf e) (by simp [DataW.weights, hu]))
    rw [hb] at h1
    simp only [reachBytes] at h1
    rw [Nat.add_mul] at h1
    omega
set_option maxRecDepth 100000 in
/-- A circuit that came in. -/
theorem open_circuit {r : Go.Reach} {b0 : Nat} {v : Value} {d : DataW H} {p : List MemPlace} (hv : Value.okWide Tryd.prog W r b0 25 v) (h : DataW.Trod enc Tryd.prog W base spare held 25 v d p) :
    ∃ name A n ca gs B m cb outs, v = .agg #[.string name, .slice A n ca, .slice B m cb] ∧ CReads W A (gcells gs) ∧ gs.length = n ∧ n ≤ maxLen ∧ (∀ g ∈ gs, GtOk g) ∧ Reads W .i64 B outs ∧ outs.length = m ∧ m ≤ maxLen ∧ (∀ x ∈ outs, I64 x) ∧ name.size ≤ maxLen ∧
      ((∀ x ∈ d.weights Tryd.prog 25, x ≤ reachBytes) → n * 56 ≤ 140737488351232 ∧ m * 8 ≤ 140737488351232) := by
  obtain ⟨v0, v1, v2, y0, y1, y2, n', rfl, rfl, _, h0, h1, h2⟩ := open_agg3 Tryd.underlying25 (by kernel_rfl) (by kernel_rfl) hv h
  obtain ⟨name, r0, _, w0⟩ := DataW.trod_string Tryd.underlying9 h0
  obtain ⟨A, n, ca, gs, r1, hA, hn, hnm, hg, hs1⟩ := open_gates h1
  obtain ⟨B, m, cb, outs, r2, hB, hm, hmm, ho, hs2⟩ := open_sized h2
  simp only [List.cons.injEq, and_true] at r0 r1 r2
  subst r0 r1 r2
  refine ⟨name, A, n, ca, gs, B, m, cb, outs, rfl, hA, hn, hnm, hg, hB, hm, hmm, ho, w0, fun hw => ?_⟩
  have hw' : ∀ x ∈ DataW.weightsEach Tryd.prog [9, 22, 23] [y0.1, y1.1, y2.1], x ≤ reachBytes := by
    intro x hx
    apply hw
    unfold DataW.weights
    rw [Tryd.underlying25]
    exact hx
  exact ⟨part_bytes (j := 1) hw' rfl rfl Tryd.underlying22 (by kernel_rfl) hs1, part_bytes (j := 2) hw' rfl rfl Tryd.underlying23 (by kernel_rfl) hs2⟩
/-- The weights of one argument. -/
theorem arg_weights {ts : List TypeId} {ds : List (DataW H)} {j : Nat} {t : TypeId} {d : DataW H} (h : (DataW.weightsEach Tryd.prog ts ds).all (· ≤ reachBytes) = true) (ht : ts[j]? = some t) (hd : ds[j]? = some d) : ∀ x ∈ d.weights Tryd.prog t, x ≤ reachBytes := fun x hx => by
  have := List.all_eq_true.1 h _ (DataW.weights_mem_each ht hd x hx)
  simpa using this
end
end Go.Proofs.YtjkmoahnociaiaaDoor
