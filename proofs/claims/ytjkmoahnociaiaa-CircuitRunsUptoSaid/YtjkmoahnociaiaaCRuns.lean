/- CircuitRuns: every Run, asked twice, its lists written over and grown, and behind a turning of all that was handed in. For every input of bulk at most 1048576. -/
import Derived.Test.YtjkmoahnociaiaaR5
import Derived.Test.YtjkmoahnociaiaaY2
import Derived.Deep.CondSized
namespace Go.Proofs.Ytjkmoahnociaiaa.circuitRuns
open Go.ChangeShapes Go.WideShapes Go.ChangeAt Go.RowKit

theorem own : ownKnob Try.prog.godebug = none := by kernel_rfl
theorem laidOut : laidOutB Try.prog = true := by kernel_rfl
theorem readable : ∀ t ∈ Try.f5.params.toList, Try.prog.readableRec t = true ∧ t < Try.prog.types.size := by
  rw [Try.params5]
  intro t ht
  have hall : ([25, 43].all fun u => Try.prog.readableRec u && decide (u < Try.prog.types.size)) = true := by kernel_rfl
  have := List.all_eq_true.1 hall t (by simpa using ht)
  simpa using this

/-- What the walk gives, for every argument and every world. -/
theorem contract (H : Type) (enc : TypeId × Value → H) (F0 : Stop.Interp) (W : World) (base : Nat) (args : Array Value) (ds gs : List (DataW H)) (before : List MemPlace)
    (hval : ∀ (j : Nat) t v, Try.f5.params[j]? = some t → args[j]? = some v → Value.okWide Try.prog W .any base t v)
    (hW : DataW.Whole enc Try.prog Try.f5.params.toList (Rows.OpenSpec.upto Rows.circuitRunsSpec).vars false W args.toList ds gs before) (hk : Rows.uptoSmall H (ds ++ gs) = true)
    (hsz : (DataW.weightsEach Try.prog (Try.f5.params.toList ++ (Rows.OpenSpec.upto Rows.circuitRunsSpec).bare.plain.varTypes Try.prog) (ds ++ gs)).all (· ≤ reachBytes) = true) :
    Calls Try.prog 5 args W fun e W' => ∃ v, e = .returned v ∧ ((Rows.OpenSpec.upto Rows.circuitRunsSpec).at F0).post enc Try.prog Try.f5 false true false false W args v W' := by
  have hW' := hW
  obtain ⟨p, q, hA0, hV, rfl, hfz, hnd⟩ := hW
  have hA : DataW.TrodAll enc Try.prog W 0 (fun _ => true) true Try.f5.params.toList args.toList ds p := hA0
  rw [Try.params5] at hA hval
  obtain ⟨rfl, rfl⟩ := trodVars_none hV
  clear hA0
  obtain ⟨v0, vs0, d0, ds0, p0, q0, hargs, rfl, rfl, h0, r0⟩ := trodAll_cons hA
  obtain ⟨v1, vs1, d1, ds1, p1, q1, rfl, rfl, rfl, h1, r1⟩ := trodAll_cons r0
  obtain ⟨rfl, rfl, rfl⟩ := trodAll_nil r1
  obtain rfl : args = #[v0, v1] := by cases args; simp_all
  rw [Try.params5] at hsz
  obtain ⟨name0, A0, n0, ca0, gs0, B0, m0, cb0, outs0, rfl, hA0, hn0, hnm0, hg0, hB0, hm0, hmm0, ho0, hw0, hby0⟩ := open_circuit (hval 0 25 v0 rfl rfl) h0
  obtain ⟨a1, l1, c1, rfl⟩ := okWide_slice Try.underlying43 (hval 1 43 v1 rfl rfl)
  obtain ⟨f1, h1⟩ := h1
  obtain ⟨A1, m1, e1, I, g1, hr1, hrr1, hl1, hx1, hxx1, hs1⟩ := open_lists h1
  obtain ⟨rfl, rfl, rfl⟩ : a1 = A1 ∧ l1 = m1 ∧ c1 = e1 := by simpa [Value.cells] using g1
  obtain ⟨hx0, hy0⟩ := hby0 (arg_weights (j := 0) hsz rfl rfl)
  have hk1 : Rows.uptoBulk d1 ≤ 1048576 := by
    have := of_decide_eq_true hk
    simp only [List.append_nil, Rows.uptoBulkAll] at this
    omega
  obtain ⟨hz1, hz2⟩ := lists_small hs1 hl1 hk1
  have walk := runs_any ⟨name0, gs0, outs0⟩ I A0 B0 a1 n0 m0 l1 ca0 cb0 c1 W hA0 hB0 hr1 hrr1 ⟨hw0, fun g hg => (hg0 g hg).name, by rw [hn0]; exact hnm0, by rw [hm0]; exact hmm0⟩ hn0 hm0 hl1 (by omega) (by omega) (by omega) (fun r hr => by have := hz2 r hr; omega)
  refine walk.mono fun e W' ⟨he, hb⟩ => ?_
  subst he
  exact ⟨_, rfl, law_post (s := (Rows.OpenSpec.upto Rows.circuitRunsSpec).at F0) hW' rfl rfl rfl Try.underlying4 laidOut readable hb⟩

set_option maxRecDepth 100000 in
theorem lifted (os : Os) (started : os.Started) (H : Type) (enc : TypeId × Value → H) (F0 : Stop.Interp) :
    ReturnsInHanded {} Try.checked os 5 .any ((Rows.OpenSpec.upto Rows.circuitRunsSpec).pre6 enc Try.prog Try.f5 Rows.circuitRunsUptoRow.domain false) (((Rows.OpenSpec.upto Rows.circuitRunsSpec).at F0).post enc Try.prog Try.f5 false true false false) := by
  refine returnsInHanded_of_cond_sized (C := Try.checked) (s := (Rows.OpenSpec.upto Rows.circuitRunsSpec)) (k := Rows.uptoSmall) rfl own started (by kernel_rfl) Try.func5
    (OpenSpec.witness (enc := enc) (C := Try.checked) (s := (Rows.OpenSpec.upto Rows.circuitRunsSpec)) (k := Rows.uptoSmall) rfl false ⟨#[], #[.agg #[.string ⟨#[]⟩, .slice none 0 0, .slice none 0 0], .slice none 0 0], []⟩ 8 (by kernel_rfl) (by kernel_rfl) (by kernel_rfl)
      (x := ([.agg [.lit (.string []), .nil, .nil], .nil], [], [])) (by kernel_rfl) (by kernel_rfl) (by kernel_rfl)) ?_
  intro W base args ds gs before hval hW _ hk hsz _
  exact contract H enc F0 W base args ds gs before hval hW hk hsz

/-- The statement. -/
theorem said : Rows.CircuitRunsUptoSaid :=
  OpenClaim.holds_of_cond 5 Try.f5 rfl rfl rfl rfl rfl rfl rfl ⟨rfl, rfl, rfl, rfl, rfl⟩ rfl rfl rfl rfl rfl (by kernel_rfl) Try.func5 (by kernel_rfl)
    (of_decide_eq_true (by kernel_rfl)) (by unfold Func.isWrapper; first | (rw [if_pos (by decide +kernel)]; kernel_rfl) | (rw [if_neg (by decide +kernel)]; exact ⟨rfl, rfl⟩))
    (fun os started H enc _ F0 => lifted os started H enc F0)
#print axioms said
end Go.Proofs.Ytjkmoahnociaiaa.circuitRuns
