/- CircuitSteps: every Step and First, asked twice, and behind a turning of all that was handed in. For every input. -/
import Derived.Test.YtjkmoahnociaiaaSG
import Derived.Test.YtjkmoahnociaiaaY1
namespace Go.Proofs.Ytjkmoahnociaiaa.circuitSteps
open Go.ChangeShapes Go.WideShapes Go.ChangeAt Go.RowKit

theorem own : ownKnob Try.prog.godebug = none := by kernel_rfl
theorem laidOut : laidOutB Try.prog = true := by kernel_rfl
theorem readable : ∀ t ∈ Try.f4.params.toList, Try.prog.readableRec t = true ∧ t < Try.prog.types.size := by
  rw [Try.params4]
  intro t ht
  have hall : ([25, 35, 35].all fun u => Try.prog.readableRec u && decide (u < Try.prog.types.size)) = true := by kernel_rfl
  have := List.all_eq_true.1 hall t (by simpa using ht)
  simpa using this

/-- What the walk gives, for every argument and every world. -/
theorem contract (H : Type) (enc : TypeId × Value → H) (W : World) (base : Nat) (args : Array Value) (ds gs : List (DataW H)) (before : List MemPlace)
    (hval : ∀ (j : Nat) t v, Try.f4.params[j]? = some t → args[j]? = some v → Value.okWide Try.prog W .any base t v)
    (hW : DataW.Whole enc Try.prog Try.f4.params.toList Rows.circuitStepsSpec.vars false W args.toList ds gs before)
    (hsz : (DataW.weightsEach Try.prog (Try.f4.params.toList ++ Rows.circuitStepsSpec.plain.varTypes Try.prog) (ds ++ gs)).all (· ≤ reachBytes) = true) :
    Calls Try.prog 4 args W fun e W' => ∃ v, e = .returned v ∧ Rows.circuitStepsSpec.post enc Try.prog Try.f4 false true false false W args v W' := by
  have hW' := hW
  obtain ⟨p, q, hA0, hV, rfl, hfz, hnd⟩ := hW
  have hA : DataW.TrodAll enc Try.prog W 0 (fun _ => true) true Try.f4.params.toList args.toList ds p := hA0
  rw [Try.params4] at hA hval
  obtain ⟨rfl, rfl⟩ := trodVars_none hV
  clear hA0
  obtain ⟨v0, vs0, d0, ds0, p0, q0, hargs, rfl, rfl, h0, r0⟩ := trodAll_cons hA
  obtain ⟨v1, vs1, d1, ds1, p1, q1, rfl, rfl, rfl, h1, r1⟩ := trodAll_cons r0
  obtain ⟨v2, vs2, d2, ds2, p2, q2, rfl, rfl, rfl, h2, r2⟩ := trodAll_cons r1
  obtain ⟨rfl, rfl, rfl⟩ := trodAll_nil r2
  obtain rfl : args = #[v0, v1, v2] := by cases args; simp_all
  rw [Try.params4] at hsz
  obtain ⟨name0, A0, n0, ca0, gs0, B0, m0, cb0, outs0, rfl, hA0, hn0, hnm0, hg0, hB0, hm0, hmm0, ho0, hw0, hby0⟩ := open_circuit (hval 0 25 v0 rfl rfl) h0
  obtain ⟨a1, l1, c1, rfl⟩ := okWide_slice Try.underlying35 (hval 1 35 v1 rfl rfl)
  obtain ⟨f1, h1⟩ := h1
  obtain ⟨A1, m1, e1, xs1, g1, hr1, hl1, hx1, hs1⟩ := open_truths h1
  obtain ⟨rfl, rfl, rfl⟩ : a1 = A1 ∧ l1 = m1 ∧ c1 = e1 := by simpa [Value.cells] using g1
  have hm1 := part_bytes (j := 1) (all_le hsz) rfl rfl Try.underlying35 (bytes := 1) (by kernel_rfl) hs1
  obtain ⟨a2, l2, c2, rfl⟩ := okWide_slice Try.underlying35 (hval 2 35 v2 rfl rfl)
  obtain ⟨f2, h2⟩ := h2
  obtain ⟨A2, m2, e2, xs2, g2, hr2, hl2, hx2, hs2⟩ := open_truths h2
  obtain ⟨rfl, rfl, rfl⟩ : a2 = A2 ∧ l2 = m2 ∧ c2 = e2 := by simpa [Value.cells] using g2
  have hm2 := part_bytes (j := 2) (all_le hsz) rfl rfl Try.underlying35 (bytes := 1) (by kernel_rfl) hs2
  obtain ⟨hx0, hy0⟩ := hby0 (arg_weights (j := 0) hsz rfl rfl)
  have walk := steps_any ⟨name0, gs0, outs0⟩ xs1 xs2 A0 B0 a1 a2 n0 m0 l1 l2 ca0 cb0 c1 c2 W hA0 hB0 hr1 hr2 ⟨hw0, fun g hg => (hg0 g hg).name, by rw [hn0]; exact hnm0, by rw [hm0]; exact hmm0⟩ hn0 hm0 hl1 hl2 (by omega) (by omega) (by omega) (by omega)
  refine walk.mono fun e W' ⟨he, hb⟩ => ?_
  subst he
  exact ⟨_, rfl, law_post hW' rfl rfl rfl Try.underlying4 laidOut readable hb⟩

set_option maxRecDepth 100000 in
theorem lifted (os : Os) (started : os.Started) (H : Type) (enc : TypeId × Value → H) :
    ReturnsInHanded {} Try.checked os 4 .any (Rows.circuitStepsSpec.pre6 enc Try.prog Try.f4 Rows.circuitStepsRow.domain false) (Rows.circuitStepsSpec.post enc Try.prog Try.f4 false true false false) := by
  refine returnsInHanded_of_change_sized (C := Try.checked) own started (by kernel_rfl) Try.func4
    (ChangeSpec.witness6 (enc := enc) (C := Try.checked) false ⟨#[], #[.agg #[.string ⟨#[]⟩, .slice none 0 0, .slice none 0 0], .slice none 0 0, .slice none 0 0], []⟩ 8 (by kernel_rfl) (by kernel_rfl) (by kernel_rfl) (by kernel_rfl)) ?_
  intro W base args ds gs before hval hW _ hsz _
  exact contract H enc W base args ds gs before hval hW hsz

/-- The statement. -/
theorem said : Rows.CircuitStepsSaid :=
  OpenClaim.holds_of_wide 4 Try.f4 rfl rfl rfl rfl rfl rfl rfl ⟨rfl, rfl, rfl, rfl, rfl⟩ rfl rfl rfl rfl rfl (by kernel_rfl) Try.func4 (by kernel_rfl)
    (of_decide_eq_true (by kernel_rfl)) (by unfold Func.isWrapper; first | (rw [if_pos (by decide +kernel)]; kernel_rfl) | (rw [if_neg (by decide +kernel)]; exact ⟨rfl, rfl⟩))
    (fun os started H enc _ => lifted os started H enc)
#print axioms said
end Go.Proofs.Ytjkmoahnociaiaa.circuitSteps
