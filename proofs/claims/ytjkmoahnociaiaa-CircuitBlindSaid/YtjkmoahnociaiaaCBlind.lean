/- CircuitBlind: the order of a circuit's gates, and what lies in no cone of an output or of a latch, bear on nothing that goes out. For every input. -/
import Derived.Test.YtjkmoahnociaiaaB5
import Derived.Test.YtjkmoahnociaiaaY2
namespace Go.Proofs.Ytjkmoahnociaiaa.circuitBlind
open Go.ChangeShapes Go.WideShapes Go.ChangeAt Go.RowKit

theorem own : ownKnob Try.prog.godebug = none := by kernel_rfl
theorem laidOut : laidOutB Try.prog = true := by kernel_rfl
theorem readable : ∀ t ∈ Try.f7.params.toList, Try.prog.readableRec t = true ∧ t < Try.prog.types.size := by
  rw [Try.params7]
  intro t ht
  have hall : ([23, 23, 43].all fun u => Try.prog.readableRec u && decide (u < Try.prog.types.size)) = true := by kernel_rfl
  have := List.all_eq_true.1 hall t (by simpa using ht)
  simpa using this

/-- What the walk gives, for every argument and every world. -/
theorem contract (H : Type) (enc : TypeId × Value → H) (W : World) (base : Nat) (args : Array Value) (ds gs : List (DataW H)) (before : List MemPlace)
    (hval : ∀ (j : Nat) t v, Try.f7.params[j]? = some t → args[j]? = some v → Value.okWide Try.prog W .any base t v)
    (hW : DataW.Whole enc Try.prog Try.f7.params.toList Rows.circuitBlindSpec.vars false W args.toList ds gs before)
    (hsz : (DataW.weightsEach Try.prog (Try.f7.params.toList ++ Rows.circuitBlindSpec.plain.varTypes Try.prog) (ds ++ gs)).all (· ≤ reachBytes) = true) :
    Calls Try.prog 7 args W fun e W' => ∃ v, e = .returned v ∧ Rows.circuitBlindSpec.post enc Try.prog Try.f7 false true false false W args v W' := by
  have hW' := hW
  obtain ⟨p, q, hA0, hV, rfl, hfz, hnd⟩ := hW
  have hA : DataW.TrodAll enc Try.prog W 0 (fun _ => true) true Try.f7.params.toList args.toList ds p := hA0
  rw [Try.params7] at hA hval
  obtain ⟨rfl, rfl⟩ := trodVars_none hV
  clear hA0
  obtain ⟨v0, vs0, d0, ds0, p0, q0, hargs, rfl, rfl, h0, r0⟩ := trodAll_cons hA
  obtain ⟨v1, vs1, d1, ds1, p1, q1, rfl, rfl, rfl, h1, r1⟩ := trodAll_cons r0
  obtain ⟨v2, vs2, d2, ds2, p2, q2, rfl, rfl, rfl, h2, r2⟩ := trodAll_cons r1
  obtain ⟨rfl, rfl, rfl⟩ := trodAll_nil r2
  obtain rfl : args = #[v0, v1, v2] := by cases args; simp_all
  rw [Try.params7] at hsz
  obtain ⟨a0, l0, c0, rfl⟩ := okWide_slice Try.underlying23 (hval 0 23 v0 rfl rfl)
  obtain ⟨f0, h0⟩ := h0
  obtain ⟨A0, m0, e0, xs0, g0, hr0, hl0, hx0, hi0, hs0⟩ := open_sized h0
  obtain ⟨rfl, rfl, rfl⟩ : a0 = A0 ∧ l0 = m0 ∧ c0 = e0 := by simpa [Value.cells] using g0
  have hm0 := part_bytes (j := 0) (all_le hsz) rfl rfl Try.underlying23 (bytes := 8) (by kernel_rfl) hs0
  obtain ⟨a1, l1, c1, rfl⟩ := okWide_slice Try.underlying23 (hval 1 23 v1 rfl rfl)
  obtain ⟨f1, h1⟩ := h1
  obtain ⟨A1, m1, e1, xs1, g1, hr1, hl1, hx1, hi1, hs1⟩ := open_sized h1
  obtain ⟨rfl, rfl, rfl⟩ : a1 = A1 ∧ l1 = m1 ∧ c1 = e1 := by simpa [Value.cells] using g1
  have hm1 := part_bytes (j := 1) (all_le hsz) rfl rfl Try.underlying23 (bytes := 8) (by kernel_rfl) hs1
  obtain ⟨a2, l2, c2, rfl⟩ := okWide_slice Try.underlying43 (hval 2 43 v2 rfl rfl)
  obtain ⟨f2, h2⟩ := h2
  obtain ⟨A2, m2, e2, I2, g2, hr2, hrr2, hl2, hx2, hxx2, hs2⟩ := open_lists h2
  obtain ⟨rfl, rfl, rfl⟩ : a2 = A2 ∧ l2 = m2 ∧ c2 = e2 := by simpa [Value.cells] using g2
  have hm2 := part_bytes (j := 2) (n := l2) (all_le hsz) rfl rfl Try.underlying43 (bytes := 24) (by kernel_rfl) (hs2.imp id (fun ⟨el, sp, h1, h2, _⟩ => ⟨el, sp, h1, h2⟩))
  have walk := blind_any I2 xs0 xs1 a0 a1 a2 l0 l1 l2 c0 c1 c2 W hr0 hl0 (fun x hx => hi0 x hx) (by omega) hr1 hl1 (fun x hx => hi1 x hx) (by omega) hr2 hrr2 hl2 (by omega)
  refine walk.mono fun e W' ⟨he, hb⟩ => ?_
  subst he
  exact ⟨_, rfl, law_post hW' rfl rfl rfl Try.underlying4 laidOut readable hb⟩

set_option maxRecDepth 100000 in
theorem lifted (os : Os) (started : os.Started) (H : Type) (enc : TypeId × Value → H) :
    ReturnsInHanded {} Try.checked os 7 .any (Rows.circuitBlindSpec.pre6 enc Try.prog Try.f7 Rows.circuitBlindRow.domain false) (Rows.circuitBlindSpec.post enc Try.prog Try.f7 false true false false) := by
  refine returnsInHanded_of_change_sized (C := Try.checked) own started (by kernel_rfl) Try.func7
    (ChangeSpec.witness6 (enc := enc) (C := Try.checked) false ⟨#[], #[.slice none 0 0, .slice none 0 0, .slice none 0 0], []⟩ 8 (by kernel_rfl) (by kernel_rfl) (by kernel_rfl) (by kernel_rfl)) ?_
  intro W base args ds gs before hval hW _ hsz _
  exact contract H enc W base args ds gs before hval hW hsz

/-- The statement. -/
theorem said : Rows.CircuitBlindSaid :=
  OpenClaim.holds_of_wide 7 Try.f7 rfl rfl rfl rfl rfl rfl rfl ⟨rfl, rfl, rfl, rfl, rfl⟩ rfl rfl rfl rfl rfl (by kernel_rfl) Try.func7 (by kernel_rfl)
    (of_decide_eq_true (by kernel_rfl)) (by unfold Func.isWrapper; first | (rw [if_pos (by decide +kernel)]; kernel_rfl) | (rw [if_neg (by decide +kernel)]; exact ⟨rfl, rfl⟩))
    (fun os started H enc _ => lifted os started H enc)
#print axioms said
end Go.Proofs.Ytjkmoahnociaiaa.circuitBlind
