/- CircuitPrints: every Print and Formed of package circuit answers what the document's answers, of any value: the card of the law, for every input. -/
import Derived.Test.YtjkmoahnociaiaaDoorP6
import Derived.Test.YtjkmoahnociaiaaDoorYW
import Derived.Test.YtjkmoahnociaiaaDoorY0
import Derived.Test.YtjkmoahnociaiaaDoorCards
import Derived.Test.YtjkmoahnociaiaaDoorTie
import Derived.Deep.DeepHandedRow
import Derived.Lib.LaidTab
namespace Go.Proofs.YtjkmoahnociaiaaDoor.circuitPrints
open Go.ChangeShapes Go.WideShapes Go.ChangeAt Go.RowKit

theorem own : ownKnob Tryd.prog.godebug = none := by kernel_rfl
theorem laidOut : laidOutB Tryd.prog = true := by kernel_rfl
theorem readable : ∀ t ∈ Tryd.f3.params.toList, Tryd.prog.readableRec t = true ∧ t < Tryd.prog.types.size := by
  rw [Tryd.params3]
  intro t ht
  have hall : ([25].all fun u => Tryd.prog.readableRec u && decide (u < Tryd.prog.types.size)) = true := by kernel_rfl
  have := List.all_eq_true.1 hall t (by simpa using ht)
  simpa using this
theorem gWords : Tryd.prog.globalNamed "strata/strataref14.words" = some 1 := by kernel_rfl
theorem gWordsType : (Tryd.prog.globals[1]?).map (·.type) = some 62 := by kernel_rfl
theorem gOps : Tryd.prog.globalNamed "strata/circuit.operators" = some 0 := by kernel_rfl
theorem gOpsType : (Tryd.prog.globals[0]?).map (·.type) = some 62 := by kernel_rfl
theorem ops1 {W : World} (h : laidMetH Tryd.prog Rows.circuitPrintsRow.laid W) : OpsAt W 1 :=
  ops_of_head rfl gWords gWordsType Tryd.underlying62 Tryd.underlying9 (by kernel_rfl) (by kernel_rfl) h
theorem ops0 {W : World} (h : laidMetH Tryd.prog Rows.circuitPrintsRow.laid W) : OpsAt W 0 :=
  ops_of_head rfl gOps gOpsType Tryd.underlying62 Tryd.underlying9 (by kernel_rfl) (by kernel_rfl) (laidMet.tail h)

set_option maxRecDepth 100000 in
/-- What the walk gives, for every argument and every world that holds the tables. -/
theorem contract (H : Type) (enc : TypeId × Value → H) (W : World) (base : Nat) (args : Array Value) (ds gs : List (DataW H)) (before : List MemPlace)
    (hval : ∀ (j : Nat) t v, Tryd.f3.params[j]? = some t → args[j]? = some v → Value.okWide Tryd.prog W .any base t v)
    (hW : DataW.Whole enc Tryd.prog Tryd.f3.params.toList Rows.circuitPrintsSpec.vars false W args.toList ds gs before) (hL : laidMetH Tryd.prog Rows.circuitPrintsRow.laid W)
    (hsz : (DataW.weightsEach Tryd.prog (Tryd.f3.params.toList ++ (OpenSpec.ofChange Rows.circuitPrintsSpec).bare.plain.varTypes Tryd.prog) (ds ++ gs)).all (· ≤ reachBytes) = true) :
    Calls Tryd.prog 3 args W fun e W' => ∃ v, e = .returned v ∧ Rows.circuitPrintsSpec.post enc Tryd.prog Tryd.f3 false true false false W args v W' := by
  have hW' := hW
  obtain ⟨p, q, hA0, hV, rfl, hfz, hnd⟩ := hW
  have hA : DataW.TrodAll enc Tryd.prog W 0 (fun _ => true) true Tryd.f3.params.toList args.toList ds p := hA0
  rw [Tryd.params3] at hA hval
  obtain ⟨rfl, rfl⟩ := trodVars_none hV
  clear hA0
  obtain ⟨v0, vs0, d0, ds0, p0, q0, hargs, rfl, rfl, h0, r0⟩ := trodAll_cons hA
  obtain ⟨rfl, rfl, rfl⟩ := trodAll_nil r0
  obtain rfl : args = #[v0] := by cases args; simp_all
  rw [Tryd.params3] at hsz
  obtain ⟨name0, A0, n0, ca0, gs0, B0, m0, cb0, outs0, rfl, hA0, hn0, hnm0, hg0, hB0, hm0, hmm0, ho0, hw0, hby0⟩ := open_circuit (hval 0 25 v0 rfl rfl) h0
  obtain ⟨hx0, hy0⟩ := hby0 (arg_weights (j := 0) hsz rfl rfl)
  have walk := prints_any ⟨name0, gs0, outs0⟩ A0 B0 n0 m0 ca0 cb0 W hA0 hB0 ⟨hw0, fun g hg => (hg0 g hg).name, by rw [hn0]; exact hnm0, by rw [hm0]; exact hmm0⟩ hn0 hm0 (by omega) (by omega) (ops0 hL) (ops1 hL)
  refine walk.mono fun e W' ⟨he, hb⟩ => ?_
  subst he
  exact ⟨_, rfl, law_post hW' rfl rfl rfl Tryd.underlying4 laidOut readable hb⟩

/-- A world for the witness: the settled one, the tables holding what their initialisers lay. -/
noncomputable def laidWorld (os : Os) : World :=
  { World.holding Tryd.prog os ⟨#[], #[], []⟩ with heap := (((World.holding Tryd.prog os ⟨#[], #[], []⟩).heap.modify 1 fun
      | .cells _ t frozen => .cells #[.string ⟨#[122, 101, 114, 111]⟩, .string ⟨#[110, 111, 114]⟩, .string ⟨#[108, 101, 115, 115]⟩, .string ⟨#[110, 111, 116, 97]⟩, .string ⟨#[100, 105, 102, 102]⟩, .string ⟨#[110, 111, 116, 98]⟩, .string ⟨#[120, 111, 114]⟩, .string ⟨#[110, 97, 110, 100]⟩, .string ⟨#[97, 110, 100]⟩, .string ⟨#[105, 102, 102]⟩, .string ⟨#[98]⟩, .string ⟨#[105, 109, 112]⟩, .string ⟨#[97]⟩, .string ⟨#[114, 101, 118]⟩, .string ⟨#[111, 114]⟩, .string ⟨#[111, 110, 101]⟩] t frozen
      | o => o).modify 0 fun
      | .cells _ t frozen => .cells #[.string ⟨#[122, 101, 114, 111]⟩, .string ⟨#[110, 111, 114]⟩, .string ⟨#[108, 101, 115, 115]⟩, .string ⟨#[110, 111, 116, 97]⟩, .string ⟨#[100, 105, 102, 102]⟩, .string ⟨#[110, 111, 116, 98]⟩, .string ⟨#[120, 111, 114]⟩, .string ⟨#[110, 97, 110, 100]⟩, .string ⟨#[97, 110, 100]⟩, .string ⟨#[105, 102, 102]⟩, .string ⟨#[98]⟩, .string ⟨#[105, 109, 112]⟩, .string ⟨#[97]⟩, .string ⟨#[114, 101, 118]⟩, .string ⟨#[111, 114]⟩, .string ⟨#[111, 110, 101]⟩] t frozen
      | o => o) }
theorem laid_met (os : Os) : laidMet Tryd.prog Rows.circuitPrintsRow.laid ((laidWorld os).forCall (fun _ _ => 0) ⟨#[], #[.agg #[.string ⟨#[]⟩, .slice none 0 0, .slice none 0 0]], []⟩).memory :=
  laidMet_of_run' 8 (by kernel_rfl) (by kernel_rfl)
theorem reads (os : Os) {H : Type} (enc : TypeId × Value → H) : ∃ places, DataW.whole enc Tryd.prog ((laidWorld os).forCall (fun _ _ => 0) ⟨#[], #[.agg #[.string ⟨#[]⟩, .slice none 0 0, .slice none 0 0]], []⟩).memory Tryd.f3.params.toList Rows.circuitPrintsSpec.vars false (#[.agg #[.string ⟨#[]⟩, .slice none 0 0, .slice none 0 0]] : Array Value).toList 8 = some ([.agg [.lit (.string []), .nil, .nil]], [], places) :=
  ⟨[], by kernel_rfl⟩

set_option maxRecDepth 100000 in
theorem lifted (os : Os) (started : os.Started) (H : Type) (enc : TypeId × Value → H) (F : Stop.Interp) :
    ReturnsInHanded {} Tryd.checked os 3 .any ((OpenSpec.ofChange Rows.circuitPrintsSpec).preRow enc Tryd.prog Tryd.f3 Rows.circuitPrintsRow.domain false Rows.circuitPrintsRow.laid) (((OpenSpec.ofChange Rows.circuitPrintsSpec).at F).post enc Tryd.prog Tryd.f3 false true false false) := by
  obtain ⟨places, hx⟩ := reads os enc
  refine returnsInHanded_of_row (C := Tryd.checked) (s := OpenSpec.ofChange Rows.circuitPrintsSpec) own started (by kernel_rfl) Tryd.func3
    (witness_row_at (enc := enc) (C := Tryd.checked) false (laidWorld os) #[.agg #[.string ⟨#[]⟩, .slice none 0 0, .slice none 0 0]] rfl (by kernel_rfl) (by kernel_rfl) (by kernel_rfl)
      (OpenSpec.preRow_of_cond 8 hx (by kernel_rfl) (fun k hk => by cases hk) (by kernel_rfl) (laid_met os))) ?_
  intro W base args ds gs before hval hW _ _ hsz hL _ _
  exact contract H enc W base args ds gs before hval hW hL hsz

theorem said : Rows.CircuitPrintsSaid :=
  OpenClaim.holds_of_cond 3 Tryd.f3 rfl rfl rfl rfl rfl rfl rfl ⟨rfl, rfl, rfl, rfl, rfl⟩ rfl rfl rfl rfl rfl (by kernel_rfl) Tryd.func3 (by kernel_rfl)
    (of_decide_eq_true (by kernel_rfl)) (by unfold Func.isWrapper; first | (rw [if_pos (by decide +kernel)]; kernel_rfl) | (rw [if_neg (by decide +kernel)]; exact ⟨rfl, rfl⟩))
    (fun os started H enc _ F => by rw [OpenClaim.pre_eq_preRow]; exact lifted os started H enc F)

/-- No parameter wants a stand-in; the program's own looks are off. -/
theorem plain (f : FuncId) (fn : Func) (hf : Tryd.pinned.checked.prog.funcNamed Rows.circuitPrintsRow.func = some f) (hfn : Tryd.pinned.checked.prog.funcs[f]? = some fn) :
    false = Tryd.pinned.checked.prog.looks [] ∧ ∀ (j : Nat) t, fn.params[j]? = some t → Tryd.pinned.checked.prog.wantsStandIn t = false := by
  obtain rfl : f = 3 := Option.some.inj ((show Tryd.prog.funcNamed Rows.circuitPrintsRow.func = some 3 by kernel_rfl).symm.trans hf) |>.symm
  obtain rfl : fn = Tryd.f3 := (Option.some.inj (Tryd.func3.symm.trans hfn)).symm
  refine ⟨by kernel_rfl, fun j t ht => ?_⟩
  rw [Tryd.params3] at ht
  have hm : t ∈ [25] := by simpa using Array.mem_of_getElem? ht
  have hall : ([25].all fun u => !Tryd.prog.wantsStandIn u) = true := by kernel_rfl
  exact (show Tryd.prog.wantsStandIn t = false by simpa using List.all_eq_true.1 hall t hm)

/-- The card. -/
theorem card : Rows.CircuitPrintsCardSaid :=
  Claim7.holds_tied_plain_at .later [] _ _ _ _ said (fun _ h => by cases h) (by kernel_rfl) (fun _ h => by cases h) circuitPrints_row_tie rfl ⟨rfl, rfl⟩ (by kernel_rfl) rfl plain (by kernel_rfl)
#print axioms card
end Go.Proofs.YtjkmoahnociaiaaDoor.circuitPrints
