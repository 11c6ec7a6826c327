/- CircuitCircles: a gate of a made circuit that is made to lean on what leans on it: the circuit is not formed, and its text is refused at the name of the first line of that circle; where it makes no circle, all is well: the card of the law, for every input. -/
import Derived.Test.YtjkmoahnociaiaaDoorCX
import Derived.Test.YtjkmoahnociaiaaDoorYB
import Derived.Test.YtjkmoahnociaiaaDoorCards
import Derived.Test.YtjkmoahnociaiaaDoorTie
import Derived.Deep.DeepHandedRow
import Derived.MakeChecks
import GoSem.PinnedTables
import Derived.Lib.LaidTab
namespace Go.Proofs.YtjkmoahnociaiaaDoor.circuitCircles
open Go.ChangeShapes Go.WideShapes Go.ChangeAt Go.RowKit

theorem own : ownKnob Tryd.prog.godebug = none := by kernel_rfl
theorem laidOut : laidOutB Tryd.prog = true := by kernel_rfl
theorem readable : ∀ t ∈ Tryd.f6.params.toList, Tryd.prog.readableRec t = true ∧ t < Tryd.prog.types.size := by
  rw [Tryd.params6]
  intro t ht
  have hall : ([23, 3, 3].all fun u => Tryd.prog.readableRec u && decide (u < Tryd.prog.types.size)) = true := by kernel_rfl
  have := List.all_eq_true.1 hall t (by simpa using ht)
  simpa using this
theorem gOps : Tryd.prog.globalNamed "strata/circuit.operators" = some 0 := by kernel_rfl
theorem gOpsType : (Tryd.prog.globals[0]?).map (·.type) = some 62 := by kernel_rfl
theorem gWords : Tryd.prog.globalNamed "strata/strataref14.words" = some 1 := by kernel_rfl
theorem gWordsType : (Tryd.prog.globals[1]?).map (·.type) = some 62 := by kernel_rfl
theorem met {W : World} (h : laidMetH Tryd.prog Rows.circuitCirclesRow.laid W) : laidMet Tryd.prog Rows.circuitCirclesRow.laid W := by
  rw [MakeChecks.laidMetH_plain _ _ _ (by kernel_rfl)] at h
  exact h
theorem ops0 {W : World} (h : laidMetH Tryd.prog Rows.circuitCirclesRow.laid W) : OpsAt W 0 :=
  ops_of_head rfl gOps gOpsType Tryd.underlying62 Tryd.underlying9 (by kernel_rfl) (by kernel_rfl) (laidMet.tail (laidMet.tail (met h)))
theorem ops1 {W : World} (h : laidMetH Tryd.prog Rows.circuitCirclesRow.laid W) : OpsAt W 1 :=
  ops_of_head rfl gWords gWordsType Tryd.underlying62 Tryd.underlying9 (by kernel_rfl) (by kernel_rfl) (met h)

set_option maxRecDepth 100000 in
/-- What the walk gives, for every argument and every world that holds the tables. -/
theorem contract (H : Type) (enc : TypeId × Value → H) (W : World) (base : Nat) (args : Array Value) (ds gs : List (DataW H)) (before : List MemPlace)
    (hval : ∀ (j : Nat) t v, Tryd.f6.params[j]? = some t → args[j]? = some v → Value.okWide Tryd.prog W .any base t v)
    (hW : DataW.Whole enc Tryd.prog Tryd.f6.params.toList Rows.circuitCirclesSpec.vars false W args.toList ds gs before) (hL : laidMetH Tryd.prog Rows.circuitCirclesRow.laid W)
    (hsz : (DataW.weightsEach Tryd.prog (Tryd.f6.params.toList ++ (OpenSpec.ofChange Rows.circuitCirclesSpec).bare.plain.varTypes Tryd.prog) (ds ++ gs)).all (· ≤ reachBytes) = true) :
    Calls Tryd.prog 6 args W fun e W' => ∃ v, e = .returned v ∧ Rows.circuitCirclesSpec.post enc Tryd.prog Tryd.f6 false true false false W args v W' := by
  have hW' := hW
  obtain ⟨p, q, hA0, hV, rfl, hfz, hnd⟩ := hW
  have hA : DataW.TrodAll enc Tryd.prog W 0 (fun _ => true) true Tryd.f6.params.toList args.toList ds p := hA0
  rw [Tryd.params6] at hA hval
  obtain ⟨rfl, rfl⟩ := trodVars_none hV
  clear hA0
  obtain ⟨v0, vs0, d0, ds0, p0, q0, hargs, rfl, rfl, h0, r0⟩ := trodAll_cons hA
  obtain ⟨v1, vs1, d1, ds1, p1, q1, rfl, rfl, rfl, h1, r1⟩ := trodAll_cons r0
  obtain ⟨v2, vs2, d2, ds2, p2, q2, rfl, rfl, rfl, h2, r2⟩ := trodAll_cons r1
  obtain ⟨rfl, rfl, rfl⟩ := trodAll_nil r2
  obtain rfl : args = #[v0, v1, v2] := by cases args; simp_all
  rw [Tryd.params6] at hsz
  obtain ⟨a0, l0, c0, rfl⟩ := okWide_slice Tryd.underlying23 (hval 0 23 v0 rfl rfl)
  obtain ⟨f0, h0⟩ := h0
  obtain ⟨A0, m0, e0, xs0, g0, hr0, hl0, hx0, hi0, hs0⟩ := open_sized h0
  obtain ⟨rfl, rfl, rfl⟩ : a0 = A0 ∧ l0 = m0 ∧ c0 = e0 := by simpa [Value.cells] using g0
  have hm0 := part_bytes (j := 0) (all_le hsz) rfl rfl Tryd.underlying23 (bytes := 8) (by kernel_rfl) hs0
  obtain ⟨z1, rfl⟩ := okWide_int Tryd.underlying3 (hval 1 3 v1 rfl rfl)
  obtain ⟨f1, h1⟩ := h1
  obtain ⟨y1, g1, _, w1⟩ := DataW.trod_int Tryd.underlying3 h1
  obtain rfl : z1 = y1 := by simpa [Value.cells] using g1
  have b1 : Big z1 := big_of w1
  obtain ⟨z2, rfl⟩ := okWide_int Tryd.underlying3 (hval 2 3 v2 rfl rfl)
  obtain ⟨f2, h2⟩ := h2
  obtain ⟨y2, g2, _, w2⟩ := DataW.trod_int Tryd.underlying3 h2
  obtain rfl : z2 = y2 := by simpa [Value.cells] using g2
  have b2 : Big z2 := big_of w2
  have walk := circlesLaw_any a0 l0 c0 xs0 z1 z2 W hr0 hl0 (fun x hx => hi0 x hx) (by omega) b1 b2 (ops0 hL) (ops1 hL)
  refine walk.mono fun e W' ⟨he, hb⟩ => ?_
  subst he
  exact ⟨_, rfl, law_post hW' rfl rfl rfl Tryd.underlying4 laidOut readable hb⟩

/-- A world for the witness: the settled one, the tables holding what their initialisers lay. -/
noncomputable def laidWorld (os : Os) : World :=
  { World.holding Tryd.prog os ⟨#[], #[], []⟩ with heap := (((((World.holding Tryd.prog os ⟨#[], #[], []⟩).heap.modify 1 fun
      | .cells _ t frozen => .cells #[.string ⟨#[122, 101, 114, 111]⟩, .string ⟨#[110, 111, 114]⟩, .string ⟨#[108, 101, 115, 115]⟩, .string ⟨#[110, 111, 116, 97]⟩, .string ⟨#[100, 105, 102, 102]⟩, .string ⟨#[110, 111, 116, 98]⟩, .string ⟨#[120, 111, 114]⟩, .string ⟨#[110, 97, 110, 100]⟩, .string ⟨#[97, 110, 100]⟩, .string ⟨#[105, 102, 102]⟩, .string ⟨#[98]⟩, .string ⟨#[105, 109, 112]⟩, .string ⟨#[97]⟩, .string ⟨#[114, 101, 118]⟩, .string ⟨#[111, 114]⟩, .string ⟨#[111, 110, 101]⟩] t frozen
      | o => o).modify 4 fun
      | .cells _ t frozen => .cells #[.int .u8 128, .int .u8 191, .int .u8 160, .int .u8 191, .int .u8 128, .int .u8 159, .int .u8 144, .int .u8 191, .int .u8 128, .int .u8 143, .int .u8 0, .int .u8 0, .int .u8 0, .int .u8 0, .int .u8 0, .int .u8 0, .int .u8 0, .int .u8 0, .int .u8 0, .int .u8 0, .int .u8 0, .int .u8 0, .int .u8 0, .int .u8 0, .int .u8 0, .int .u8 0, .int .u8 0, .int .u8 0, .int .u8 0, .int .u8 0, .int .u8 0, .int .u8 0] t frozen
      | o => o).modify 0 fun
      | .cells _ t frozen => .cells #[.string ⟨#[122, 101, 114, 111]⟩, .string ⟨#[110, 111, 114]⟩, .string ⟨#[108, 101, 115, 115]⟩, .string ⟨#[110, 111, 116, 97]⟩, .string ⟨#[100, 105, 102, 102]⟩, .string ⟨#[110, 111, 116, 98]⟩, .string ⟨#[120, 111, 114]⟩, .string ⟨#[110, 97, 110, 100]⟩, .string ⟨#[97, 110, 100]⟩, .string ⟨#[105, 102, 102]⟩, .string ⟨#[98]⟩, .string ⟨#[105, 109, 112]⟩, .string ⟨#[97]⟩, .string ⟨#[114, 101, 118]⟩, .string ⟨#[111, 114]⟩, .string ⟨#[111, 110, 101]⟩] t frozen
      | o => o).modify 3 fun
      | .cells _ t frozen => .cells (Go.Pinned.utf8FirstZ.map fun (n : Nat) => Value.int .u8 (n : Int)).toArray t frozen
      | o => o) }
theorem laid_met (os : Os) : laidMet Tryd.prog Rows.circuitCirclesRow.laid ((laidWorld os).forCall (fun _ _ => 0) ⟨#[], #[.slice none 0 0, .int .i64 0, .int .i64 0], []⟩).memory :=
  laidMet_of_run' 8 (by kernel_rfl) (by kernel_rfl)
theorem reads (os : Os) {H : Type} (enc : TypeId × Value → H) : ∃ places, DataW.whole enc Tryd.prog ((laidWorld os).forCall (fun _ _ => 0) ⟨#[], #[.slice none 0 0, .int .i64 0, .int .i64 0], []⟩).memory Tryd.f6.params.toList Rows.circuitCirclesSpec.vars false (#[.slice none 0 0, .int .i64 0, .int .i64 0] : Array Value).toList 8 = some ([.nil, .lit (.int .i64 0), .lit (.int .i64 0)], [], places) :=
  ⟨[], by kernel_rfl⟩

set_option maxRecDepth 100000 in
theorem lifted (os : Os) (started : os.Started) (H : Type) (enc : TypeId × Value → H) (F : Stop.Interp) :
    ReturnsInHanded {} Tryd.checked os 6 .any ((OpenSpec.ofChange Rows.circuitCirclesSpec).preRow enc Tryd.prog Tryd.f6 Rows.circuitCirclesRow.domain false Rows.circuitCirclesRow.laid) (((OpenSpec.ofChange Rows.circuitCirclesSpec).at F).post enc Tryd.prog Tryd.f6 false true false false) := by
  obtain ⟨places, hx⟩ := reads os enc
  refine returnsInHanded_of_row (C := Tryd.checked) (s := OpenSpec.ofChange Rows.circuitCirclesSpec) own started (by kernel_rfl) Tryd.func6
    (witness_row_at (enc := enc) (C := Tryd.checked) false (laidWorld os) #[.slice none 0 0, .int .i64 0, .int .i64 0] rfl (by kernel_rfl) (by kernel_rfl) (by kernel_rfl)
      (OpenSpec.preRow_of_cond 8 hx (by kernel_rfl) (fun k hk => by cases hk) (by kernel_rfl) (laid_met os))) ?_
  intro W base args ds gs before hval hW _ _ hsz hL _ _
  exact contract H enc W base args ds gs before hval hW hL hsz

theorem said : Rows.CircuitCirclesSaid :=
  OpenClaim.holds_of_cond 6 Tryd.f6 rfl rfl rfl rfl rfl rfl rfl ⟨rfl, rfl, rfl, rfl, rfl⟩ rfl rfl rfl rfl rfl (by kernel_rfl) Tryd.func6 (by kernel_rfl)
    (of_decide_eq_true (by kernel_rfl)) (by unfold Func.isWrapper; first | (rw [if_pos (by decide +kernel)]; kernel_rfl) | (rw [if_neg (by decide +kernel)]; exact ⟨rfl, rfl⟩))
    (fun os started H enc _ F => by rw [OpenClaim.pre_eq_preRow]; exact lifted os started H enc F)

/-- No parameter wants a stand-in; the program's own looks are off. -/
theorem plain (f : FuncId) (fn : Func) (hf : Tryd.pinned.checked.prog.funcNamed Rows.circuitCirclesRow.func = some f) (hfn : Tryd.pinned.checked.prog.funcs[f]? = some fn) :
    false = Tryd.pinned.checked.prog.looks [] ∧ ∀ (j : Nat) t, fn.params[j]? = some t → Tryd.pinned.checked.prog.wantsStandIn t = false := by
  obtain rfl : f = 6 := Option.some.inj ((show Tryd.prog.funcNamed Rows.circuitCirclesRow.func = some 6 by kernel_rfl).symm.trans hf) |>.symm
  obtain rfl : fn = Tryd.f6 := (Option.some.inj (Tryd.func6.symm.trans hfn)).symm
  refine ⟨by kernel_rfl, fun j t ht => ?_⟩
  rw [Tryd.params6] at ht
  have hm : t ∈ [23, 3, 3] := by simpa using Array.mem_of_getElem? ht
  have hall : ([23, 3, 3].all fun u => !Tryd.prog.wantsStandIn u) = true := by kernel_rfl
  exact (show Tryd.prog.wantsStandIn t = false by simpa using List.all_eq_true.1 hall t hm)

/-- The card. -/
theorem card : Rows.CircuitCirclesCardSaid :=
  Claim7.holds_tied_plain_at .later [] _ _ _ _ said (fun _ h => by cases h) (by kernel_rfl) (fun _ h => by cases h) circuitCircles_row_tie rfl ⟨rfl, rfl⟩ (by kernel_rfl) rfl plain (by kernel_rfl)
#print axioms card
end Go.Proofs.YtjkmoahnociaiaaDoor.circuitCircles
