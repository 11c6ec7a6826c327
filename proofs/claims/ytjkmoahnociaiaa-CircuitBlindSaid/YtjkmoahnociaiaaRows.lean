/-
  No cell of these rows narrows 'for every input' (looked for: loops, veiled, ifaces, maps, wideKeys, modest, calm, conditions, laid).
  DERIVED. THE GIVEN ROWS OF THIS SEAT. 5 by the template 'for every input the law returns true; each argument reads behind the call as it read before'; 0 by the template 'total and deterministic' (their statements: YtjkmoahnociaiaaTotals.lean).
  GIVEN WITH THE SEED: the statements are not yours to turn. If you find one false, say at which input.
  Laid BY PROGRAM, IN A SANDBOX (cutbox-rows.mjs): the forced cells as the released guide's own fill.sh prints them over the translation b18240c26fba5645… (all of the seat's roots in one cut). By AI agents, Wed Nov 11 2026. No macro, syntax, notation, axiom, sorry.
-/
import Derived.Test.YtjkmoahnociaiaaChecked
import GoSem.Claim
import GoSem.ClaimJoined
import GoSem.ClaimMapViews
import Derived.JoinedTies
import Derived.KernelRfl
namespace Go.Proofs.Ytjkmoahnociaiaa
/- THE CELL 'sum', in the pinned program and in every row, IS THE sha256 OF THE DUMP (.gsa) THAT YtjkmoahnociaiaaProg.lean LOADS. Nothing in Lean hashes anything: it is a label: what it is worth is what the hold of that sum in a sandbox is worth. -/
noncomputable def Try.pinned : Pinned := { name := "ytjkmoahnociaiaa", sum := "b18240c26fba5645db9e5e46bdd69784b72177c08a89982517bec1cac27204ca", checked := Try.checked }
namespace Rows
def none {H : Type} : Left H := { results := [], args := [] }

/-- 'stratalaw14.CircuitCones': WHATEVER THE INPUT: true; the input reads as it did. -/
def circuitConesSpec : ChangeSpec := { name := "circuitCones", fn := fun _ => fun
  | [d1, d2] => { results := [.lit (.bool true)], args := [d1, d2] }
  | _ => none }
def circuitConesRow : OpenClaim := { program := "ytjkmoahnociaiaa", sum := "b18240c26fba5645db9e5e46bdd69784b72177c08a89982517bec1cac27204ca", func := "strata/stratalaw14.CircuitCones", spec := "circuitCones", unfollowed := true, recurses := true, apart := false }
def CircuitConesSaid : Prop := circuitConesRow.holds Try.pinned (OpenSpec.ofChange circuitConesSpec)

/-- ITS FALSE NEIGHBOUR: 'it returns false'. Refute it at one input. -/
def circuitConesWrong : ChangeSpec := { name := "circuitCones", fn := fun _ => fun
  | [d1, d2] => { results := [.lit (.bool false)], args := [d1, d2] }
  | _ => none }
def CircuitConesWrongFalsely : Prop := circuitConesRow.holds Try.pinned (OpenSpec.ofChange circuitConesWrong)

/-- 'stratalaw14.CircuitSteps': WHATEVER THE INPUT: true; the input reads as it did. -/
def circuitStepsSpec : ChangeSpec := { name := "circuitSteps", fn := fun _ => fun
  | [d1, d2, d3] => { results := [.lit (.bool true)], args := [d1, d2, d3] }
  | _ => none }
def circuitStepsRow : OpenClaim := { program := "ytjkmoahnociaiaa", sum := "b18240c26fba5645db9e5e46bdd69784b72177c08a89982517bec1cac27204ca", func := "strata/stratalaw14.CircuitSteps", spec := "circuitSteps", unfollowed := true, recurses := true, apart := false }
def CircuitStepsSaid : Prop := circuitStepsRow.holds Try.pinned (OpenSpec.ofChange circuitStepsSpec)

/-- ITS FALSE NEIGHBOUR: 'it returns false'. Refute it at one input. -/
def circuitStepsWrong : ChangeSpec := { name := "circuitSteps", fn := fun _ => fun
  | [d1, d2, d3] => { results := [.lit (.bool false)], args := [d1, d2, d3] }
  | _ => none }
def CircuitStepsWrongFalsely : Prop := circuitStepsRow.holds Try.pinned (OpenSpec.ofChange circuitStepsWrong)

/-- 'stratalaw14.CircuitRuns': WHATEVER THE INPUT: true; the input reads as it did. -/
def circuitRunsSpec : ChangeSpec := { name := "circuitRuns", fn := fun _ => fun
  | [d1, d2] => { results := [.lit (.bool true)], args := [d1, d2] }
  | _ => none }
def circuitRunsRow : OpenClaim := { program := "ytjkmoahnociaiaa", sum := "b18240c26fba5645db9e5e46bdd69784b72177c08a89982517bec1cac27204ca", func := "strata/stratalaw14.CircuitRuns", spec := "circuitRuns", unfollowed := true, recurses := true, apart := false }
def CircuitRunsSaid : Prop := circuitRunsRow.holds Try.pinned (OpenSpec.ofChange circuitRunsSpec)

/-- ITS FALSE NEIGHBOUR: 'it returns false'. Refute it at one input. -/
def circuitRunsWrong : ChangeSpec := { name := "circuitRuns", fn := fun _ => fun
  | [d1, d2] => { results := [.lit (.bool false)], args := [d1, d2] }
  | _ => none }
def CircuitRunsWrongFalsely : Prop := circuitRunsRow.holds Try.pinned (OpenSpec.ofChange circuitRunsWrong)

/-- 'stratalaw14.CircuitMeans': WHATEVER THE INPUT: true; the input reads as it did. -/
def circuitMeansSpec : ChangeSpec := { name := "circuitMeans", fn := fun _ => fun
  | [d1, d2] => { results := [.lit (.bool true)], args := [d1, d2] }
  | _ => none }
def circuitMeansRow : OpenClaim := { program := "ytjkmoahnociaiaa", sum := "b18240c26fba5645db9e5e46bdd69784b72177c08a89982517bec1cac27204ca", func := "strata/stratalaw14.CircuitMeans", spec := "circuitMeans", unfollowed := true, recurses := true, apart := false }
def CircuitMeansSaid : Prop := circuitMeansRow.holds Try.pinned (OpenSpec.ofChange circuitMeansSpec)

/-- ITS FALSE NEIGHBOUR: 'it returns false'. Refute it at one input. -/
def circuitMeansWrong : ChangeSpec := { name := "circuitMeans", fn := fun _ => fun
  | [d1, d2] => { results := [.lit (.bool false)], args := [d1, d2] }
  | _ => none }
def CircuitMeansWrongFalsely : Prop := circuitMeansRow.holds Try.pinned (OpenSpec.ofChange circuitMeansWrong)

/-- 'stratalaw14.CircuitBlind': WHATEVER THE INPUT: true; the input reads as it did. -/
def circuitBlindSpec : ChangeSpec := { name := "circuitBlind", fn := fun _ => fun
  | [d1, d2, d3] => { results := [.lit (.bool true)], args := [d1, d2, d3] }
  | _ => none }
def circuitBlindRow : OpenClaim := { program := "ytjkmoahnociaiaa", sum := "b18240c26fba5645db9e5e46bdd69784b72177c08a89982517bec1cac27204ca", func := "strata/stratalaw14.CircuitBlind", spec := "circuitBlind", unfollowed := true, recurses := true, apart := false }
def CircuitBlindSaid : Prop := circuitBlindRow.holds Try.pinned (OpenSpec.ofChange circuitBlindSpec)

/-- ITS FALSE NEIGHBOUR: 'it returns false'. Refute it at one input. -/
def circuitBlindWrong : ChangeSpec := { name := "circuitBlind", fn := fun _ => fun
  | [d1, d2, d3] => { results := [.lit (.bool false)], args := [d1, d2, d3] }
  | _ => none }
def CircuitBlindWrongFalsely : Prop := circuitBlindRow.holds Try.pinned (OpenSpec.ofChange circuitBlindWrong)

/- THE SECOND FORM. 'bulk': how many values and letters a reading holds, each counted each time it is reached (what is shared counts as often as it is met; a slice's spare places count too). A statement '..UptoSaid' is the law's where the arguments, and the package variables that the reading takes, are together of bulk at most 1048576: NARROWER than '..Said'. Prove '..Said' where nothing that the law and all that it calls make is longer than what came in: it says more and counts as full. Else prove '..UptoSaid'. A law counts once. -/
mutual
def uptoBulk {H : Type} : DataW H → Nat
  | .lit (.string bytes) => bytes.length + 1
  | .lit _ => 1
  | .nil => 1
  | .ptr d => uptoBulk d + 1
  | .slice elems spare => uptoBulkAll elems + uptoBulkAll spare + 1
  | .agg parts => uptoBulkAll parts + 1
  | .iface _ d => uptoBulk d + 1
  | .map entries => uptoBulkEntries entries + 1
  | .held _ => 1
def uptoBulkAll {H : Type} : List (DataW H) → Nat
  | [] => 0
  | d :: r => uptoBulk d + uptoBulkAll r
def uptoBulkEntries {H : Type} : List (Lit × DataW H) → Nat
  | [] => 0
  | x :: r => uptoBulkEntry x + uptoBulkEntries r
def uptoBulkEntry {H : Type} : Lit × DataW H → Nat
  | (.string bytes, d) => bytes.length + uptoBulk d + 1
  | (_, d) => uptoBulk d + 1
 end
def uptoSmall : (H : Type) → List (DataW H) → Bool := fun _ ds => decide (uptoBulkAll ds ≤ 1048576)
def OpenSpec.upto (s : _root_.Go.ChangeSpec) : _root_.Go.OpenSpec := { _root_.Go.OpenSpec.ofChange s with cond := some uptoSmall }

/-- 'stratalaw14.CircuitCones', WHERE WHAT IT READS IS OF BULK AT MOST 1048576: true; the input reads as it did. -/
def circuitConesUptoRow : OpenClaim := { program := "ytjkmoahnociaiaa", sum := "b18240c26fba5645db9e5e46bdd69784b72177c08a89982517bec1cac27204ca", func := "strata/stratalaw14.CircuitCones", spec := "circuitCones", unfollowed := true, recurses := true, apart := false, narrowed := true }
def CircuitConesUptoSaid : Prop := circuitConesUptoRow.holds Try.pinned (OpenSpec.upto circuitConesSpec)

/-- 'stratalaw14.CircuitSteps', WHERE WHAT IT READS IS OF BULK AT MOST 1048576: true; the input reads as it did. -/
def circuitStepsUptoRow : OpenClaim := { program := "ytjkmoahnociaiaa", sum := "b18240c26fba5645db9e5e46bdd69784b72177c08a89982517bec1cac27204ca", func := "strata/stratalaw14.CircuitSteps", spec := "circuitSteps", unfollowed := true, recurses := true, apart := false, narrowed := true }
def CircuitStepsUptoSaid : Prop := circuitStepsUptoRow.holds Try.pinned (OpenSpec.upto circuitStepsSpec)

/-- 'stratalaw14.CircuitRuns', WHERE WHAT IT READS IS OF BULK AT MOST 1048576: true; the input reads as it did. -/
def circuitRunsUptoRow : OpenClaim := { program := "ytjkmoahnociaiaa", sum := "b18240c26fba5645db9e5e46bdd69784b72177c08a89982517bec1cac27204ca", func := "strata/stratalaw14.CircuitRuns", spec := "circuitRuns", unfollowed := true, recurses := true, apart := false, narrowed := true }
def CircuitRunsUptoSaid : Prop := circuitRunsUptoRow.holds Try.pinned (OpenSpec.upto circuitRunsSpec)

/-- 'stratalaw14.CircuitMeans', WHERE WHAT IT READS IS OF BULK AT MOST 1048576: true; the input reads as it did. -/
def circuitMeansUptoRow : OpenClaim := { program := "ytjkmoahnociaiaa", sum := "b18240c26fba5645db9e5e46bdd69784b72177c08a89982517bec1cac27204ca", func := "strata/stratalaw14.CircuitMeans", spec := "circuitMeans", unfollowed := true, recurses := true, apart := false, narrowed := true }
def CircuitMeansUptoSaid : Prop := circuitMeansUptoRow.holds Try.pinned (OpenSpec.upto circuitMeansSpec)

/-- 'stratalaw14.CircuitBlind', WHERE WHAT IT READS IS OF BULK AT MOST 1048576: true; the input reads as it did. -/
def circuitBlindUptoRow : OpenClaim := { program := "ytjkmoahnociaiaa", sum := "b18240c26fba5645db9e5e46bdd69784b72177c08a89982517bec1cac27204ca", func := "strata/stratalaw14.CircuitBlind", spec := "circuitBlind", unfollowed := true, recurses := true, apart := false, narrowed := true }
def CircuitBlindUptoSaid : Prop := circuitBlindUptoRow.holds Try.pinned (OpenSpec.upto circuitBlindSpec)

end Rows
end Go.Proofs.Ytjkmoahnociaiaa
