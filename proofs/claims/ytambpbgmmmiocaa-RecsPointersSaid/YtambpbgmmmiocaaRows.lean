/-
  No cell of these rows narrows 'for every input' (looked for: loops, veiled, ifaces, maps, wideKeys, modest, calm, conditions, laid).
  DERIVED. THE GIVEN ROWS OF THIS SEAT. 2 by the template 'for every input the law returns true; each argument reads behind the call as it read before'; 0 by the template 'total and deterministic' (their statements: YtambpbgmmmiocaaTotals.lean).
  GIVEN WITH THE SEED: the statements are not yours to turn. If you find one false, say at which input.
  Laid BY PROGRAM, IN A SANDBOX (cutbox-rows.mjs): the forced cells as the released guide's own fill.sh prints them over the translation 8e84dd2db49c1799… (all of the seat's roots in one cut). By AI agents, Wed Nov 11 2026. No macro, syntax, notation, axiom, sorry.
-/
import Derived.Test.YtambpbgmmmiocaaChecked
import GoSem.Claim
import GoSem.ClaimJoined
import GoSem.ClaimMapViews
import Derived.JoinedTies
import Derived.KernelRfl
namespace Go.Proofs.Ytambpbgmmmiocaa
/- THE CELL 'sum', in the pinned program and in every row, IS THE sha256 OF THE DUMP (.gsa) THAT YtambpbgmmmiocaaProg.lean LOADS. Nothing in Lean hashes anything: it is a label: what it is worth is what the hold of that sum in a sandbox is worth. -/
noncomputable def Try.pinned : Pinned := { name := "ytambpbgmmmiocaa", sum := "8e84dd2db49c1799f0f7e12ff6d090619b4b1c2689401af967f4b5d4bbdf1cb8", checked := Try.checked }
namespace Rows
def none {H : Type} : Left H := { results := [], args := [] }

/-- 'stratalaw03.RecsPointers': WHATEVER THE INPUT: true; the input reads as it did. -/
def recsPointersSpec : ChangeSpec := { name := "recsPointers", fn := fun _ => fun
  | [d] => { results := [.lit (.bool true)], args := [d] }
  | _ => none }
def recsPointersRow : OpenClaim := { program := "ytambpbgmmmiocaa", sum := "8e84dd2db49c1799f0f7e12ff6d090619b4b1c2689401af967f4b5d4bbdf1cb8", func := "strata/stratalaw03.RecsPointers", spec := "recsPointers", apart := false }
def RecsPointersSaid : Prop := recsPointersRow.holds Try.pinned (OpenSpec.ofChange recsPointersSpec)

/-- ITS FALSE NEIGHBOUR: 'it returns false'. Refute it at one input. -/
def recsPointersWrong : ChangeSpec := { name := "recsPointers", fn := fun _ => fun
  | [d] => { results := [.lit (.bool false)], args := [d] }
  | _ => none }
def RecsPointersWrongFalsely : Prop := recsPointersRow.holds Try.pinned (OpenSpec.ofChange recsPointersWrong)

/-- 'stratalaw03.RecsRank': WHATEVER THE INPUT: true; the input reads as it did. -/
def recsRankSpec : ChangeSpec := { name := "recsRank", fn := fun _ => fun
  | [d1, d2] => { results := [.lit (.bool true)], args := [d1, d2] }
  | _ => none }
def recsRankRow : OpenClaim := { program := "ytambpbgmmmiocaa", sum := "8e84dd2db49c1799f0f7e12ff6d090619b4b1c2689401af967f4b5d4bbdf1cb8", func := "strata/stratalaw03.RecsRank", spec := "recsRank", apart := false }
def RecsRankSaid : Prop := recsRankRow.holds Try.pinned (OpenSpec.ofChange recsRankSpec)

/-- ITS FALSE NEIGHBOUR: 'it returns false'. Refute it at one input. -/
def recsRankWrong : ChangeSpec := { name := "recsRank", fn := fun _ => fun
  | [d1, d2] => { results := [.lit (.bool false)], args := [d1, d2] }
  | _ => none }
def RecsRankWrongFalsely : Prop := recsRankRow.holds Try.pinned (OpenSpec.ofChange recsRankWrong)

/- THE SECOND FORM. 'bulk': how many values and letters a reading holds, each counted each time it is reached (what is shared counts as often as it is met; a slice's spare places count too). A statement '..UptoSaid' is the law's where the arguments, and the package variables that the reading takes, are together of bulk at most 1048576: NARROWER than '..Said'. Prove '..Said' where nothing that the law and all that it calls make is longer than what came in: it says more and counts as full. Else prove '..UptoSaid'. A law counts once. -/
mutual
def uptoBulk {H : Type} : DataW H → Nat
  | .lit (.string bytes) => bytes.length + 1
  | .lit _ => 1
  | .nil => 1
  | .ptr d => uptoBulk d + 1
  | .slice elems spare => uptoBulkAll elems + uptoBulkAll spare + 1
  | .agg parts => uptoBulkAll parts + 1
  | .iface _ d => uptoBulk d + 1
  | .map entries => uptoBulkEntries entries + 1
  | .held _ => 1
def uptoBulkAll {H : Type} : List (DataW H) → Nat
  | [] => 0
  | d :: r => uptoBulk d + uptoBulkAll r
def uptoBulkEntries {H : Type} : List (Lit × DataW H) → Nat
  | [] => 0
  | x :: r => uptoBulkEntry x + uptoBulkEntries r
def uptoBulkEntry {H : Type} : Lit × DataW H → Nat
  | (.string bytes, d) => bytes.length + uptoBulk d + 1
  | (_, d) => uptoBulk d + 1
 end
def uptoSmall : (H : Type) → List (DataW H) → Bool := fun _ ds => decide (uptoBulkAll ds ≤ 1048576)
def OpenSpec.upto (s : _root_.Go.ChangeSpec) : _root_.Go.OpenSpec := { _root_.Go.OpenSpec.ofChange s with cond := some uptoSmall }

/-- 'stratalaw03.RecsPointers', WHERE WHAT IT READS IS OF BULK AT MOST 1048576: true; the input reads as it did. -/
def recsPointersUptoRow : OpenClaim := { program := "ytambpbgmmmiocaa", sum := "8e84dd2db49c1799f0f7e12ff6d090619b4b1c2689401af967f4b5d4bbdf1cb8", func := "strata/stratalaw03.RecsPointers", spec := "recsPointers", apart := false, narrowed := true }
def RecsPointersUptoSaid : Prop := recsPointersUptoRow.holds Try.pinned (OpenSpec.upto recsPointersSpec)

/-- 'stratalaw03.RecsRank', WHERE WHAT IT READS IS OF BULK AT MOST 1048576: true; the input reads as it did. -/
def recsRankUptoRow : OpenClaim := { program := "ytambpbgmmmiocaa", sum := "8e84dd2db49c1799f0f7e12ff6d090619b4b1c2689401af967f4b5d4bbdf1cb8", func := "strata/stratalaw03.RecsRank", spec := "recsRank", apart := false, narrowed := true }
def RecsRankUptoSaid : Prop := recsRankUptoRow.holds Try.pinned (OpenSpec.upto recsRankSpec)

end Rows
end Go.Proofs.Ytambpbgmmmiocaa
