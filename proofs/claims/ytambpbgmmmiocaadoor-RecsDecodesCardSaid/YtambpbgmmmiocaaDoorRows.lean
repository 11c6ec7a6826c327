/-
  NARROWER THAN 'FOR EVERY INPUT', by the rows' own cells (each row's printed sentence says how): RecsOrders: laid · RecsTotal: laid · RecsEncodes: laid · RecsDecodes: laid · RecsBack: laid · RecsTold: laid · RecsBurst: laid.
  DERIVED. THE GIVEN ROWS OF THIS SEAT. 7 by the template 'for every input the law returns true; each argument reads behind the call as it read before'; 0 by the template 'total and deterministic' (their statements: YtambpbgmmmiocaaDoorTotals.lean).
  GIVEN WITH THE SEED: the statements are not yours to turn. If you find one false, say at which input.
  Laid BY PROGRAM, IN A SANDBOX (cutbox-rows.mjs): the forced cells as the released guide's own fill.sh prints them over the translation 73138d1371cf6b20… (all of the seat's roots in one cut). By AI agents, Wed Nov 11 2026. No macro, syntax, notation, axiom, sorry.
-/
import Derived.Test.YtambpbgmmmiocaaDoorChecked
import GoSem.Claim
import GoSem.ClaimJoined
import GoSem.ClaimMapViews
import Derived.JoinedTies
import Derived.KernelRfl
namespace Go.Proofs.YtambpbgmmmiocaaDoor
/- THE CELL 'sum', in the pinned program and in every row, IS THE sha256 OF THE DUMP (.gsa) THAT YtambpbgmmmiocaaDoorProg.lean LOADS. Nothing in Lean hashes anything: it is a label: what it is worth is what the hold of that sum in a sandbox is worth. -/
noncomputable def Tryd.pinned : Pinned := { name := "ytambpbgmmmiocaadoor", sum := "73138d1371cf6b20ddeeb41303850090b0e7634d1b981a661f611be665e3863c", checked := Tryd.checked }
namespace Rows
def none {H : Type} : Left H := { results := [], args := [] }

/- WHAT THE LISTED PACKAGE-LEVEL VARIABLES READ AS WHEN THE CALL BEGINS. Each datum BY PROGRAM (the guide's laid-datum.mjs) off the statement by which the dump's own 'gosem.cut.vars' lays the variable. In a bare row this is a premise. The card (YtambpbgmmmiocaaDoorCards.lean) ties it to the program's text. -/
def laid_strata_recs_natural {H : Type} : DataW H := .agg [.lit (.int .i64 0), .lit (.int .i64 1), .lit (.int .i64 2), .lit (.int .i64 3)]
def laid_strata_recs_halves {H : Type} : DataW H := .agg [.lit (.int .u32 0), .lit (.int .u32 498536548), .lit (.int .u32 997073096), .lit (.int .u32 651767980), .lit (.int .u32 1994146192), .lit (.int .u32 1802195444), .lit (.int .u32 1303535960), .lit (.int .u32 1342533948), .lit (.int .u32 3988292384), .lit (.int .u32 4027552580), .lit (.int .u32 3604390888), .lit (.int .u32 3412177804), .lit (.int .u32 2607071920), .lit (.int .u32 2262029012), .lit (.int .u32 2685067896), .lit (.int .u32 3183342108)]
def laid_strata_recs_magic {H : Type} : DataW H := .agg [.lit (.int .u8 83), .lit (.int .u8 84), .lit (.int .u8 82), .lit (.int .u8 65)]

/-- 'stratalaw03.RecsOrders': WHATEVER THE INPUT: true; the input reads as it did. -/
def recsOrdersSpec : ChangeSpec := { name := "recsOrders", fn := fun _ => fun
  | [d1, d2, d3] => { results := [.lit (.bool true)], args := [d1, d2, d3] }
  | _ => none }
def recsOrdersRow : OpenClaim := { program := "ytambpbgmmmiocaadoor", sum := "73138d1371cf6b20ddeeb41303850090b0e7634d1b981a661f611be665e3863c", func := "strata/stratalaw03.RecsOrders", spec := "recsOrders", named := ["strata/recs.natural"], apart := false, laid := [("strata/recs.natural", laid_strata_recs_natural)] }
def RecsOrdersSaid : Prop := recsOrdersRow.holds Tryd.pinned (OpenSpec.ofChange recsOrdersSpec)

/-- ITS FALSE NEIGHBOUR: 'it returns false'. Refute it at one input. -/
def recsOrdersWrong : ChangeSpec := { name := "recsOrders", fn := fun _ => fun
  | [d1, d2, d3] => { results := [.lit (.bool false)], args := [d1, d2, d3] }
  | _ => none }
def RecsOrdersWrongFalsely : Prop := recsOrdersRow.holds Tryd.pinned (OpenSpec.ofChange recsOrdersWrong)

/-- 'stratalaw03.RecsTotal': WHATEVER THE INPUT: true; the input reads as it did. -/
def recsTotalSpec : ChangeSpec := { name := "recsTotal", fn := fun _ => fun
  | [d1, d2] => { results := [.lit (.bool true)], args := [d1, d2] }
  | _ => none }
def recsTotalRow : OpenClaim := { program := "ytambpbgmmmiocaadoor", sum := "73138d1371cf6b20ddeeb41303850090b0e7634d1b981a661f611be665e3863c", func := "strata/stratalaw03.RecsTotal", spec := "recsTotal", named := ["strata/recs.natural"], apart := false, laid := [("strata/recs.natural", laid_strata_recs_natural)] }
def RecsTotalSaid : Prop := recsTotalRow.holds Tryd.pinned (OpenSpec.ofChange recsTotalSpec)

/-- ITS FALSE NEIGHBOUR: 'it returns false'. Refute it at one input. -/
def recsTotalWrong : ChangeSpec := { name := "recsTotal", fn := fun _ => fun
  | [d1, d2] => { results := [.lit (.bool false)], args := [d1, d2] }
  | _ => none }
def RecsTotalWrongFalsely : Prop := recsTotalRow.holds Tryd.pinned (OpenSpec.ofChange recsTotalWrong)

/-- 'stratalaw03.RecsEncodes': WHATEVER THE INPUT: true; the input reads as it did. -/
def recsEncodesSpec : ChangeSpec := { name := "recsEncodes", fn := fun _ => fun
  | [d] => { results := [.lit (.bool true)], args := [d] }
  | _ => none }
def recsEncodesRow : OpenClaim := { program := "ytambpbgmmmiocaadoor", sum := "73138d1371cf6b20ddeeb41303850090b0e7634d1b981a661f611be665e3863c", func := "strata/stratalaw03.RecsEncodes", spec := "recsEncodes", named := ["strata/recs.magic", "strata/recs.halves"], apart := false, laid := [("strata/recs.halves", laid_strata_recs_halves), ("strata/recs.magic", laid_strata_recs_magic)] }
def RecsEncodesSaid : Prop := recsEncodesRow.holds Tryd.pinned (OpenSpec.ofChange recsEncodesSpec)

/-- ITS FALSE NEIGHBOUR: 'it returns false'. Refute it at one input. -/
def recsEncodesWrong : ChangeSpec := { name := "recsEncodes", fn := fun _ => fun
  | [d] => { results := [.lit (.bool false)], args := [d] }
  | _ => none }
def RecsEncodesWrongFalsely : Prop := recsEncodesRow.holds Tryd.pinned (OpenSpec.ofChange recsEncodesWrong)

/-- 'stratalaw03.RecsDecodes': WHATEVER THE INPUT: true; the input reads as it did. -/
def recsDecodesSpec : ChangeSpec := { name := "recsDecodes", fn := fun _ => fun
  | [d1, d2, d3] => { results := [.lit (.bool true)], args := [d1, d2, d3] }
  | _ => none }
def recsDecodesRow : OpenClaim := { program := "ytambpbgmmmiocaadoor", sum := "73138d1371cf6b20ddeeb41303850090b0e7634d1b981a661f611be665e3863c", func := "strata/stratalaw03.RecsDecodes", spec := "recsDecodes", named := ["strata/recs.magic", "strata/recs.halves"], apart := false, laid := [("strata/recs.halves", laid_strata_recs_halves), ("strata/recs.magic", laid_strata_recs_magic)] }
def RecsDecodesSaid : Prop := recsDecodesRow.holds Tryd.pinned (OpenSpec.ofChange recsDecodesSpec)

/-- ITS FALSE NEIGHBOUR: 'it returns false'. Refute it at one input. -/
def recsDecodesWrong : ChangeSpec := { name := "recsDecodes", fn := fun _ => fun
  | [d1, d2, d3] => { results := [.lit (.bool false)], args := [d1, d2, d3] }
  | _ => none }
def RecsDecodesWrongFalsely : Prop := recsDecodesRow.holds Tryd.pinned (OpenSpec.ofChange recsDecodesWrong)

/-- 'stratalaw03.RecsBack': WHATEVER THE INPUT: true; the input reads as it did. -/
def recsBackSpec : ChangeSpec := { name := "recsBack", fn := fun _ => fun
  | [d1, d2, d3] => { results := [.lit (.bool true)], args := [d1, d2, d3] }
  | _ => none }
def recsBackRow : OpenClaim := { program := "ytambpbgmmmiocaadoor", sum := "73138d1371cf6b20ddeeb41303850090b0e7634d1b981a661f611be665e3863c", func := "strata/stratalaw03.RecsBack", spec := "recsBack", named := ["strata/recs.magic", "strata/recs.halves"], apart := false, laid := [("strata/recs.halves", laid_strata_recs_halves), ("strata/recs.magic", laid_strata_recs_magic)] }
def RecsBackSaid : Prop := recsBackRow.holds Tryd.pinned (OpenSpec.ofChange recsBackSpec)

/-- ITS FALSE NEIGHBOUR: 'it returns false'. Refute it at one input. -/
def recsBackWrong : ChangeSpec := { name := "recsBack", fn := fun _ => fun
  | [d1, d2, d3] => { results := [.lit (.bool false)], args := [d1, d2, d3] }
  | _ => none }
def RecsBackWrongFalsely : Prop := recsBackRow.holds Tryd.pinned (OpenSpec.ofChange recsBackWrong)

/-- 'stratalaw03.RecsTold': WHATEVER THE INPUT: true; the input reads as it did. -/
def recsToldSpec : ChangeSpec := { name := "recsTold", fn := fun _ => fun
  | [d1, d2, d3] => { results := [.lit (.bool true)], args := [d1, d2, d3] }
  | _ => none }
def recsToldRow : OpenClaim := { program := "ytambpbgmmmiocaadoor", sum := "73138d1371cf6b20ddeeb41303850090b0e7634d1b981a661f611be665e3863c", func := "strata/stratalaw03.RecsTold", spec := "recsTold", named := ["strata/recs.magic", "strata/recs.halves"], apart := false, laid := [("strata/recs.halves", laid_strata_recs_halves), ("strata/recs.magic", laid_strata_recs_magic)] }
def RecsToldSaid : Prop := recsToldRow.holds Tryd.pinned (OpenSpec.ofChange recsToldSpec)

/-- ITS FALSE NEIGHBOUR: 'it returns false'. Refute it at one input. -/
def recsToldWrong : ChangeSpec := { name := "recsTold", fn := fun _ => fun
  | [d1, d2, d3] => { results := [.lit (.bool false)], args := [d1, d2, d3] }
  | _ => none }
def RecsToldWrongFalsely : Prop := recsToldRow.holds Tryd.pinned (OpenSpec.ofChange recsToldWrong)

/-- 'stratalaw03.RecsBurst': WHATEVER THE INPUT: true; the input reads as it did. -/
def recsBurstSpec : ChangeSpec := { name := "recsBurst", fn := fun _ => fun
  | [d1, d2, d3] => { results := [.lit (.bool true)], args := [d1, d2, d3] }
  | _ => none }
def recsBurstRow : OpenClaim := { program := "ytambpbgmmmiocaadoor", sum := "73138d1371cf6b20ddeeb41303850090b0e7634d1b981a661f611be665e3863c", func := "strata/stratalaw03.RecsBurst", spec := "recsBurst", named := ["strata/recs.magic", "strata/recs.halves"], apart := false, laid := [("strata/recs.halves", laid_strata_recs_halves), ("strata/recs.magic", laid_strata_recs_magic)] }
def RecsBurstSaid : Prop := recsBurstRow.holds Tryd.pinned (OpenSpec.ofChange recsBurstSpec)

/-- ITS FALSE NEIGHBOUR: 'it returns false'. Refute it at one input. -/
def recsBurstWrong : ChangeSpec := { name := "recsBurst", fn := fun _ => fun
  | [d1, d2, d3] => { results := [.lit (.bool false)], args := [d1, d2, d3] }
  | _ => none }
def RecsBurstWrongFalsely : Prop := recsBurstRow.holds Tryd.pinned (OpenSpec.ofChange recsBurstWrong)

/- THE SECOND FORM. 'bulk': how many values and letters a reading holds, each counted each time it is reached (what is shared counts as often as it is met; a slice's spare places count too). A statement '..UptoSaid' is the law's where the arguments, and the package variables that the reading takes, are together of bulk at most 1048576: NARROWER than '..Said'. Prove '..Said' where nothing that the law and all that it calls make is longer than what came in: it says more and counts as full. Else prove '..UptoSaid'. A law counts once. -/
mutual
def uptoBulk {H : Type} : DataW H → Nat
  | .lit (.string bytes) => bytes.length + 1
  | .lit _ => 1
  | .nil => 1
  | .ptr d => uptoBulk d + 1
  | .slice elems spare => uptoBulkAll elems + uptoBulkAll spare + 1
  | .agg parts => uptoBulkAll parts + 1
  | .iface _ d => uptoBulk d + 1
  | .map entries => uptoBulkEntries entries + 1
  | .held _ => 1
def uptoBulkAll {H : Type} : List (DataW H) → Nat
  | [] => 0
  | d :: r => uptoBulk d + uptoBulkAll r
def uptoBulkEntries {H : Type} : List (Lit × DataW H) → Nat
  | [] => 0
  | x :: r => uptoBulkEntry x + uptoBulkEntries r
def uptoBulkEntry {H : Type} : Lit × DataW H → Nat
  | (.string bytes, d) => bytes.length + uptoBulk d + 1
  | (_, d) => uptoBulk d + 1
 end
def uptoSmall : (H : Type) → List (DataW H) → Bool := fun _ ds => decide (uptoBulkAll ds ≤ 1048576)
def OpenSpec.upto (s : _root_.Go.ChangeSpec) : _root_.Go.OpenSpec := { _root_.Go.OpenSpec.ofChange s with cond := some uptoSmall }

/-- 'stratalaw03.RecsOrders', WHERE WHAT IT READS IS OF BULK AT MOST 1048576: true; the input reads as it did. -/
def recsOrdersUptoRow : OpenClaim := { program := "ytambpbgmmmiocaadoor", sum := "73138d1371cf6b20ddeeb41303850090b0e7634d1b981a661f611be665e3863c", func := "strata/stratalaw03.RecsOrders", spec := "recsOrders", named := ["strata/recs.natural"], apart := false, laid := [("strata/recs.natural", laid_strata_recs_natural)], narrowed := true }
def RecsOrdersUptoSaid : Prop := recsOrdersUptoRow.holds Tryd.pinned (OpenSpec.upto recsOrdersSpec)

/-- 'stratalaw03.RecsTotal', WHERE WHAT IT READS IS OF BULK AT MOST 1048576: true; the input reads as it did. -/
def recsTotalUptoRow : OpenClaim := { program := "ytambpbgmmmiocaadoor", sum := "73138d1371cf6b20ddeeb41303850090b0e7634d1b981a661f611be665e3863c", func := "strata/stratalaw03.RecsTotal", spec := "recsTotal", named := ["strata/recs.natural"], apart := false, laid := [("strata/recs.natural", laid_strata_recs_natural)], narrowed := true }
def RecsTotalUptoSaid : Prop := recsTotalUptoRow.holds Tryd.pinned (OpenSpec.upto recsTotalSpec)

/-- 'stratalaw03.RecsEncodes', WHERE WHAT IT READS IS OF BULK AT MOST 1048576: true; the input reads as it did. -/
def recsEncodesUptoRow : OpenClaim := { program := "ytambpbgmmmiocaadoor", sum := "73138d1371cf6b20ddeeb41303850090b0e7634d1b981a661f611be665e3863c", func := "strata/stratalaw03.RecsEncodes", spec := "recsEncodes", named := ["strata/recs.magic", "strata/recs.halves"], apart := false, laid := [("strata/recs.halves", laid_strata_recs_halves), ("strata/recs.magic", laid_strata_recs_magic)], narrowed := true }
def RecsEncodesUptoSaid : Prop := recsEncodesUptoRow.holds Tryd.pinned (OpenSpec.upto recsEncodesSpec)

/-- 'stratalaw03.RecsDecodes', WHERE WHAT IT READS IS OF BULK AT MOST 1048576: true; the input reads as it did. -/
def recsDecodesUptoRow : OpenClaim := { program := "ytambpbgmmmiocaadoor", sum := "73138d1371cf6b20ddeeb41303850090b0e7634d1b981a661f611be665e3863c", func := "strata/stratalaw03.RecsDecodes", spec := "recsDecodes", named := ["strata/recs.magic", "strata/recs.halves"], apart := false, laid := [("strata/recs.halves", laid_strata_recs_halves), ("strata/recs.magic", laid_strata_recs_magic)], narrowed := true }
def RecsDecodesUptoSaid : Prop := recsDecodesUptoRow.holds Tryd.pinned (OpenSpec.upto recsDecodesSpec)

/-- 'stratalaw03.RecsBack', WHERE WHAT IT READS IS OF BULK AT MOST 1048576: true; the input reads as it did. -/
def recsBackUptoRow : OpenClaim := { program := "ytambpbgmmmiocaadoor", sum := "73138d1371cf6b20ddeeb41303850090b0e7634d1b981a661f611be665e3863c", func := "strata/stratalaw03.RecsBack", spec := "recsBack", named := ["strata/recs.magic", "strata/recs.halves"], apart := false, laid := [("strata/recs.halves", laid_strata_recs_halves), ("strata/recs.magic", laid_strata_recs_magic)], narrowed := true }
def RecsBackUptoSaid : Prop := recsBackUptoRow.holds Tryd.pinned (OpenSpec.upto recsBackSpec)

/-- 'stratalaw03.RecsTold', WHERE WHAT IT READS IS OF BULK AT MOST 1048576: true; the input reads as it did. -/
def recsToldUptoRow : OpenClaim := { program := "ytambpbgmmmiocaadoor", sum := "73138d1371cf6b20ddeeb41303850090b0e7634d1b981a661f611be665e3863c", func := "strata/stratalaw03.RecsTold", spec := "recsTold", named := ["strata/recs.magic", "strata/recs.halves"], apart := false, laid := [("strata/recs.halves", laid_strata_recs_halves), ("strata/recs.magic", laid_strata_recs_magic)], narrowed := true }
def RecsToldUptoSaid : Prop := recsToldUptoRow.holds Tryd.pinned (OpenSpec.upto recsToldSpec)

/-- 'stratalaw03.RecsBurst', WHERE WHAT IT READS IS OF BULK AT MOST 1048576: true; the input reads as it did. -/
def recsBurstUptoRow : OpenClaim := { program := "ytambpbgmmmiocaadoor", sum := "73138d1371cf6b20ddeeb41303850090b0e7634d1b981a661f611be665e3863c", func := "strata/stratalaw03.RecsBurst", spec := "recsBurst", named := ["strata/recs.magic", "strata/recs.halves"], apart := false, laid := [("strata/recs.halves", laid_strata_recs_halves), ("strata/recs.magic", laid_strata_recs_magic)], narrowed := true }
def RecsBurstUptoSaid : Prop := recsBurstUptoRow.holds Tryd.pinned (OpenSpec.upto recsBurstSpec)

end Rows
end Go.Proofs.YtambpbgmmmiocaaDoor
