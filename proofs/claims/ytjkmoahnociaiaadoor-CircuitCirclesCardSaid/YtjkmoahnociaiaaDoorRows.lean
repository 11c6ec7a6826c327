/-
  NARROWER THAN 'FOR EVERY INPUT', by the rows' own cells (each row's printed sentence says how): CircuitPrints: laid · CircuitParses: laid · CircuitBack: laid · CircuitCircles: laid.
  DERIVED. THE GIVEN ROWS OF THIS SEAT. 4 by the template 'for every input the law returns true; each argument reads behind the call as it read before'; 0 by the template 'total and deterministic' (their statements: YtjkmoahnociaiaaDoorTotals.lean).
  GIVEN WITH THE SEED: the statements are not yours to turn. If you find one false, say at which input.
  Laid BY PROGRAM, IN A SANDBOX (cutbox-rows.mjs): the forced cells as the released guide's own fill.sh prints them over the translation 14f53b632b7ed876… (all of the seat's roots in one cut). By AI agents, Wed Nov 11 2026. No macro, syntax, notation, axiom, sorry.
-/
import Derived.Test.YtjkmoahnociaiaaDoorChecked
import GoSem.PinnedTables
import GoSem.Claim
import GoSem.ClaimJoined
import GoSem.ClaimMapViews
import Derived.JoinedTies
import Derived.KernelRfl
namespace Go.Proofs.YtjkmoahnociaiaaDoor
/- THE CELL 'sum', in the pinned program and in every row, IS THE sha256 OF THE DUMP (.gsa) THAT YtjkmoahnociaiaaDoorProg.lean LOADS. Nothing in Lean hashes anything: it is a label: what it is worth is what the hold of that sum in a sandbox is worth. -/
noncomputable def Tryd.pinned : Pinned := { name := "ytjkmoahnociaiaadoor", sum := "14f53b632b7ed876404dd8d922911e7aecdd7afacd15b4d7bdf6d8c0e83bebbc", checked := Tryd.checked }
namespace Rows
def none {H : Type} : Left H := { results := [], args := [] }

/- WHAT THE LISTED PACKAGE-LEVEL VARIABLES READ AS WHEN THE CALL BEGINS. Each datum BY PROGRAM (the guide's laid-datum.mjs) off the statement by which the dump's own 'gosem.cut.vars' lays the variable. In a bare row this is a premise. The card (YtjkmoahnociaiaaDoorCards.lean) ties it to the program's text. -/
def laid_strata_strataref14_words {H : Type} : DataW H := .agg [.lit (.string [122, 101, 114, 111]), .lit (.string [110, 111, 114]), .lit (.string [108, 101, 115, 115]), .lit (.string [110, 111, 116, 97]), .lit (.string [100, 105, 102, 102]), .lit (.string [110, 111, 116, 98]), .lit (.string [120, 111, 114]), .lit (.string [110, 97, 110, 100]), .lit (.string [97, 110, 100]), .lit (.string [105, 102, 102]), .lit (.string [98]), .lit (.string [105, 109, 112]), .lit (.string [97]), .lit (.string [114, 101, 118]), .lit (.string [111, 114]), .lit (.string [111, 110, 101])]
def laid_strata_circuit_operators {H : Type} : DataW H := .agg [.lit (.string [122, 101, 114, 111]), .lit (.string [110, 111, 114]), .lit (.string [108, 101, 115, 115]), .lit (.string [110, 111, 116, 97]), .lit (.string [100, 105, 102, 102]), .lit (.string [110, 111, 116, 98]), .lit (.string [120, 111, 114]), .lit (.string [110, 97, 110, 100]), .lit (.string [97, 110, 100]), .lit (.string [105, 102, 102]), .lit (.string [98]), .lit (.string [105, 109, 112]), .lit (.string [97]), .lit (.string [114, 101, 118]), .lit (.string [111, 114]), .lit (.string [111, 110, 101])]
def laid_unicode_utf8_acceptRanges {H : Type} : DataW H := .agg [.agg [.lit (.int .u8 128), .lit (.int .u8 191)], .agg [.lit (.int .u8 160), .lit (.int .u8 191)], .agg [.lit (.int .u8 128), .lit (.int .u8 159)], .agg [.lit (.int .u8 144), .lit (.int .u8 191)], .agg [.lit (.int .u8 128), .lit (.int .u8 143)], .agg [.lit (.int .u8 0), .lit (.int .u8 0)], .agg [.lit (.int .u8 0), .lit (.int .u8 0)], .agg [.lit (.int .u8 0), .lit (.int .u8 0)], .agg [.lit (.int .u8 0), .lit (.int .u8 0)], .agg [.lit (.int .u8 0), .lit (.int .u8 0)], .agg [.lit (.int .u8 0), .lit (.int .u8 0)], .agg [.lit (.int .u8 0), .lit (.int .u8 0)], .agg [.lit (.int .u8 0), .lit (.int .u8 0)], .agg [.lit (.int .u8 0), .lit (.int .u8 0)], .agg [.lit (.int .u8 0), .lit (.int .u8 0)], .agg [.lit (.int .u8 0), .lit (.int .u8 0)]]
/-- One of Go's own tables, pinned by name: the form's constant. -/
def laid_unicode_utf8_first : DataW Unit := Go.Pinned.utf8First

/-- 'stratalaw14.CircuitPrints': WHATEVER THE INPUT: true; the input reads as it did. -/
def circuitPrintsSpec : ChangeSpec := { name := "circuitPrints", fn := fun _ => fun
  | [d] => { results := [.lit (.bool true)], args := [d] }
  | _ => none }
def circuitPrintsRow : OpenClaim := { program := "ytjkmoahnociaiaadoor", sum := "14f53b632b7ed876404dd8d922911e7aecdd7afacd15b4d7bdf6d8c0e83bebbc", func := "strata/stratalaw14.CircuitPrints", spec := "circuitPrints", inPlace := ["internal/abi.NoEscape", "internal/bytealg.MakeNoZero"], unfollowed := true, recurses := true, named := ["strata/circuit.operators", "strata/strataref14.words"], apart := false, laid := [("strata/strataref14.words", laid_strata_strataref14_words), ("strata/circuit.operators", laid_strata_circuit_operators)] }
def CircuitPrintsSaid : Prop := circuitPrintsRow.holds Tryd.pinned (OpenSpec.ofChange circuitPrintsSpec)

/-- ITS FALSE NEIGHBOUR: 'it returns false'. Refute it at one input. -/
def circuitPrintsWrong : ChangeSpec := { name := "circuitPrints", fn := fun _ => fun
  | [d] => { results := [.lit (.bool false)], args := [d] }
  | _ => none }
def CircuitPrintsWrongFalsely : Prop := circuitPrintsRow.holds Tryd.pinned (OpenSpec.ofChange circuitPrintsWrong)

/-- 'stratalaw14.CircuitParses': WHATEVER THE INPUT: true; the input reads as it did. -/
def circuitParsesSpec : ChangeSpec := { name := "circuitParses", fn := fun _ => fun
  | [d] => { results := [.lit (.bool true)], args := [d] }
  | _ => none }
def circuitParsesRow : OpenClaim := { program := "ytjkmoahnociaiaadoor", sum := "14f53b632b7ed876404dd8d922911e7aecdd7afacd15b4d7bdf6d8c0e83bebbc", func := "strata/stratalaw14.CircuitParses", spec := "circuitParses", inPlace := ["internal/bytealg.CountString", "internal/bytealg.IndexByteString", "internal/bytealg.IndexString"], unfollowed := true, recurses := true, named := ["unicode/utf8.first", "unicode/utf8.acceptRanges", "internal/bytealg.MaxLen", "strata/circuit.operators", "strata/strataref14.words"], apart := false, laid := [("strata/strataref14.words", laid_strata_strataref14_words), ("unicode/utf8.acceptRanges", laid_unicode_utf8_acceptRanges), ("strata/circuit.operators", laid_strata_circuit_operators), ("unicode/utf8.first", laid_unicode_utf8_first)] }
def CircuitParsesSaid : Prop := circuitParsesRow.holds Tryd.pinned (OpenSpec.ofChange circuitParsesSpec)

/-- ITS FALSE NEIGHBOUR: 'it returns false'. Refute it at one input. -/
def circuitParsesWrong : ChangeSpec := { name := "circuitParses", fn := fun _ => fun
  | [d] => { results := [.lit (.bool false)], args := [d] }
  | _ => none }
def CircuitParsesWrongFalsely : Prop := circuitParsesRow.holds Tryd.pinned (OpenSpec.ofChange circuitParsesWrong)

/-- 'stratalaw14.CircuitBack': WHATEVER THE INPUT: true; the input reads as it did. -/
def circuitBackSpec : ChangeSpec := { name := "circuitBack", fn := fun _ => fun
  | [d1, d2] => { results := [.lit (.bool true)], args := [d1, d2] }
  | _ => none }
def circuitBackRow : OpenClaim := { program := "ytjkmoahnociaiaadoor", sum := "14f53b632b7ed876404dd8d922911e7aecdd7afacd15b4d7bdf6d8c0e83bebbc", func := "strata/stratalaw14.CircuitBack", spec := "circuitBack", inPlace := ["internal/abi.NoEscape", "internal/bytealg.MakeNoZero", "internal/bytealg.CountString", "internal/bytealg.IndexByteString", "internal/bytealg.IndexString"], unfollowed := true, recurses := true, named := ["strata/circuit.operators", "unicode/utf8.first", "unicode/utf8.acceptRanges", "internal/bytealg.MaxLen"], apart := false, laid := [("unicode/utf8.acceptRanges", laid_unicode_utf8_acceptRanges), ("strata/circuit.operators", laid_strata_circuit_operators), ("unicode/utf8.first", laid_unicode_utf8_first)] }
def CircuitBackSaid : Prop := circuitBackRow.holds Tryd.pinned (OpenSpec.ofChange circuitBackSpec)

/-- ITS FALSE NEIGHBOUR: 'it returns false'. Refute it at one input. -/
def circuitBackWrong : ChangeSpec := { name := "circuitBack", fn := fun _ => fun
  | [d1, d2] => { results := [.lit (.bool false)], args := [d1, d2] }
  | _ => none }
def CircuitBackWrongFalsely : Prop := circuitBackRow.holds Tryd.pinned (OpenSpec.ofChange circuitBackWrong)

/-- 'stratalaw14.CircuitCircles': WHATEVER THE INPUT: true; the input reads as it did. -/
def circuitCirclesSpec : ChangeSpec := { name := "circuitCircles", fn := fun _ => fun
  | [d1, d2, d3] => { results := [.lit (.bool true)], args := [d1, d2, d3] }
  | _ => none }
def circuitCirclesRow : OpenClaim := { program := "ytjkmoahnociaiaadoor", sum := "14f53b632b7ed876404dd8d922911e7aecdd7afacd15b4d7bdf6d8c0e83bebbc", func := "strata/stratalaw14.CircuitCircles", spec := "circuitCircles", inPlace := ["internal/bytealg.CountString", "internal/bytealg.IndexByteString", "internal/bytealg.IndexString", "internal/abi.NoEscape", "internal/bytealg.MakeNoZero"], unfollowed := true, recurses := true, named := ["strata/strataref14.words", "unicode/utf8.first", "unicode/utf8.acceptRanges", "internal/bytealg.MaxLen", "strata/circuit.operators"], apart := false, laid := [("strata/strataref14.words", laid_strata_strataref14_words), ("unicode/utf8.acceptRanges", laid_unicode_utf8_acceptRanges), ("strata/circuit.operators", laid_strata_circuit_operators), ("unicode/utf8.first", laid_unicode_utf8_first)] }
def CircuitCirclesSaid : Prop := circuitCirclesRow.holds Tryd.pinned (OpenSpec.ofChange circuitCirclesSpec)

/-- ITS FALSE NEIGHBOUR: 'it returns false'. Refute it at one input. -/
def circuitCirclesWrong : ChangeSpec := { name := "circuitCircles", fn := fun _ => fun
  | [d1, d2, d3] => { results := [.lit (.bool false)], args := [d1, d2, d3] }
  | _ => none }
def CircuitCirclesWrongFalsely : Prop := circuitCirclesRow.holds Tryd.pinned (OpenSpec.ofChange circuitCirclesWrong)

/- THE SECOND FORM. 'bulk': how many values and letters a reading holds, each counted each time it is reached (what is shared counts as often as it is met; a slice's spare places count too). A statement '..UptoSaid' is the law's where the arguments, and the package variables that the reading takes, are together of bulk at most 1048576: NARROWER than '..Said'. Prove '..Said' where nothing that the law and all that it calls make is longer than what came in: it says more and counts as full. Else prove '..UptoSaid'. A law counts once. -/
mutual
def uptoBulk {H : Type} : DataW H → Nat
  | .lit (.string bytes) => bytes.length + 1
  | .lit _ => 1
  | .nil => 1
  | .ptr d => uptoBulk d + 1
  | .slice elems spare => uptoBulkAll elems + uptoBulkAll spare + 1
  | .agg parts => uptoBulkAll parts + 1
  | .iface _ d => uptoBulk d + 1
  | .map entries => uptoBulkEntries entries + 1
  | .held _ => 1
def uptoBulkAll {H : Type} : List (DataW H) → Nat
  | [] => 0
  | d :: r => uptoBulk d + uptoBulkAll r
def uptoBulkEntries {H : Type} : List (Lit × DataW H) → Nat
  | [] => 0
  | x :: r => uptoBulkEntry x + uptoBulkEntries r
def uptoBulkEntry {H : Type} : Lit × DataW H → Nat
  | (.string bytes, d) => bytes.length + uptoBulk d + 1
  | (_, d) => uptoBulk d + 1
 end
def uptoSmall : (H : Type) → List (DataW H) → Bool := fun _ ds => decide (uptoBulkAll ds ≤ 1048576)
def OpenSpec.upto (s : _root_.Go.ChangeSpec) : _root_.Go.OpenSpec := { _root_.Go.OpenSpec.ofChange s with cond := some uptoSmall }

/-- 'stratalaw14.CircuitPrints', WHERE WHAT IT READS IS OF BULK AT MOST 1048576: true; the input reads as it did. -/
def circuitPrintsUptoRow : OpenClaim := { program := "ytjkmoahnociaiaadoor", sum := "14f53b632b7ed876404dd8d922911e7aecdd7afacd15b4d7bdf6d8c0e83bebbc", func := "strata/stratalaw14.CircuitPrints", spec := "circuitPrints", inPlace := ["internal/abi.NoEscape", "internal/bytealg.MakeNoZero"], unfollowed := true, recurses := true, named := ["strata/circuit.operators", "strata/strataref14.words"], apart := false, laid := [("strata/strataref14.words", laid_strata_strataref14_words), ("strata/circuit.operators", laid_strata_circuit_operators)], narrowed := true }
def CircuitPrintsUptoSaid : Prop := circuitPrintsUptoRow.holds Tryd.pinned (OpenSpec.upto circuitPrintsSpec)

/-- 'stratalaw14.CircuitParses', WHERE WHAT IT READS IS OF BULK AT MOST 1048576: true; the input reads as it did. -/
def circuitParsesUptoRow : OpenClaim := { program := "ytjkmoahnociaiaadoor", sum := "14f53b632b7ed876404dd8d922911e7aecdd7afacd15b4d7bdf6d8c0e83bebbc", func := "strata/stratalaw14.CircuitParses", spec := "circuitParses", inPlace := ["internal/bytealg.CountString", "internal/bytealg.IndexByteString", "internal/bytealg.IndexString"], unfollowed := true, recurses := true, named := ["unicode/utf8.first", "unicode/utf8.acceptRanges", "internal/bytealg.MaxLen", "strata/circuit.operators", "strata/strataref14.words"], apart := false, laid := [("strata/strataref14.words", laid_strata_strataref14_words), ("unicode/utf8.acceptRanges", laid_unicode_utf8_acceptRanges), ("strata/circuit.operators", laid_strata_circuit_operators), ("unicode/utf8.first", laid_unicode_utf8_first)], narrowed := true }
def CircuitParsesUptoSaid : Prop := circuitParsesUptoRow.holds Tryd.pinned (OpenSpec.upto circuitParsesSpec)

/-- 'stratalaw14.CircuitBack', WHERE WHAT IT READS IS OF BULK AT MOST 1048576: true; the input reads as it did. -/
def circuitBackUptoRow : OpenClaim := { program := "ytjkmoahnociaiaadoor", sum := "14f53b632b7ed876404dd8d922911e7aecdd7afacd15b4d7bdf6d8c0e83bebbc", func := "strata/stratalaw14.CircuitBack", spec := "circuitBack", inPlace := ["internal/abi.NoEscape", "internal/bytealg.MakeNoZero", "internal/bytealg.CountString", "internal/bytealg.IndexByteString", "internal/bytealg.IndexString"], unfollowed := true, recurses := true, named := ["strata/circuit.operators", "unicode/utf8.first", "unicode/utf8.acceptRanges", "internal/bytealg.MaxLen"], apart := false, laid := [("unicode/utf8.acceptRanges", laid_unicode_utf8_acceptRanges), ("strata/circuit.operators", laid_strata_circuit_operators), ("unicode/utf8.first", laid_unicode_utf8_first)], narrowed := true }
def CircuitBackUptoSaid : Prop := circuitBackUptoRow.holds Tryd.pinned (OpenSpec.upto circuitBackSpec)

/-- 'stratalaw14.CircuitCircles', WHERE WHAT IT READS IS OF BULK AT MOST 1048576: true; the input reads as it did. -/
def circuitCirclesUptoRow : OpenClaim := { program := "ytjkmoahnociaiaadoor", sum := "14f53b632b7ed876404dd8d922911e7aecdd7afacd15b4d7bdf6d8c0e83bebbc", func := "strata/stratalaw14.CircuitCircles", spec := "circuitCircles", inPlace := ["internal/bytealg.CountString", "internal/bytealg.IndexByteString", "internal/bytealg.IndexString", "internal/abi.NoEscape", "internal/bytealg.MakeNoZero"], unfollowed := true, recurses := true, named := ["strata/strataref14.words", "unicode/utf8.first", "unicode/utf8.acceptRanges", "internal/bytealg.MaxLen", "strata/circuit.operators"], apart := false, laid := [("strata/strataref14.words", laid_strata_strataref14_words), ("unicode/utf8.acceptRanges", laid_unicode_utf8_acceptRanges), ("strata/circuit.operators", laid_strata_circuit_operators), ("unicode/utf8.first", laid_unicode_utf8_first)], narrowed := true }
def CircuitCirclesUptoSaid : Prop := circuitCirclesUptoRow.holds Tryd.pinned (OpenSpec.upto circuitCirclesSpec)

end Rows
end Go.Proofs.YtjkmoahnociaiaaDoor
