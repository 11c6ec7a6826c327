/-
  DERIVED. GIVEN WITH THE SEED: THE CARDS: each row of YtjkmoahnociaiaaDoorRows.lean that lists a variable, with what it lists TIED to the program's text (the seventh form; the later family's looks); each row that meets fmt, with fmt's text TOLD by the authors' own Lean function (tested against real Go, not proved from fmt's source: count such statements apart). THE CARD IS WHAT COUNTS. Prove the row's statement (the work); the ties are given (YtjkmoahnociaiaaDoorTie.lean); close each card by the builder's one call (the guide's Derived/Test/ToyasCard.lean, 'card_holds'). Laid BY PROGRAM, IN A SANDBOX (cutbox-door.mjs). By AI agents, Wed Nov 11 2026. No macro, syntax, notation, axiom, sorry.
-/
import Derived.Test.YtjkmoahnociaiaaDoorRows
import GoSem.ClaimSeven
namespace Go.Proofs.YtjkmoahnociaiaaDoor
namespace Rows

/-- THE TIED CARD OF 'stratalaw14.CircuitPrints'. -/
def circuitPrintsCard : Claim7 := { stood := { row := circuitPrintsRow, standIns := [], harness := (true, "1b9045a1260a03ff2fcbfd64f0bbc3975559e58ee4c4326d2baca3477907ac1a"), looks := false }, kinds := [], alts := [], laidByText := true, laidKinds := [.data, .widerDeep], laidTests := true, laidLooks := .later }
def CircuitPrintsCardSaid : Prop := Claim7.holds Tryd.pinned (.plain (OpenSpec.ofChange circuitPrintsSpec)) circuitPrintsCard

/-- THE TIED CARD OF 'stratalaw14.CircuitParses'. -/
def circuitParsesCard : Claim7 := { stood := { row := circuitParsesRow, standIns := [], harness := (true, "1b9045a1260a03ff2fcbfd64f0bbc3975559e58ee4c4326d2baca3477907ac1a"), looks := false }, kinds := [], alts := [], laidByText := true, laidKinds := [.data, .data, .widerDeep, .pinned], laidTests := true, laidLooks := .later }
def CircuitParsesCardSaid : Prop := Claim7.holds Tryd.pinned (.plain (OpenSpec.ofChange circuitParsesSpec)) circuitParsesCard

/-- THE TIED CARD OF 'stratalaw14.CircuitBack'. -/
def circuitBackCard : Claim7 := { stood := { row := circuitBackRow, standIns := [], harness := (true, "1b9045a1260a03ff2fcbfd64f0bbc3975559e58ee4c4326d2baca3477907ac1a"), looks := false }, kinds := [], alts := [], laidByText := true, laidKinds := [.data, .widerDeep, .pinned], laidTests := true, laidLooks := .later }
def CircuitBackCardSaid : Prop := Claim7.holds Tryd.pinned (.plain (OpenSpec.ofChange circuitBackSpec)) circuitBackCard

/-- THE TIED CARD OF 'stratalaw14.CircuitCircles'. -/
def circuitCirclesCard : Claim7 := { stood := { row := circuitCirclesRow, standIns := [], harness := (true, "1b9045a1260a03ff2fcbfd64f0bbc3975559e58ee4c4326d2baca3477907ac1a"), looks := false }, kinds := [], alts := [], laidByText := true, laidKinds := [.data, .data, .widerDeep, .pinned], laidTests := true, laidLooks := .later }
def CircuitCirclesCardSaid : Prop := Claim7.holds Tryd.pinned (.plain (OpenSpec.ofChange circuitCirclesSpec)) circuitCirclesCard

/-- THE SECOND FORM's CARD OF 'stratalaw14.CircuitPrints'. -/
def circuitPrintsUptoCard : Claim7 := { stood := { row := circuitPrintsUptoRow, standIns := [], harness := (true, "1b9045a1260a03ff2fcbfd64f0bbc3975559e58ee4c4326d2baca3477907ac1a"), looks := false }, kinds := [], alts := [], laidByText := true, laidKinds := [.data, .widerDeep], laidTests := true, laidLooks := .later }
def CircuitPrintsUptoCardSaid : Prop := Claim7.holds Tryd.pinned (.plain (OpenSpec.upto circuitPrintsSpec)) circuitPrintsUptoCard

/-- THE SECOND FORM's CARD OF 'stratalaw14.CircuitParses'. -/
def circuitParsesUptoCard : Claim7 := { stood := { row := circuitParsesUptoRow, standIns := [], harness := (true, "1b9045a1260a03ff2fcbfd64f0bbc3975559e58ee4c4326d2baca3477907ac1a"), looks := false }, kinds := [], alts := [], laidByText := true, laidKinds := [.data, .data, .widerDeep, .pinned], laidTests := true, laidLooks := .later }
def CircuitParsesUptoCardSaid : Prop := Claim7.holds Tryd.pinned (.plain (OpenSpec.upto circuitParsesSpec)) circuitParsesUptoCard

/-- THE SECOND FORM's CARD OF 'stratalaw14.CircuitBack'. -/
def circuitBackUptoCard : Claim7 := { stood := { row := circuitBackUptoRow, standIns := [], harness := (true, "1b9045a1260a03ff2fcbfd64f0bbc3975559e58ee4c4326d2baca3477907ac1a"), looks := false }, kinds := [], alts := [], laidByText := true, laidKinds := [.data, .widerDeep, .pinned], laidTests := true, laidLooks := .later }
def CircuitBackUptoCardSaid : Prop := Claim7.holds Tryd.pinned (.plain (OpenSpec.upto circuitBackSpec)) circuitBackUptoCard

/-- THE SECOND FORM's CARD OF 'stratalaw14.CircuitCircles'. -/
def circuitCirclesUptoCard : Claim7 := { stood := { row := circuitCirclesUptoRow, standIns := [], harness := (true, "1b9045a1260a03ff2fcbfd64f0bbc3975559e58ee4c4326d2baca3477907ac1a"), looks := false }, kinds := [], alts := [], laidByText := true, laidKinds := [.data, .data, .widerDeep, .pinned], laidTests := true, laidLooks := .later }
def CircuitCirclesUptoCardSaid : Prop := Claim7.holds Tryd.pinned (.plain (OpenSpec.upto circuitCirclesSpec)) circuitCirclesUptoCard
end Rows
end Go.Proofs.YtjkmoahnociaiaaDoor
