/-
  DERIVED. GIVEN WITH THE SEED: THE CARDS: each row of YtambpbgmmmiocaaDoorRows.lean that lists a variable, with what it lists TIED to the program's text (the seventh form; the later family's looks); each row that meets fmt, with fmt's text TOLD by the authors' own Lean function (tested against real Go, not proved from fmt's source: count such statements apart). THE CARD IS WHAT COUNTS. Prove the row's statement (the work); the ties are given (YtambpbgmmmiocaaDoorTie.lean); close each card by the builder's one call (the guide's Derived/Test/ToyasCard.lean, 'card_holds'). Laid BY PROGRAM, IN A SANDBOX (cutbox-door.mjs). By AI agents, Wed Nov 11 2026. No macro, syntax, notation, axiom, sorry.
-/
import Derived.Test.YtambpbgmmmiocaaDoorRows
import GoSem.ClaimSeven
namespace Go.Proofs.YtambpbgmmmiocaaDoor
namespace Rows

/-- THE TIED CARD OF 'stratalaw03.RecsOrders'. -/
def recsOrdersCard : Claim7 := { stood := { row := recsOrdersRow, standIns := [], harness := (true, "508fafb36d037bfc08cba3e2197723e33bb942586c505adb5f0db76ee6e8815e"), looks := false }, kinds := [], alts := [], laidByText := true, laidKinds := [.data], laidTests := true, laidLooks := .later }
def RecsOrdersCardSaid : Prop := Claim7.holds Tryd.pinned (.plain (OpenSpec.ofChange recsOrdersSpec)) recsOrdersCard

/-- THE TIED CARD OF 'stratalaw03.RecsTotal'. -/
def recsTotalCard : Claim7 := { stood := { row := recsTotalRow, standIns := [], harness := (true, "508fafb36d037bfc08cba3e2197723e33bb942586c505adb5f0db76ee6e8815e"), looks := false }, kinds := [], alts := [], laidByText := true, laidKinds := [.data], laidTests := true, laidLooks := .later }
def RecsTotalCardSaid : Prop := Claim7.holds Tryd.pinned (.plain (OpenSpec.ofChange recsTotalSpec)) recsTotalCard

/-- THE TIED CARD OF 'stratalaw03.RecsEncodes'. -/
def recsEncodesCard : Claim7 := { stood := { row := recsEncodesRow, standIns := [], harness := (true, "508fafb36d037bfc08cba3e2197723e33bb942586c505adb5f0db76ee6e8815e"), looks := false }, kinds := [], alts := [], laidByText := true, laidKinds := [.data, .widerDeep], laidTests := true, laidLooks := .later }
def RecsEncodesCardSaid : Prop := Claim7.holds Tryd.pinned (.plain (OpenSpec.ofChange recsEncodesSpec)) recsEncodesCard

/-- THE TIED CARD OF 'stratalaw03.RecsDecodes'. -/
def recsDecodesCard : Claim7 := { stood := { row := recsDecodesRow, standIns := [], harness := (true, "508fafb36d037bfc08cba3e2197723e33bb942586c505adb5f0db76ee6e8815e"), looks := false }, kinds := [], alts := [], laidByText := true, laidKinds := [.data, .widerDeep], laidTests := true, laidLooks := .later }
def RecsDecodesCardSaid : Prop := Claim7.holds Tryd.pinned (.plain (OpenSpec.ofChange recsDecodesSpec)) recsDecodesCard

/-- THE TIED CARD OF 'stratalaw03.RecsBack'. -/
def recsBackCard : Claim7 := { stood := { row := recsBackRow, standIns := [], harness := (true, "508fafb36d037bfc08cba3e2197723e33bb942586c505adb5f0db76ee6e8815e"), looks := false }, kinds := [], alts := [], laidByText := true, laidKinds := [.data, .widerDeep], laidTests := true, laidLooks := .later }
def RecsBackCardSaid : Prop := Claim7.holds Tryd.pinned (.plain (OpenSpec.ofChange recsBackSpec)) recsBackCard

/-- THE TIED CARD OF 'stratalaw03.RecsTold'. -/
def recsToldCard : Claim7 := { stood := { row := recsToldRow, standIns := [], harness := (true, "508fafb36d037bfc08cba3e2197723e33bb942586c505adb5f0db76ee6e8815e"), looks := false }, kinds := [], alts := [], laidByText := true, laidKinds := [.data, .widerDeep], laidTests := true, laidLooks := .later }
def RecsToldCardSaid : Prop := Claim7.holds Tryd.pinned (.plain (OpenSpec.ofChange recsToldSpec)) recsToldCard

/-- THE TIED CARD OF 'stratalaw03.RecsBurst'. -/
def recsBurstCard : Claim7 := { stood := { row := recsBurstRow, standIns := [], harness := (true, "508fafb36d037bfc08cba3e2197723e33bb942586c505adb5f0db76ee6e8815e"), looks := false }, kinds := [], alts := [], laidByText := true, laidKinds := [.data, .widerDeep], laidTests := true, laidLooks := .later }
def RecsBurstCardSaid : Prop := Claim7.holds Tryd.pinned (.plain (OpenSpec.ofChange recsBurstSpec)) recsBurstCard

/-- THE SECOND FORM's CARD OF 'stratalaw03.RecsOrders'. -/
def recsOrdersUptoCard : Claim7 := { stood := { row := recsOrdersUptoRow, standIns := [], harness := (true, "508fafb36d037bfc08cba3e2197723e33bb942586c505adb5f0db76ee6e8815e"), looks := false }, kinds := [], alts := [], laidByText := true, laidKinds := [.data], laidTests := true, laidLooks := .later }
def RecsOrdersUptoCardSaid : Prop := Claim7.holds Tryd.pinned (.plain (OpenSpec.upto recsOrdersSpec)) recsOrdersUptoCard

/-- THE SECOND FORM's CARD OF 'stratalaw03.RecsTotal'. -/
def recsTotalUptoCard : Claim7 := { stood := { row := recsTotalUptoRow, standIns := [], harness := (true, "508fafb36d037bfc08cba3e2197723e33bb942586c505adb5f0db76ee6e8815e"), looks := false }, kinds := [], alts := [], laidByText := true, laidKinds := [.data], laidTests := true, laidLooks := .later }
def RecsTotalUptoCardSaid : Prop := Claim7.holds Tryd.pinned (.plain (OpenSpec.upto recsTotalSpec)) recsTotalUptoCard

/-- THE SECOND FORM's CARD OF 'stratalaw03.RecsEncodes'. -/
def recsEncodesUptoCard : Claim7 := { stood := { row := recsEncodesUptoRow, standIns := [], harness := (true, "508fafb36d037bfc08cba3e2197723e33bb942586c505adb5f0db76ee6e8815e"), looks := false }, kinds := [], alts := [], laidByText := true, laidKinds := [.data, .widerDeep], laidTests := true, laidLooks := .later }
def RecsEncodesUptoCardSaid : Prop := Claim7.holds Tryd.pinned (.plain (OpenSpec.upto recsEncodesSpec)) recsEncodesUptoCard

/-- THE SECOND FORM's CARD OF 'stratalaw03.RecsDecodes'. -/
def recsDecodesUptoCard : Claim7 := { stood := { row := recsDecodesUptoRow, standIns := [], harness := (true, "508fafb36d037bfc08cba3e2197723e33bb942586c505adb5f0db76ee6e8815e"), looks := false }, kinds := [], alts := [], laidByText := true, laidKinds := [.data, .widerDeep], laidTests := true, laidLooks := .later }
def RecsDecodesUptoCardSaid : Prop := Claim7.holds Tryd.pinned (.plain (OpenSpec.upto recsDecodesSpec)) recsDecodesUptoCard

/-- THE SECOND FORM's CARD OF 'stratalaw03.RecsBack'. -/
def recsBackUptoCard : Claim7 := { stood := { row := recsBackUptoRow, standIns := [], harness := (true, "508fafb36d037bfc08cba3e2197723e33bb942586c505adb5f0db76ee6e8815e"), looks := false }, kinds := [], alts := [], laidByText := true, laidKinds := [.data, .widerDeep], laidTests := true, laidLooks := .later }
def RecsBackUptoCardSaid : Prop := Claim7.holds Tryd.pinned (.plain (OpenSpec.upto recsBackSpec)) recsBackUptoCard

/-- THE SECOND FORM's CARD OF 'stratalaw03.RecsTold'. -/
def recsToldUptoCard : Claim7 := { stood := { row := recsToldUptoRow, standIns := [], harness := (true, "508fafb36d037bfc08cba3e2197723e33bb942586c505adb5f0db76ee6e8815e"), looks := false }, kinds := [], alts := [], laidByText := true, laidKinds := [.data, .widerDeep], laidTests := true, laidLooks := .later }
def RecsToldUptoCardSaid : Prop := Claim7.holds Tryd.pinned (.plain (OpenSpec.upto recsToldSpec)) recsToldUptoCard

/-- THE SECOND FORM's CARD OF 'stratalaw03.RecsBurst'. -/
def recsBurstUptoCard : Claim7 := { stood := { row := recsBurstUptoRow, standIns := [], harness := (true, "508fafb36d037bfc08cba3e2197723e33bb942586c505adb5f0db76ee6e8815e"), looks := false }, kinds := [], alts := [], laidByText := true, laidKinds := [.data, .widerDeep], laidTests := true, laidLooks := .later }
def RecsBurstUptoCardSaid : Prop := Claim7.holds Tryd.pinned (.plain (OpenSpec.upto recsBurstSpec)) recsBurstUptoCard
end Rows
end Go.Proofs.YtambpbgmmmiocaaDoor
