/-
  DERIVED. GIVEN WITH THE SEED: THE CARDS: each row of YtckkbghmiomfiaaDoorRows.lean that lists a variable, with what it lists TIED to the program's text (the seventh form; the later family's looks); each row that meets fmt, with fmt's text TOLD by the authors' own Lean function (tested against real Go, not proved from fmt's source: count such statements apart). THE CARD IS WHAT COUNTS. Prove the row's statement (the work); the ties are given (YtckkbghmiomfiaaDoorTie.lean); close each card by the builder's one call (the guide's Derived/Test/ToyasCard.lean, 'card_holds'). Laid BY PROGRAM, IN A SANDBOX (cutbox-door.mjs). By AI agents, Wed Nov 11 2026. No macro, syntax, notation, axiom, sorry.
-/
import Derived.Test.YtckkbghmiomfiaaDoorRows
import GoSem.ClaimSeven
namespace Go.Proofs.YtckkbghmiomfiaaDoor
namespace Rows

/-- THE TIED CARD OF 'elenchuslaw09.OperDoes'. -/
def operDoesCard : Claim7 := { stood := { row := operDoesRow, standIns := [], harness := (true, "2b89f7852c6845510b205ee4306fb7b176ca1c047836a2f8f99d56ecb2d3f970"), looks := true }, kinds := [], alts := [], laidByText := true, laidKinds := [.widerDeep], laidTests := true, laidLooks := .later }
def OperDoesCardSaid : Prop := Claim7.holds Tryd.pinned (.plain (OpenSpec.ofChange operDoesSpec)) operDoesCard

/-- THE TIED CARD OF 'elenchuslaw09.OperSides'. -/
def operSidesCard : Claim7 := { stood := { row := operSidesRow, standIns := [], harness := (true, "2b89f7852c6845510b205ee4306fb7b176ca1c047836a2f8f99d56ecb2d3f970"), looks := true }, kinds := [], alts := [], laidByText := true, laidKinds := [.widerDeep], laidTests := true, laidLooks := .later }
def OperSidesCardSaid : Prop := Claim7.holds Tryd.pinned (.plain (OpenSpec.ofChange operSidesSpec)) operSidesCard

/-- THE TIED CARD OF 'elenchuslaw09.OperSets'. -/
def operSetsCard : Claim7 := { stood := { row := operSetsRow, standIns := [], harness := (true, "2b89f7852c6845510b205ee4306fb7b176ca1c047836a2f8f99d56ecb2d3f970"), looks := true }, kinds := [], alts := [], laidByText := true, laidKinds := [.widerDeep], laidTests := true, laidLooks := .later }
def OperSetsCardSaid : Prop := Claim7.holds Tryd.pinned (.plain (OpenSpec.ofChange operSetsSpec)) operSetsCard

/-- THE TIED CARD OF 'elenchuslaw09.OperNobody'. -/
def operNobodyCard : Claim7 := { stood := { row := operNobodyRow, standIns := [], harness := (true, "2b89f7852c6845510b205ee4306fb7b176ca1c047836a2f8f99d56ecb2d3f970"), looks := true }, kinds := [], alts := [], laidByText := true, laidKinds := [.widerDeep], laidTests := true, laidLooks := .later }
def OperNobodyCardSaid : Prop := Claim7.holds Tryd.pinned (.plain (OpenSpec.ofChange operNobodySpec)) operNobodyCard

/-- THE TIED CARD OF 'elenchuslaw09.OperForks'. -/
def operForksCard : Claim7 := { stood := { row := operForksRow, standIns := [], harness := (true, "2b89f7852c6845510b205ee4306fb7b176ca1c047836a2f8f99d56ecb2d3f970"), looks := true }, kinds := [], alts := [], laidByText := true, laidKinds := [.widerDeep], laidTests := true, laidLooks := .later }
def OperForksCardSaid : Prop := Claim7.holds Tryd.pinned (.plain (OpenSpec.ofChange operForksSpec)) operForksCard

/-- THE SECOND FORM's CARD OF 'elenchuslaw09.OperDoes'. -/
def operDoesUptoCard : Claim7 := { stood := { row := operDoesUptoRow, standIns := [], harness := (true, "2b89f7852c6845510b205ee4306fb7b176ca1c047836a2f8f99d56ecb2d3f970"), looks := true }, kinds := [], alts := [], laidByText := true, laidKinds := [.widerDeep], laidTests := true, laidLooks := .later }
def OperDoesUptoCardSaid : Prop := Claim7.holds Tryd.pinned (.plain (OpenSpec.upto operDoesSpec)) operDoesUptoCard

/-- THE SECOND FORM's CARD OF 'elenchuslaw09.OperSides'. -/
def operSidesUptoCard : Claim7 := { stood := { row := operSidesUptoRow, standIns := [], harness := (true, "2b89f7852c6845510b205ee4306fb7b176ca1c047836a2f8f99d56ecb2d3f970"), looks := true }, kinds := [], alts := [], laidByText := true, laidKinds := [.widerDeep], laidTests := true, laidLooks := .later }
def OperSidesUptoCardSaid : Prop := Claim7.holds Tryd.pinned (.plain (OpenSpec.upto operSidesSpec)) operSidesUptoCard

/-- THE SECOND FORM's CARD OF 'elenchuslaw09.OperSets'. -/
def operSetsUptoCard : Claim7 := { stood := { row := operSetsUptoRow, standIns := [], harness := (true, "2b89f7852c6845510b205ee4306fb7b176ca1c047836a2f8f99d56ecb2d3f970"), looks := true }, kinds := [], alts := [], laidByText := true, laidKinds := [.widerDeep], laidTests := true, laidLooks := .later }
def OperSetsUptoCardSaid : Prop := Claim7.holds Tryd.pinned (.plain (OpenSpec.upto operSetsSpec)) operSetsUptoCard

/-- THE SECOND FORM's CARD OF 'elenchuslaw09.OperNobody'. -/
def operNobodyUptoCard : Claim7 := { stood := { row := operNobodyUptoRow, standIns := [], harness := (true, "2b89f7852c6845510b205ee4306fb7b176ca1c047836a2f8f99d56ecb2d3f970"), looks := true }, kinds := [], alts := [], laidByText := true, laidKinds := [.widerDeep], laidTests := true, laidLooks := .later }
def OperNobodyUptoCardSaid : Prop := Claim7.holds Tryd.pinned (.plain (OpenSpec.upto operNobodySpec)) operNobodyUptoCard

/-- THE SECOND FORM's CARD OF 'elenchuslaw09.OperForks'. -/
def operForksUptoCard : Claim7 := { stood := { row := operForksUptoRow, standIns := [], harness := (true, "2b89f7852c6845510b205ee4306fb7b176ca1c047836a2f8f99d56ecb2d3f970"), looks := true }, kinds := [], alts := [], laidByText := true, laidKinds := [.widerDeep], laidTests := true, laidLooks := .later }
def OperForksUptoCardSaid : Prop := Claim7.holds Tryd.pinned (.plain (OpenSpec.upto operForksSpec)) operForksUptoCard
end Rows
end Go.Proofs.YtckkbghmiomfiaaDoor
