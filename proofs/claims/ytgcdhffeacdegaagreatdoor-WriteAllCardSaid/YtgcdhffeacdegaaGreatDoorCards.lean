/-
  DERIVED. GIVEN WITH THE SEED: THE CARDS: each row of YtgcdhffeacdegaaGreatDoorRows.lean that lists a variable, with what it lists TIED to the program's text (the seventh form; the later family's looks); each row that meets fmt, with fmt's text TOLD by the authors' own Lean function (tested against real Go, not proved from fmt's source: count such statements apart). THE CARD IS WHAT COUNTS. Prove the row's statement (the work); the ties are given (YtgcdhffeacdegaaGreatDoorTie.lean); close each card by the builder's one call (the guide's Derived/Test/ToyasCard.lean, 'card_holds'). Laid BY PROGRAM, IN A SANDBOX (cutbox-door.mjs). By AI agents, Wed Nov 11 2026. No macro, syntax, notation, axiom, sorry.
-/
import Derived.Test.YtgcdhffeacdegaaGreatDoorRows
import GoSem.ClaimSeven
namespace Go.Proofs.YtgcdhffeacdegaaGreatDoor
namespace Rows

/-- THE TIED CARD OF 'elenchuslaw10.ParseClauses'. -/
def parseClausesCard : Claim7 := { stood := { row := parseClausesRow, standIns := [], harness := (true, "4c15c9df1f85cac14640ab9f5370ffcfd55d1d6c6998a49f9a83d7b5e71fcaef"), looks := true }, kinds := [], alts := [], laidByText := true, laidKinds := [.data, .data, .data, .sentinel, .sentinel, .widerDeep], laidTests := true, laidLooks := .later }
def ParseClausesCardSaid : Prop := Claim7.holds Tryz.pinned (.plain (OpenSpec.ofChange parseClausesSpec)) parseClausesCard

/-- THE TIED CARD OF 'elenchuslaw10.ParseAll'. -/
def parseAllCard : Claim7 := { stood := { row := parseAllRow, standIns := [], harness := (true, "4c15c9df1f85cac14640ab9f5370ffcfd55d1d6c6998a49f9a83d7b5e71fcaef"), looks := true }, kinds := [], alts := [], laidByText := true, laidKinds := [.data, .data, .data, .sentinel, .sentinel, .widerDeep], laidTests := true, laidLooks := .later }
def ParseAllCardSaid : Prop := Claim7.holds Tryz.pinned (.plain (OpenSpec.ofChange parseAllSpec)) parseAllCard

/-- THE TIED CARD OF 'elenchuslaw10.ParseOne'. -/
def parseOneCard : Claim7 := { stood := { row := parseOneRow, standIns := [], harness := (true, "4c15c9df1f85cac14640ab9f5370ffcfd55d1d6c6998a49f9a83d7b5e71fcaef"), looks := true }, kinds := [], alts := [], laidByText := true, laidKinds := [.data, .data, .data, .sentinel, .sentinel, .widerDeep], laidTests := true, laidLooks := .later }
def ParseOneCardSaid : Prop := Claim7.holds Tryz.pinned (.plain (OpenSpec.ofChange parseOneSpec)) parseOneCard

/-- THE TIED CARD OF 'elenchuslaw10.ParseBrackets'. -/
def parseBracketsCard : Claim7 := { stood := { row := parseBracketsRow, standIns := [], harness := (true, "4c15c9df1f85cac14640ab9f5370ffcfd55d1d6c6998a49f9a83d7b5e71fcaef"), looks := true }, kinds := [], alts := [], laidByText := true, laidKinds := [.data, .data, .data, .sentinel, .sentinel, .widerDeep], laidTests := true, laidLooks := .later }
def ParseBracketsCardSaid : Prop := Claim7.holds Tryz.pinned (.plain (OpenSpec.ofChange parseBracketsSpec)) parseBracketsCard

/-- THE TIED CARD OF 'elenchuslaw10.ParseBlanks'. -/
def parseBlanksCard : Claim7 := { stood := { row := parseBlanksRow, standIns := [], harness := (true, "4c15c9df1f85cac14640ab9f5370ffcfd55d1d6c6998a49f9a83d7b5e71fcaef"), looks := true }, kinds := [], alts := [], laidByText := true, laidKinds := [.data, .data, .data, .sentinel, .sentinel, .widerDeep], laidTests := true, laidLooks := .later }
def ParseBlanksCardSaid : Prop := Claim7.holds Tryz.pinned (.plain (OpenSpec.ofChange parseBlanksSpec)) parseBlanksCard

/-- THE TIED CARD OF 'elenchuslaw10.ParseJoins'. -/
def parseJoinsCard : Claim7 := { stood := { row := parseJoinsRow, standIns := [], harness := (true, "4c15c9df1f85cac14640ab9f5370ffcfd55d1d6c6998a49f9a83d7b5e71fcaef"), looks := true }, kinds := [], alts := [], laidByText := true, laidKinds := [.data, .data, .data, .sentinel, .sentinel, .widerDeep], laidTests := true, laidLooks := .later }
def ParseJoinsCardSaid : Prop := Claim7.holds Tryz.pinned (.plain (OpenSpec.ofChange parseJoinsSpec)) parseJoinsCard

/-- THE TIED CARD OF 'elenchuslaw11.WriteAll'. -/
def writeAllCard : Claim7 := { stood := { row := writeAllRow, standIns := [], harness := (true, "4c15c9df1f85cac14640ab9f5370ffcfd55d1d6c6998a49f9a83d7b5e71fcaef"), looks := true }, kinds := [], alts := [], laidByText := true, laidKinds := [.data, .data, .data, .sentinel, .sentinel, .widerDeep], laidTests := true, laidLooks := .later }
def WriteAllCardSaid : Prop := Claim7.holds Tryz.pinned (.plain (OpenSpec.ofChange writeAllSpec)) writeAllCard

/-- THE TIED CARD OF 'elenchuslaw11.WriteReads'. -/
def writeReadsCard : Claim7 := { stood := { row := writeReadsRow, standIns := [], harness := (true, "4c15c9df1f85cac14640ab9f5370ffcfd55d1d6c6998a49f9a83d7b5e71fcaef"), looks := true }, kinds := [], alts := [], laidByText := true, laidKinds := [.data, .data, .data, .sentinel, .sentinel, .widerDeep], laidTests := true, laidLooks := .later }
def WriteReadsCardSaid : Prop := Claim7.holds Tryz.pinned (.plain (OpenSpec.ofChange writeReadsSpec)) writeReadsCard

/-- THE SECOND FORM's CARD OF 'elenchuslaw10.ParseClauses'. -/
def parseClausesUptoCard : Claim7 := { stood := { row := parseClausesUptoRow, standIns := [], harness := (true, "4c15c9df1f85cac14640ab9f5370ffcfd55d1d6c6998a49f9a83d7b5e71fcaef"), looks := true }, kinds := [], alts := [], laidByText := true, laidKinds := [.data, .data, .data, .sentinel, .sentinel, .widerDeep], laidTests := true, laidLooks := .later }
def ParseClausesUptoCardSaid : Prop := Claim7.holds Tryz.pinned (.plain (OpenSpec.upto parseClausesSpec)) parseClausesUptoCard

/-- THE SECOND FORM's CARD OF 'elenchuslaw10.ParseAll'. -/
def parseAllUptoCard : Claim7 := { stood := { row := parseAllUptoRow, standIns := [], harness := (true, "4c15c9df1f85cac14640ab9f5370ffcfd55d1d6c6998a49f9a83d7b5e71fcaef"), looks := true }, kinds := [], alts := [], laidByText := true, laidKinds := [.data, .data, .data, .sentinel, .sentinel, .widerDeep], laidTests := true, laidLooks := .later }
def ParseAllUptoCardSaid : Prop := Claim7.holds Tryz.pinned (.plain (OpenSpec.upto parseAllSpec)) parseAllUptoCard

/-- THE SECOND FORM's CARD OF 'elenchuslaw10.ParseOne'. -/
def parseOneUptoCard : Claim7 := { stood := { row := parseOneUptoRow, standIns := [], harness := (true, "4c15c9df1f85cac14640ab9f5370ffcfd55d1d6c6998a49f9a83d7b5e71fcaef"), looks := true }, kinds := [], alts := [], laidByText := true, laidKinds := [.data, .data, .data, .sentinel, .sentinel, .widerDeep], laidTests := true, laidLooks := .later }
def ParseOneUptoCardSaid : Prop := Claim7.holds Tryz.pinned (.plain (OpenSpec.upto parseOneSpec)) parseOneUptoCard

/-- THE SECOND FORM's CARD OF 'elenchuslaw10.ParseBrackets'. -/
def parseBracketsUptoCard : Claim7 := { stood := { row := parseBracketsUptoRow, standIns := [], harness := (true, "4c15c9df1f85cac14640ab9f5370ffcfd55d1d6c6998a49f9a83d7b5e71fcaef"), looks := true }, kinds := [], alts := [], laidByText := true, laidKinds := [.data, .data, .data, .sentinel, .sentinel, .widerDeep], laidTests := true, laidLooks := .later }
def ParseBracketsUptoCardSaid : Prop := Claim7.holds Tryz.pinned (.plain (OpenSpec.upto parseBracketsSpec)) parseBracketsUptoCard

/-- THE SECOND FORM's CARD OF 'elenchuslaw10.ParseBlanks'. -/
def parseBlanksUptoCard : Claim7 := { stood := { row := parseBlanksUptoRow, standIns := [], harness := (true, "4c15c9df1f85cac14640ab9f5370ffcfd55d1d6c6998a49f9a83d7b5e71fcaef"), looks := true }, kinds := [], alts := [], laidByText := true, laidKinds := [.data, .data, .data, .sentinel, .sentinel, .widerDeep], laidTests := true, laidLooks := .later }
def ParseBlanksUptoCardSaid : Prop := Claim7.holds Tryz.pinned (.plain (OpenSpec.upto parseBlanksSpec)) parseBlanksUptoCard

/-- THE SECOND FORM's CARD OF 'elenchuslaw10.ParseJoins'. -/
def parseJoinsUptoCard : Claim7 := { stood := { row := parseJoinsUptoRow, standIns := [], harness := (true, "4c15c9df1f85cac14640ab9f5370ffcfd55d1d6c6998a49f9a83d7b5e71fcaef"), looks := true }, kinds := [], alts := [], laidByText := true, laidKinds := [.data, .data, .data, .sentinel, .sentinel, .widerDeep], laidTests := true, laidLooks := .later }
def ParseJoinsUptoCardSaid : Prop := Claim7.holds Tryz.pinned (.plain (OpenSpec.upto parseJoinsSpec)) parseJoinsUptoCard

/-- THE SECOND FORM's CARD OF 'elenchuslaw11.WriteAll'. -/
def writeAllUptoCard : Claim7 := { stood := { row := writeAllUptoRow, standIns := [], harness := (true, "4c15c9df1f85cac14640ab9f5370ffcfd55d1d6c6998a49f9a83d7b5e71fcaef"), looks := true }, kinds := [], alts := [], laidByText := true, laidKinds := [.data, .data, .data, .sentinel, .sentinel, .widerDeep], laidTests := true, laidLooks := .later }
def WriteAllUptoCardSaid : Prop := Claim7.holds Tryz.pinned (.plain (OpenSpec.upto writeAllSpec)) writeAllUptoCard

/-- THE SECOND FORM's CARD OF 'elenchuslaw11.WriteReads'. -/
def writeReadsUptoCard : Claim7 := { stood := { row := writeReadsUptoRow, standIns := [], harness := (true, "4c15c9df1f85cac14640ab9f5370ffcfd55d1d6c6998a49f9a83d7b5e71fcaef"), looks := true }, kinds := [], alts := [], laidByText := true, laidKinds := [.data, .data, .data, .sentinel, .sentinel, .widerDeep], laidTests := true, laidLooks := .later }
def WriteReadsUptoCardSaid : Prop := Claim7.holds Tryz.pinned (.plain (OpenSpec.upto writeReadsSpec)) writeReadsUptoCard
end Rows
end Go.Proofs.YtgcdhffeacdegaaGreatDoor
