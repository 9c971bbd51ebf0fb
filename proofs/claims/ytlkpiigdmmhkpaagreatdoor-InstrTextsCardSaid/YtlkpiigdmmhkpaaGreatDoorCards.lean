/-
  DERIVED. GIVEN WITH THE SEED: THE CARDS: each row of YtlkpiigdmmhkpaaGreatDoorRows.lean that lists a variable, with what it lists TIED to the program's text (the seventh form; the later family's looks); each row that meets fmt, with fmt's text TOLD by the authors' own Lean function (tested against real Go, not proved from fmt's source: count such statements apart). THE CARD IS WHAT COUNTS. Prove the row's statement (the work); the ties are given (YtlkpiigdmmhkpaaGreatDoorTie.lean); close each card by the builder's one call (the guide's Derived/Test/ToyasCard.lean, 'card_holds'). Laid BY PROGRAM, IN A SANDBOX (cutbox-door.mjs). By AI agents, Wed Nov 11 2026. No macro, syntax, notation, axiom, sorry.
-/
import Derived.Test.YtlkpiigdmmhkpaaGreatDoorRows
import GoSem.ClaimSeven
namespace Go.Proofs.YtlkpiigdmmhkpaaGreatDoor
namespace Rows

/-- THE TIED CARD OF 'elenchuslaw16.InstrTexts'. -/
def instrTextsCard : Claim7 := { stood := { row := instrTextsRow, standIns := [], harness := (true, "3b34d02b57add0cb47d7434c18878494fa5e2961783db97342cea510f16f1bc7"), looks := true }, kinds := [], alts := [], laidByText := true, laidKinds := [.data, .data, .data, .sentinel, .sentinel, .widerDeep], laidTests := true, laidLooks := .later }
def InstrTextsCardSaid : Prop := Claim7.holds Tryz.pinned (.plain (OpenSpec.ofChange instrTextsSpec)) instrTextsCard

/-- THE TIED CARD OF 'elenchuslaw16.InstrParses'. -/
def instrParsesCard : Claim7 := { stood := { row := instrParsesRow, standIns := [], harness := (true, "3b34d02b57add0cb47d7434c18878494fa5e2961783db97342cea510f16f1bc7"), looks := true }, kinds := [], alts := [], laidByText := true, laidKinds := [.data, .data, .data, .sentinel, .sentinel, .widerDeep], laidTests := true, laidLooks := .later }
def InstrParsesCardSaid : Prop := Claim7.holds Tryz.pinned (.plain (OpenSpec.ofChange instrParsesSpec)) instrParsesCard

/-- THE TIED CARD OF 'elenchuslaw16.InstrCuts'. -/
def instrCutsCard : Claim7 := { stood := { row := instrCutsRow, standIns := [], harness := (true, "3b34d02b57add0cb47d7434c18878494fa5e2961783db97342cea510f16f1bc7"), looks := true }, kinds := [], alts := [], laidByText := true, laidKinds := [.data, .data, .data, .sentinel, .sentinel, .widerDeep], laidTests := true, laidLooks := .later }
def InstrCutsCardSaid : Prop := Claim7.holds Tryz.pinned (.plain (OpenSpec.ofChange instrCutsSpec)) instrCutsCard

/-- THE SECOND FORM's CARD OF 'elenchuslaw16.InstrTexts'. -/
def instrTextsUptoCard : Claim7 := { stood := { row := instrTextsUptoRow, standIns := [], harness := (true, "3b34d02b57add0cb47d7434c18878494fa5e2961783db97342cea510f16f1bc7"), looks := true }, kinds := [], alts := [], laidByText := true, laidKinds := [.data, .data, .data, .sentinel, .sentinel, .widerDeep], laidTests := true, laidLooks := .later }
def InstrTextsUptoCardSaid : Prop := Claim7.holds Tryz.pinned (.plain (OpenSpec.upto instrTextsSpec)) instrTextsUptoCard

/-- THE SECOND FORM's CARD OF 'elenchuslaw16.InstrParses'. -/
def instrParsesUptoCard : Claim7 := { stood := { row := instrParsesUptoRow, standIns := [], harness := (true, "3b34d02b57add0cb47d7434c18878494fa5e2961783db97342cea510f16f1bc7"), looks := true }, kinds := [], alts := [], laidByText := true, laidKinds := [.data, .data, .data, .sentinel, .sentinel, .widerDeep], laidTests := true, laidLooks := .later }
def InstrParsesUptoCardSaid : Prop := Claim7.holds Tryz.pinned (.plain (OpenSpec.upto instrParsesSpec)) instrParsesUptoCard

/-- THE SECOND FORM's CARD OF 'elenchuslaw16.InstrCuts'. -/
def instrCutsUptoCard : Claim7 := { stood := { row := instrCutsUptoRow, standIns := [], harness := (true, "3b34d02b57add0cb47d7434c18878494fa5e2961783db97342cea510f16f1bc7"), looks := true }, kinds := [], alts := [], laidByText := true, laidKinds := [.data, .data, .data, .sentinel, .sentinel, .widerDeep], laidTests := true, laidLooks := .later }
def InstrCutsUptoCardSaid : Prop := Claim7.holds Tryz.pinned (.plain (OpenSpec.upto instrCutsSpec)) instrCutsUptoCard
end Rows
end Go.Proofs.YtlkpiigdmmhkpaaGreatDoor
