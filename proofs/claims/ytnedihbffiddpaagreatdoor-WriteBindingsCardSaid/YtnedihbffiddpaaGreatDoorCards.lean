/-
  DERIVED. GIVEN WITH THE SEED: THE CARDS: each row of YtnedihbffiddpaaGreatDoorRows.lean that lists a variable, with what it lists TIED to the program's text (the seventh form; the later family's looks); each row that meets fmt, with fmt's text TOLD by the authors' own Lean function (tested against real Go, not proved from fmt's source: count such statements apart). THE CARD IS WHAT COUNTS. Prove the row's statement (the work); the ties are given (YtnedihbffiddpaaGreatDoorTie.lean); close each card by the builder's one call (the guide's Derived/Test/ToyasCard.lean, 'card_holds'). Laid BY PROGRAM, IN A SANDBOX (cutbox-door.mjs). By AI agents, Wed Nov 11 2026. No macro, syntax, notation, axiom, sorry.
-/
import Derived.Test.YtnedihbffiddpaaGreatDoorRows
import GoSem.ClaimSeven
namespace Go.Proofs.YtnedihbffiddpaaGreatDoor
namespace Rows

/-- THE TIED CARD OF 'elenchuslaw11.WriteBindings'. -/
def writeBindingsCard : Claim7 := { stood := { row := writeBindingsRow, standIns := [], harness := (true, "ef5b239515b43861cd7cc8b86505b9f90b0d4c1cf3b97a2505de9145e136bc30"), looks := false }, kinds := [], alts := [], laidByText := true, laidKinds := [.data, .data, .data, .widerDeep], laidTests := true, laidLooks := .later }
def WriteBindingsCardSaid : Prop := Claim7.holds Tryz.pinned (.plain (OpenSpec.ofChange writeBindingsSpec)) writeBindingsCard

/-- THE TIED CARD OF 'elenchuslaw11.WriteTexts'. -/
def writeTextsCard : Claim7 := { stood := { row := writeTextsRow, standIns := [], harness := (true, "ef5b239515b43861cd7cc8b86505b9f90b0d4c1cf3b97a2505de9145e136bc30"), looks := false }, kinds := [], alts := [], laidByText := true, laidKinds := [.data, .data, .data, .widerDeep], laidTests := true, laidLooks := .later }
def WriteTextsCardSaid : Prop := Claim7.holds Tryz.pinned (.plain (OpenSpec.ofChange writeTextsSpec)) writeTextsCard

/-- THE SECOND FORM's CARD OF 'elenchuslaw11.WriteBindings'. -/
def writeBindingsUptoCard : Claim7 := { stood := { row := writeBindingsUptoRow, standIns := [], harness := (true, "ef5b239515b43861cd7cc8b86505b9f90b0d4c1cf3b97a2505de9145e136bc30"), looks := false }, kinds := [], alts := [], laidByText := true, laidKinds := [.data, .data, .data, .widerDeep], laidTests := true, laidLooks := .later }
def WriteBindingsUptoCardSaid : Prop := Claim7.holds Tryz.pinned (.plain (OpenSpec.upto writeBindingsSpec)) writeBindingsUptoCard

/-- THE SECOND FORM's CARD OF 'elenchuslaw11.WriteTexts'. -/
def writeTextsUptoCard : Claim7 := { stood := { row := writeTextsUptoRow, standIns := [], harness := (true, "ef5b239515b43861cd7cc8b86505b9f90b0d4c1cf3b97a2505de9145e136bc30"), looks := false }, kinds := [], alts := [], laidByText := true, laidKinds := [.data, .data, .data, .widerDeep], laidTests := true, laidLooks := .later }
def WriteTextsUptoCardSaid : Prop := Claim7.holds Tryz.pinned (.plain (OpenSpec.upto writeTextsSpec)) writeTextsUptoCard
end Rows
end Go.Proofs.YtnedihbffiddpaaGreatDoor
