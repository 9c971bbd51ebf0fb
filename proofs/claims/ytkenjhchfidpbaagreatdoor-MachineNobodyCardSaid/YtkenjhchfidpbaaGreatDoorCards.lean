/-
  DERIVED. GIVEN WITH THE SEED: THE CARDS: each row of YtkenjhchfidpbaaGreatDoorRows.lean that lists a variable, with what it lists TIED to the program's text (the seventh form; the later family's looks); each row that meets fmt, with fmt's text TOLD by the authors' own Lean function (tested against real Go, not proved from fmt's source: count such statements apart). THE CARD IS WHAT COUNTS. Prove the row's statement (the work); the ties are given (YtkenjhchfidpbaaGreatDoorTie.lean); close each card by the builder's one call (the guide's Derived/Test/ToyasCard.lean, 'card_holds'). Laid BY PROGRAM, IN A SANDBOX (cutbox-door.mjs). By AI agents, Wed Nov 11 2026. No macro, syntax, notation, axiom, sorry.
-/
import Derived.Test.YtkenjhchfidpbaaGreatDoorRows
import GoSem.ClaimSeven
namespace Go.Proofs.YtkenjhchfidpbaaGreatDoor
namespace Rows

/-- THE TIED CARD OF 'elenchuslaw24.MachineNobody'. -/
def machineNobodyCard : Claim7 := { stood := { row := machineNobodyRow, standIns := [], harness := (true, "875c8aff655b1ae69fc28ec2dbc596061f11c7e7323f3fc4ab5b54d7c5f83284"), looks := false }, kinds := [], alts := [], laidByText := true, laidKinds := [.data, .data, .data, .widerDeep], laidTests := true, laidLooks := .later }
def MachineNobodyCardSaid : Prop := Claim7.holds Tryz.pinned (.plain (OpenSpec.ofChange machineNobodySpec)) machineNobodyCard

/-- THE SECOND FORM's CARD OF 'elenchuslaw24.MachineNobody'. -/
def machineNobodyUptoCard : Claim7 := { stood := { row := machineNobodyUptoRow, standIns := [], harness := (true, "875c8aff655b1ae69fc28ec2dbc596061f11c7e7323f3fc4ab5b54d7c5f83284"), looks := false }, kinds := [], alts := [], laidByText := true, laidKinds := [.data, .data, .data, .widerDeep], laidTests := true, laidLooks := .later }
def MachineNobodyUptoCardSaid : Prop := Claim7.holds Tryz.pinned (.plain (OpenSpec.upto machineNobodySpec)) machineNobodyUptoCard
end Rows
end Go.Proofs.YtkenjhchfidpbaaGreatDoor
