/-
  DERIVED. GIVEN WITH THE SEED: THE CARDS: each row of YtofccjfkjamehaaGreatDoorRows.lean that lists a variable, with what it lists TIED to the program's text (the seventh form; the later family's looks); each row that meets fmt, with fmt's text TOLD by the authors' own Lean function (tested against real Go, not proved from fmt's source: count such statements apart). THE CARD IS WHAT COUNTS. Prove the row's statement (the work); the ties are given (YtofccjfkjamehaaGreatDoorTie.lean); close each card by the builder's one call (the guide's Derived/Test/ToyasCard.lean, 'card_holds'). Laid BY PROGRAM, IN A SANDBOX (cutbox-door.mjs). By AI agents, Wed Nov 11 2026. No macro, syntax, notation, axiom, sorry.
-/
import Derived.Test.YtofccjfkjamehaaGreatDoorRows
import GoSem.ClaimSeven
namespace Go.Proofs.YtofccjfkjamehaaGreatDoor
namespace Rows

/-- THE TIED CARD OF 'elenchuslaw23.ModelNobody'. -/
def modelNobodyCard : Claim7 := { stood := { row := modelNobodyRow, standIns := [], harness := (true, "2beda07595c08862985cc80cee16bd56e2580d1766fc76036d632c8cc121450f"), looks := false }, kinds := [], alts := [], laidByText := true, laidKinds := [.data, .data, .data, .widerDeep], laidTests := true, laidLooks := .later }
def ModelNobodyCardSaid : Prop := Claim7.holds Tryz.pinned (.plain (OpenSpec.ofChange modelNobodySpec)) modelNobodyCard

/-- THE SECOND FORM's CARD OF 'elenchuslaw23.ModelNobody'. -/
def modelNobodyUptoCard : Claim7 := { stood := { row := modelNobodyUptoRow, standIns := [], harness := (true, "2beda07595c08862985cc80cee16bd56e2580d1766fc76036d632c8cc121450f"), looks := false }, kinds := [], alts := [], laidByText := true, laidKinds := [.data, .data, .data, .widerDeep], laidTests := true, laidLooks := .later }
def ModelNobodyUptoCardSaid : Prop := Claim7.holds Tryz.pinned (.plain (OpenSpec.upto modelNobodySpec)) modelNobodyUptoCard
end Rows
end Go.Proofs.YtofccjfkjamehaaGreatDoor
