/-
  DERIVED. GIVEN WITH THE SEED: THE CARDS: each row of YtmnnhdegoapfcaaGreatDoorRows.lean that lists a variable, with what it lists TIED to the program's text (the seventh form; the later family's looks); each row that meets fmt, with fmt's text TOLD by the authors' own Lean function (tested against real Go, not proved from fmt's source: count such statements apart). THE CARD IS WHAT COUNTS. Prove the row's statement (the work); the ties are given (YtmnnhdegoapfcaaGreatDoorTie.lean); close each card by the builder's one call (the guide's Derived/Test/ToyasCard.lean, 'card_holds'). Laid BY PROGRAM, IN A SANDBOX (cutbox-door.mjs). By AI agents, Wed Nov 11 2026. No macro, syntax, notation, axiom, sorry.
-/
import Derived.Test.YtmnnhdegoapfcaaGreatDoorRows
import GoSem.ClaimSeven
namespace Go.Proofs.YtmnnhdegoapfcaaGreatDoor
namespace Rows

/-- THE TIED CARD OF 'elenchuslaw17.EmitLists'. -/
def emitListsCard : Claim7 := { stood := { row := emitListsRow, standIns := [], harness := (true, "7badea9894d546e7cb69c5815972cb34675662dfb2345cd56c80d59da7ff7a3e"), looks := true }, kinds := [], alts := [], laidByText := true, laidKinds := [.data, .data, .data, .widerDeep], laidTests := true, laidLooks := .later }
def EmitListsCardSaid : Prop := Claim7.holds Tryz.pinned (.plain (OpenSpec.ofChange emitListsSpec)) emitListsCard

/-- THE TIED CARD OF 'elenchuslaw17.EmitCalls'. -/
def emitCallsCard : Claim7 := { stood := { row := emitCallsRow, standIns := [], harness := (true, "7badea9894d546e7cb69c5815972cb34675662dfb2345cd56c80d59da7ff7a3e"), looks := true }, kinds := [], alts := [], laidByText := true, laidKinds := [.data, .data, .data, .widerDeep], laidTests := true, laidLooks := .later }
def EmitCallsCardSaid : Prop := Claim7.holds Tryz.pinned (.plain (OpenSpec.ofChange emitCallsSpec)) emitCallsCard

/-- THE TIED CARD OF 'elenchuslaw17.EmitNames'. -/
def emitNamesCard : Claim7 := { stood := { row := emitNamesRow, standIns := [], harness := (true, "7badea9894d546e7cb69c5815972cb34675662dfb2345cd56c80d59da7ff7a3e"), looks := true }, kinds := [], alts := [], laidByText := true, laidKinds := [.data, .data, .data, .widerDeep], laidTests := true, laidLooks := .later }
def EmitNamesCardSaid : Prop := Claim7.holds Tryz.pinned (.plain (OpenSpec.ofChange emitNamesSpec)) emitNamesCard

/-- THE TIED CARD OF 'elenchuslaw17.EmitRight'. -/
def emitRightCard : Claim7 := { stood := { row := emitRightRow, standIns := [], harness := (true, "7badea9894d546e7cb69c5815972cb34675662dfb2345cd56c80d59da7ff7a3e"), looks := true }, kinds := [], alts := [], laidByText := true, laidKinds := [.data, .data, .data, .widerDeep], laidTests := true, laidLooks := .later }
def EmitRightCardSaid : Prop := Claim7.holds Tryz.pinned (.plain (OpenSpec.ofChange emitRightSpec)) emitRightCard

/-- THE TIED CARD OF 'elenchuslaw16.InstrParses'. -/
def instrParsesCard : Claim7 := { stood := { row := instrParsesRow, standIns := [], harness := (true, "7badea9894d546e7cb69c5815972cb34675662dfb2345cd56c80d59da7ff7a3e"), looks := true }, kinds := [], alts := [], laidByText := true, laidKinds := [.data, .data, .data, .sentinel, .sentinel, .widerDeep], laidTests := true, laidLooks := .later }
def InstrParsesCardSaid : Prop := Claim7.holds Tryz.pinned (.plain (OpenSpec.ofChange instrParsesSpec)) instrParsesCard

/-- THE SECOND FORM's CARD OF 'elenchuslaw17.EmitLists'. -/
def emitListsUptoCard : Claim7 := { stood := { row := emitListsUptoRow, standIns := [], harness := (true, "7badea9894d546e7cb69c5815972cb34675662dfb2345cd56c80d59da7ff7a3e"), looks := true }, kinds := [], alts := [], laidByText := true, laidKinds := [.data, .data, .data, .widerDeep], laidTests := true, laidLooks := .later }
def EmitListsUptoCardSaid : Prop := Claim7.holds Tryz.pinned (.plain (OpenSpec.upto emitListsSpec)) emitListsUptoCard

/-- THE SECOND FORM's CARD OF 'elenchuslaw17.EmitCalls'. -/
def emitCallsUptoCard : Claim7 := { stood := { row := emitCallsUptoRow, standIns := [], harness := (true, "7badea9894d546e7cb69c5815972cb34675662dfb2345cd56c80d59da7ff7a3e"), looks := true }, kinds := [], alts := [], laidByText := true, laidKinds := [.data, .data, .data, .widerDeep], laidTests := true, laidLooks := .later }
def EmitCallsUptoCardSaid : Prop := Claim7.holds Tryz.pinned (.plain (OpenSpec.upto emitCallsSpec)) emitCallsUptoCard

/-- THE SECOND FORM's CARD OF 'elenchuslaw17.EmitNames'. -/
def emitNamesUptoCard : Claim7 := { stood := { row := emitNamesUptoRow, standIns := [], harness := (true, "7badea9894d546e7cb69c5815972cb34675662dfb2345cd56c80d59da7ff7a3e"), looks := true }, kinds := [], alts := [], laidByText := true, laidKinds := [.data, .data, .data, .widerDeep], laidTests := true, laidLooks := .later }
def EmitNamesUptoCardSaid : Prop := Claim7.holds Tryz.pinned (.plain (OpenSpec.upto emitNamesSpec)) emitNamesUptoCard

/-- THE SECOND FORM's CARD OF 'elenchuslaw17.EmitRight'. -/
def emitRightUptoCard : Claim7 := { stood := { row := emitRightUptoRow, standIns := [], harness := (true, "7badea9894d546e7cb69c5815972cb34675662dfb2345cd56c80d59da7ff7a3e"), looks := true }, kinds := [], alts := [], laidByText := true, laidKinds := [.data, .data, .data, .widerDeep], laidTests := true, laidLooks := .later }
def EmitRightUptoCardSaid : Prop := Claim7.holds Tryz.pinned (.plain (OpenSpec.upto emitRightSpec)) emitRightUptoCard

/-- THE SECOND FORM's CARD OF 'elenchuslaw16.InstrParses'. -/
def instrParsesUptoCard : Claim7 := { stood := { row := instrParsesUptoRow, standIns := [], harness := (true, "7badea9894d546e7cb69c5815972cb34675662dfb2345cd56c80d59da7ff7a3e"), looks := true }, kinds := [], alts := [], laidByText := true, laidKinds := [.data, .data, .data, .sentinel, .sentinel, .widerDeep], laidTests := true, laidLooks := .later }
def InstrParsesUptoCardSaid : Prop := Claim7.holds Tryz.pinned (.plain (OpenSpec.upto instrParsesSpec)) instrParsesUptoCard
end Rows
end Go.Proofs.YtmnnhdegoapfcaaGreatDoor
