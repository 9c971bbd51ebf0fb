/-
  NARROWER THAN 'FOR EVERY INPUT', by the rows' own cells (each row's printed sentence says how): OperDoes: laid · OperSides: laid · OperSets: laid · OperNobody: laid · OperForks: laid.
  DERIVED. THE GIVEN ROWS OF THIS SEAT. 5 by the template 'for every input the law returns true; each argument reads behind the call as it read before'; 0 by the template 'total and deterministic' (their statements: YtckkbghmiomfiaaDoorTotals.lean).
  GIVEN WITH THE SEED: the statements are not yours to turn. If you find one false, say at which input.
  Laid BY PROGRAM, IN A SANDBOX (cutbox-rows.mjs): the forced cells as the released guide's own fill.sh prints them over the translation d0c66464ec82a6d7… (all of the seat's roots in one cut). By AI agents, Wed Nov 11 2026. No macro, syntax, notation, axiom, sorry.
-/
import Derived.Test.YtckkbghmiomfiaaDoorChecked
import GoSem.Claim
import GoSem.ClaimJoined
import GoSem.ClaimMapViews
import Derived.JoinedTies
import Derived.KernelRfl
namespace Go.Proofs.YtckkbghmiomfiaaDoor
/- THE CELL 'sum', in the pinned program and in every row, IS THE sha256 OF THE DUMP (.gsa) THAT YtckkbghmiomfiaaDoorProg.lean LOADS. Nothing in Lean hashes anything: it is a label: what it is worth is what the hold of that sum in a sandbox is worth. -/
noncomputable def Tryd.pinned : Pinned := { name := "ytckkbghmiomfiaadoor", sum := "d0c66464ec82a6d749ca173ad523b3e0f654ca150aa939452c981411fad78d7a", checked := Tryd.checked }
namespace Rows
def none {H : Type} : Left H := { results := [], args := [] }

/- WHAT THE LISTED PACKAGE-LEVEL VARIABLES READ AS WHEN THE CALL BEGINS. Each datum BY PROGRAM (the guide's laid-datum.mjs) off the statement by which the dump's own 'gosem.cut.vars' lays the variable. In a bare row this is a premise. The card (YtckkbghmiomfiaaDoorCards.lean) ties it to the program's text. -/
def laid_elenchus_oper_types {H : Type} : DataW H := .agg [.lit (.string []), .lit (.string [120, 102, 120]), .lit (.string [120, 102, 121]), .lit (.string [121, 102, 120]), .lit (.string [102, 121]), .lit (.string [102, 120])]

/-- 'elenchuslaw09.OperDoes': WHATEVER THE INPUT: true; the input reads as it did. -/
def operDoesSpec : ChangeSpec := { name := "operDoes", fn := fun _ => fun
  | [d] => { results := [.lit (.bool true)], args := [d] }
  | _ => none }
def operDoesRow : OpenClaim := { program := "ytckkbghmiomfiaadoor", sum := "d0c66464ec82a6d749ca173ad523b3e0f654ca150aa939452c981411fad78d7a", func := "elenchus/elenchuslaw09.OperDoes", spec := "operDoes", inPlace := ["internal/bytealg.IndexByteString", "maps.clone"], unfollowed := true, recurses := true, named := ["elenchus/oper.types"], apart := false, laid := [("elenchus/oper.types", laid_elenchus_oper_types)] }
def OperDoesSaid : Prop := operDoesRow.holds Tryd.pinned (OpenSpec.ofChange operDoesSpec)

/-- ITS FALSE NEIGHBOUR: 'it returns false'. Refute it at one input. -/
def operDoesWrong : ChangeSpec := { name := "operDoes", fn := fun _ => fun
  | [d] => { results := [.lit (.bool false)], args := [d] }
  | _ => none }
def OperDoesWrongFalsely : Prop := operDoesRow.holds Tryd.pinned (OpenSpec.ofChange operDoesWrong)

/-- 'elenchuslaw09.OperSides': WHATEVER THE INPUT: true; the input reads as it did. -/
def operSidesSpec : ChangeSpec := { name := "operSides", fn := fun _ => fun
  | [d1, d2] => { results := [.lit (.bool true)], args := [d1, d2] }
  | _ => none }
def operSidesRow : OpenClaim := { program := "ytckkbghmiomfiaadoor", sum := "d0c66464ec82a6d749ca173ad523b3e0f654ca150aa939452c981411fad78d7a", func := "elenchus/elenchuslaw09.OperSides", spec := "operSides", inPlace := ["internal/bytealg.IndexByteString", "maps.clone"], unfollowed := true, recurses := true, named := ["elenchus/oper.types"], apart := false, laid := [("elenchus/oper.types", laid_elenchus_oper_types)] }
def OperSidesSaid : Prop := operSidesRow.holds Tryd.pinned (OpenSpec.ofChange operSidesSpec)

/-- ITS FALSE NEIGHBOUR: 'it returns false'. Refute it at one input. -/
def operSidesWrong : ChangeSpec := { name := "operSides", fn := fun _ => fun
  | [d1, d2] => { results := [.lit (.bool false)], args := [d1, d2] }
  | _ => none }
def OperSidesWrongFalsely : Prop := operSidesRow.holds Tryd.pinned (OpenSpec.ofChange operSidesWrong)

/-- 'elenchuslaw09.OperSets': WHATEVER THE INPUT: true; the input reads as it did. -/
def operSetsSpec : ChangeSpec := { name := "operSets", fn := fun _ => fun
  | [d1, d2] => { results := [.lit (.bool true)], args := [d1, d2] }
  | _ => none }
def operSetsRow : OpenClaim := { program := "ytckkbghmiomfiaadoor", sum := "d0c66464ec82a6d749ca173ad523b3e0f654ca150aa939452c981411fad78d7a", func := "elenchus/elenchuslaw09.OperSets", spec := "operSets", inPlace := ["internal/bytealg.IndexByteString", "maps.clone"], unfollowed := true, recurses := true, named := ["elenchus/oper.types"], apart := false, laid := [("elenchus/oper.types", laid_elenchus_oper_types)] }
def OperSetsSaid : Prop := operSetsRow.holds Tryd.pinned (OpenSpec.ofChange operSetsSpec)

/-- ITS FALSE NEIGHBOUR: 'it returns false'. Refute it at one input. -/
def operSetsWrong : ChangeSpec := { name := "operSets", fn := fun _ => fun
  | [d1, d2] => { results := [.lit (.bool false)], args := [d1, d2] }
  | _ => none }
def OperSetsWrongFalsely : Prop := operSetsRow.holds Tryd.pinned (OpenSpec.ofChange operSetsWrong)

/-- 'elenchuslaw09.OperNobody': WHATEVER THE INPUT: true; the input reads as it did. -/
def operNobodySpec : ChangeSpec := { name := "operNobody", fn := fun _ => fun
  | [d] => { results := [.lit (.bool true)], args := [d] }
  | _ => none }
def operNobodyRow : OpenClaim := { program := "ytckkbghmiomfiaadoor", sum := "d0c66464ec82a6d749ca173ad523b3e0f654ca150aa939452c981411fad78d7a", func := "elenchus/elenchuslaw09.OperNobody", spec := "operNobody", inPlace := ["internal/bytealg.IndexByteString", "maps.clone"], unfollowed := true, recurses := true, named := ["elenchus/oper.types"], apart := false, laid := [("elenchus/oper.types", laid_elenchus_oper_types)] }
def OperNobodySaid : Prop := operNobodyRow.holds Tryd.pinned (OpenSpec.ofChange operNobodySpec)

/-- ITS FALSE NEIGHBOUR: 'it returns false'. Refute it at one input. -/
def operNobodyWrong : ChangeSpec := { name := "operNobody", fn := fun _ => fun
  | [d] => { results := [.lit (.bool false)], args := [d] }
  | _ => none }
def OperNobodyWrongFalsely : Prop := operNobodyRow.holds Tryd.pinned (OpenSpec.ofChange operNobodyWrong)

/-- 'elenchuslaw09.OperForks': WHATEVER THE INPUT: true; the input reads as it did. -/
def operForksSpec : ChangeSpec := { name := "operForks", fn := fun _ => fun
  | [d1, d2] => { results := [.lit (.bool true)], args := [d1, d2] }
  | _ => none }
def operForksRow : OpenClaim := { program := "ytckkbghmiomfiaadoor", sum := "d0c66464ec82a6d749ca173ad523b3e0f654ca150aa939452c981411fad78d7a", func := "elenchus/elenchuslaw09.OperForks", spec := "operForks", inPlace := ["internal/bytealg.IndexByteString", "maps.clone"], unfollowed := true, recurses := true, named := ["elenchus/oper.types"], apart := false, laid := [("elenchus/oper.types", laid_elenchus_oper_types)] }
def OperForksSaid : Prop := operForksRow.holds Tryd.pinned (OpenSpec.ofChange operForksSpec)

/-- ITS FALSE NEIGHBOUR: 'it returns false'. Refute it at one input. -/
def operForksWrong : ChangeSpec := { name := "operForks", fn := fun _ => fun
  | [d1, d2] => { results := [.lit (.bool false)], args := [d1, d2] }
  | _ => none }
def OperForksWrongFalsely : Prop := operForksRow.holds Tryd.pinned (OpenSpec.ofChange operForksWrong)

/- THE SECOND FORM. 'bulk': how many values and letters a reading holds, each counted each time it is reached (what is shared counts as often as it is met; a slice's spare places count too). A statement '..UptoSaid' is the law's where the arguments, and the package variables that the reading takes, are together of bulk at most 1048576: NARROWER than '..Said'. Prove '..Said' where nothing that the law and all that it calls make is longer than what came in: it says more and counts as full. Else prove '..UptoSaid'. A law counts once. -/
mutual
def uptoBulk {H : Type} : DataW H → Nat
  | .lit (.string bytes) => bytes.length + 1
  | .lit _ => 1
  | .nil => 1
  | .ptr d => uptoBulk d + 1
  | .slice elems spare => uptoBulkAll elems + uptoBulkAll spare + 1
  | .agg parts => uptoBulkAll parts + 1
  | .iface _ d => uptoBulk d + 1
  | .map entries => uptoBulkEntries entries + 1
  | .held _ => 1
def uptoBulkAll {H : Type} : List (DataW H) → Nat
  | [] => 0
  | d :: r => uptoBulk d + uptoBulkAll r
def uptoBulkEntries {H : Type} : List (Lit × DataW H) → Nat
  | [] => 0
  | x :: r => uptoBulkEntry x + uptoBulkEntries r
def uptoBulkEntry {H : Type} : Lit × DataW H → Nat
  | (.string bytes, d) => bytes.length + uptoBulk d + 1
  | (_, d) => uptoBulk d + 1
 end
def uptoSmall : (H : Type) → List (DataW H) → Bool := fun _ ds => decide (uptoBulkAll ds ≤ 1048576)
def OpenSpec.upto (s : _root_.Go.ChangeSpec) : _root_.Go.OpenSpec := { _root_.Go.OpenSpec.ofChange s with cond := some uptoSmall }

/-- 'elenchuslaw09.OperDoes', WHERE WHAT IT READS IS OF BULK AT MOST 1048576: true; the input reads as it did. -/
def operDoesUptoRow : OpenClaim := { program := "ytckkbghmiomfiaadoor", sum := "d0c66464ec82a6d749ca173ad523b3e0f654ca150aa939452c981411fad78d7a", func := "elenchus/elenchuslaw09.OperDoes", spec := "operDoes", inPlace := ["internal/bytealg.IndexByteString", "maps.clone"], unfollowed := true, recurses := true, named := ["elenchus/oper.types"], apart := false, laid := [("elenchus/oper.types", laid_elenchus_oper_types)], narrowed := true }
def OperDoesUptoSaid : Prop := operDoesUptoRow.holds Tryd.pinned (OpenSpec.upto operDoesSpec)

/-- 'elenchuslaw09.OperSides', WHERE WHAT IT READS IS OF BULK AT MOST 1048576: true; the input reads as it did. -/
def operSidesUptoRow : OpenClaim := { program := "ytckkbghmiomfiaadoor", sum := "d0c66464ec82a6d749ca173ad523b3e0f654ca150aa939452c981411fad78d7a", func := "elenchus/elenchuslaw09.OperSides", spec := "operSides", inPlace := ["internal/bytealg.IndexByteString", "maps.clone"], unfollowed := true, recurses := true, named := ["elenchus/oper.types"], apart := false, laid := [("elenchus/oper.types", laid_elenchus_oper_types)], narrowed := true }
def OperSidesUptoSaid : Prop := operSidesUptoRow.holds Tryd.pinned (OpenSpec.upto operSidesSpec)

/-- 'elenchuslaw09.OperSets', WHERE WHAT IT READS IS OF BULK AT MOST 1048576: true; the input reads as it did. -/
def operSetsUptoRow : OpenClaim := { program := "ytckkbghmiomfiaadoor", sum := "d0c66464ec82a6d749ca173ad523b3e0f654ca150aa939452c981411fad78d7a", func := "elenchus/elenchuslaw09.OperSets", spec := "operSets", inPlace := ["internal/bytealg.IndexByteString", "maps.clone"], unfollowed := true, recurses := true, named := ["elenchus/oper.types"], apart := false, laid := [("elenchus/oper.types", laid_elenchus_oper_types)], narrowed := true }
def OperSetsUptoSaid : Prop := operSetsUptoRow.holds Tryd.pinned (OpenSpec.upto operSetsSpec)

/-- 'elenchuslaw09.OperNobody', WHERE WHAT IT READS IS OF BULK AT MOST 1048576: true; the input reads as it did. -/
def operNobodyUptoRow : OpenClaim := { program := "ytckkbghmiomfiaadoor", sum := "d0c66464ec82a6d749ca173ad523b3e0f654ca150aa939452c981411fad78d7a", func := "elenchus/elenchuslaw09.OperNobody", spec := "operNobody", inPlace := ["internal/bytealg.IndexByteString", "maps.clone"], unfollowed := true, recurses := true, named := ["elenchus/oper.types"], apart := false, laid := [("elenchus/oper.types", laid_elenchus_oper_types)], narrowed := true }
def OperNobodyUptoSaid : Prop := operNobodyUptoRow.holds Tryd.pinned (OpenSpec.upto operNobodySpec)

/-- 'elenchuslaw09.OperForks', WHERE WHAT IT READS IS OF BULK AT MOST 1048576: true; the input reads as it did. -/
def operForksUptoRow : OpenClaim := { program := "ytckkbghmiomfiaadoor", sum := "d0c66464ec82a6d749ca173ad523b3e0f654ca150aa939452c981411fad78d7a", func := "elenchus/elenchuslaw09.OperForks", spec := "operForks", inPlace := ["internal/bytealg.IndexByteString", "maps.clone"], unfollowed := true, recurses := true, named := ["elenchus/oper.types"], apart := false, laid := [("elenchus/oper.types", laid_elenchus_oper_types)], narrowed := true }
def OperForksUptoSaid : Prop := operForksUptoRow.holds Tryd.pinned (OpenSpec.upto operForksSpec)

end Rows
end Go.Proofs.YtckkbghmiomfiaaDoor
