/- Layer 9: what all the rows of this seat have in common: the table of types as it is listed, a start. -/
import Derived.Test.YtckkbghmiomfiaaDoorOpen
import Derived.Test.YtckkbghmiomfiaaDoorCards
import Derived.Test.YtckkbghmiomfiaaDoorTie
import Derived.Test.YtckkbghmiomfiaaDoorLives
namespace Go.Proofs.YtckkbghmiomfiaaDoor
open Go.RowKit Go.El Go.ChangeShapes Go.WideShapes Go.ChangeAt Go.Joins

theorem own : ownKnob Tryd.prog.godebug = none := by kernel_rfl
theorem laidOut : laidOutB Tryd.prog = true := by kernel_rfl
/-- The listed variable. -/
def tyName : String := Rows.operNobodyRow.named.headD ""
theorem gTypes : Tryd.prog.globalNamed tyName = some 0 := by kernel_rfl
theorem gTypesType : ((Tryd.prog.globals[0]?).map (·.type)) = some 72 := by kernel_rfl
theorem cellsStr : Tryd.prog.cellsOf 9 = 1 := by kernel_rfl
theorem cellsSix : Tryd.prog.cellsOf 72 = 6 := by kernel_rfl

theorem types_of_laid {W : World} (h : laidMetH Tryd.prog [(tyName, Rows.laid_elenchus_oper_types)] W) : TypesAt 0 W := by
  have := strs_of_laid (ls := [[], [120, 102, 120], [120, 102, 121], [121, 102, 120], [102, 121], [102, 120]]) (rest := []) gTypes gTypesType Tryd.underlying72 Tryd.underlying9 cellsStr cellsSix h
  exact ⟨this 0 _ rfl, this 1 _ rfl, this 2 _ rfl, this 3 _ rfl, this 4 _ rfl, this 5 _ rfl⟩

noncomputable def laidWorld (os : Os) : World :=
  { World.holding Tryd.prog os ⟨#[], #[], []⟩ with heap := (World.holding Tryd.prog os ⟨#[], #[], []⟩).heap.modify 0 fun
      | .cells _ t frozen => .cells #[.string ⟨#[]⟩, .string ⟨#[120, 102, 120]⟩, .string ⟨#[120, 102, 121]⟩, .string ⟨#[121, 102, 120]⟩, .string ⟨#[102, 121]⟩, .string ⟨#[102, 120]⟩] t frozen
      | o => o }

theorem laid_met (os : Os) (args : Array Value) : laidMet Tryd.prog [(tyName, Rows.laid_elenchus_oper_types)] ((laidWorld os).forCall (fun _ _ => 0) ⟨#[], args, []⟩).memory :=
  laidMet_of_run' 8 (by kernel_rfl) (by kernel_rfl)

theorem cellsOp : Tryd.prog.cellsOf 32 = 3 := by kernel_rfl

theorem cellsInt : Tryd.prog.cellsOf 3 = 1 := by kernel_rfl
theorem cellsLawOp : Tryd.prog.cellsOf 34 = 5 := by kernel_rfl
theorem opType : OpType Tryd.prog 32 3 9 := ⟨⟨_, _, _, Tryd.underlying32, rfl, rfl, rfl, rfl, rfl, rfl⟩, Tryd.underlying3, Tryd.underlying9, cellsOp, cellsInt, cellsStr⟩
theorem callType : CallType Tryd.prog 34 32 3 9 := ⟨opType, ⟨_, _, _, Tryd.underlying34, rfl, rfl, rfl, rfl, rfl, rfl⟩, cellsLawOp⟩

end Go.Proofs.YtckkbghmiomfiaaDoor
