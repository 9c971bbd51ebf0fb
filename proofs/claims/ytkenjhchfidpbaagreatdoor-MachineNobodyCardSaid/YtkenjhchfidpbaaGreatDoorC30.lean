/- Closed facts: which variables are named. -/
import Derived.Test.YtkenjhchfidpbaaGreatDoorC27
import Derived.Test.YtkenjhchfidpbaaGreatDoorCards
namespace Go.Proofs.YtkenjhchfidpbaaGreatDoor
set_option maxRecDepth 100000 in
theorem f_vars : Tryz.prog.varsNamed 3 = Rows.machineNobodyRow.named := by kernel_rfl
end Go.Proofs.YtkenjhchfidpbaaGreatDoor
