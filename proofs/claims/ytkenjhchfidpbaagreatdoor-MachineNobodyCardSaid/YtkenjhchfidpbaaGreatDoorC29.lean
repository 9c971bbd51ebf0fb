/- Closed facts: what is taken in place. -/
import Derived.Test.YtkenjhchfidpbaaGreatDoorC27
import Derived.Test.YtkenjhchfidpbaaGreatDoorCards
namespace Go.Proofs.YtkenjhchfidpbaaGreatDoor
set_option maxRecDepth 100000 in
theorem f_inpl : Tryz.prog.inPlace 3 = Rows.machineNobodyRow.inPlace := by kernel_rfl
end Go.Proofs.YtkenjhchfidpbaaGreatDoor
