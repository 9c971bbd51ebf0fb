/- Closed facts: which variables are named. -/
import Derived.Test.YtofccjfkjamehaaGreatDoorC27
namespace Go.Proofs.YtofccjfkjamehaaGreatDoor
set_option maxRecDepth 100000 in
theorem f_vars : Tryz.prog.varsNamed 3 = Rows.modelNobodyRow.named := by kernel_rfl
end Go.Proofs.YtofccjfkjamehaaGreatDoor
