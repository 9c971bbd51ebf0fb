/- Closed facts: what is taken in place. -/
import Derived.Test.YtofccjfkjamehaaGreatDoorC26
namespace Go.Proofs.YtofccjfkjamehaaGreatDoor
set_option maxRecDepth 100000 in
theorem f_inpl : Tryz.prog.inPlace 3 = Rows.modelNobodyRow.inPlace := by kernel_rfl
end Go.Proofs.YtofccjfkjamehaaGreatDoor
