/- Closed facts: who is called. -/
import Derived.Test.YtofccjfkjamehaaGreatDoorC25
import Derived.Test.YtofccjfkjamehaaGreatDoorCards
namespace Go.Proofs.YtofccjfkjamehaaGreatDoor
set_option maxRecDepth 100000 in
theorem f_unf : Tryz.prog.unfollowed 3 = true := by kernel_rfl
end Go.Proofs.YtofccjfkjamehaaGreatDoor
