/- Closed facts: who is called. -/
import Derived.Test.YtkenjhchfidpbaaGreatDoorC27
import Derived.Test.YtkenjhchfidpbaaGreatDoorCards
namespace Go.Proofs.YtkenjhchfidpbaaGreatDoor
set_option maxRecDepth 100000 in
theorem f_unf : Tryz.prog.unfollowed 3 = true := by kernel_rfl
end Go.Proofs.YtkenjhchfidpbaaGreatDoor
