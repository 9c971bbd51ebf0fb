/- Closed facts: how types are laid out. -/
import Derived.Test.YtkenjhchfidpbaaGreatDoorC27
import Derived.Test.YtkenjhchfidpbaaGreatDoorCards
namespace Go.Proofs.YtkenjhchfidpbaaGreatDoor
theorem f_laid : laidOutB Tryz.prog = true := by kernel_rfl
theorem f_maps : mapsRowed Tryz.prog = true := by kernel_rfl
end Go.Proofs.YtkenjhchfidpbaaGreatDoor
