/- Closed facts: how types are laid out. -/
import Derived.Test.YtofccjfkjamehaaGreatDoorC28
namespace Go.Proofs.YtofccjfkjamehaaGreatDoor
theorem f_laid : laidOutB Tryz.prog = true := by kernel_rfl
theorem f_maps : mapsRowed Tryz.prog = true := by kernel_rfl
end Go.Proofs.YtofccjfkjamehaaGreatDoor
