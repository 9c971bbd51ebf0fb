/- Closed facts: all together; no body starts a goroutine. -/
import Derived.Test.YtkenjhchfidpbaaGreatDoorC28
import Derived.Test.YtkenjhchfidpbaaGreatDoorC29
import Derived.Test.YtkenjhchfidpbaaGreatDoorC30
import Derived.Test.YtkenjhchfidpbaaGreatDoorC31
namespace Go.Proofs.YtkenjhchfidpbaaGreatDoor
theorem f_goes : Tryz.prog.funcs.toList.any Func.goes = false := by kernel_rfl
theorem f_looks : Tryz.prog.looks [] = false := by kernel_rfl
theorem f_joined : joinedFacts Tryz.prog 3 Tryz.f3 (OpenSpec.ofChange Rows.machineNobodySpec).bare Rows.machineNobodyRow = true := by
  unfold joinedFacts
  rw [f_laid, f_maps, f_inpl, recurses_of f_unf, f_unf, f_vars]
  kernel_rfl
end Go.Proofs.YtkenjhchfidpbaaGreatDoor
