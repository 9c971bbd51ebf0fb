/- The listed table of math/bits, as the walk of FormatUint reads it. -/
import Derived.Test.YtgjdajkkncdhmaaDoorPO1
import Derived.Test.YtgjdajkkncdhmaaDoorPQ3
import Derived.Lib.LaidTab
namespace Go.Proofs.YtgjdajkkncdhmaaDoor
open Go.RowKit Go.El

def tzTab : List Int := [0, 1, 56, 2, 57, 49, 28, 3, 61, 58, 42, 50, 38, 29, 17, 4, 62, 47, 59, 36, 45, 43, 51, 22, 53, 39, 33, 30, 24, 18, 12, 5, 63, 55, 48, 27, 60, 41, 37, 16, 46, 35, 44, 21, 52, 32, 23, 11, 54, 26, 40, 15, 34, 20, 31, 10, 25, 14, 19, 9, 13, 8, 7, 6]
def tzName : String := (Rows.tokenAllRow.laid.drop 1).head?.elim "" (·.1)
theorem tz_list : Rows.tokenAllRow.laid = (Rows.tokenAllRow.laid.take 1) ++ (tzName, Lib.tabData .u8 tzTab) :: Rows.tokenAllRow.laid.drop 2 := by rfl

set_option maxRecDepth 100000 in
theorem tz_of_laid {W : World} (h : laidMetH Tryd.prog Rows.tokenAllRow.laid W) : TzAt W := by
  rw [MakeChecks.laidMetH_plain _ _ _ (by kernel_rfl), tz_list] at h
  obtain ⟨ps, h, _, _⟩ := h
  obtain ⟨qs, h⟩ := laidVars_app h
  obtain ⟨g', t', cs, fuel, p, q, hg', ht', hvar, hd, _, _⟩ := h
  have hg : Tryd.prog.globalNamed tzName = some 5 := by kernel_rfl
  have hty : ((Tryd.prog.globals[5]?).map (·.type)) = some 108 := by kernel_rfl
  obtain rfl := Option.some.inj (hg.symm.trans hg')
  obtain rfl := Option.some.inj (hty.symm.trans ht')
  have hcs := Lib.cells_of_tab Tryd.underlying108 Tryd.underlying5 (by kernel_rfl) (by kernel_rfl) hd
  unfold TzAt
  rw [World.var?_cell hg hvar 15, ← Array.getElem?_toList, hcs]
  rfl

end Go.Proofs.YtgjdajkkncdhmaaDoor
