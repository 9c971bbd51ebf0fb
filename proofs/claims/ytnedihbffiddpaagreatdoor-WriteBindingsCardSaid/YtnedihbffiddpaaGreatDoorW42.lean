/- What the rows of this seat have in common: the listed variables; a start; terms that come in. -/
import Derived.Test.YtnedihbffiddpaaGreatDoorW41
import Derived.Test.YtnedihbffiddpaaGreatDoorW12
import Derived.Test.YtnedihbffiddpaaGreatDoorCards
import Derived.Test.YtnedihbffiddpaaGreatDoorTie
import Derived.Lay
import Derived.Lib.LaidTab
import Derived.MakeChecks
namespace Go.Proofs.YtnedihbffiddpaaGreatDoor
open Go.RowKit Go.El Go.ChangeShapes Go.WideShapes Go.ChangeAt Go.Joins

theorem own : ownKnob Tryz.prog.godebug = none := by kernel_rfl
theorem laidOut : laidOutB Tryz.prog = true := by kernel_rfl
theorem tmType : TmType Tryz.prog 27 23 3 9 := ⟨⟨_, _, _, _, Tryz.underlying27, rfl, rfl, rfl, rfl, rfl, rfl, rfl, rfl⟩, Tryz.underlying3, Tryz.underlying9, Tryz.underlying23, by kernel_rfl, by kernel_rfl, by kernel_rfl, by kernel_rfl⟩

def laidL : List (String × DataW Unit) := Rows.writeTextsRow.laid
def tzTab : List Int := [0, 1, 56, 2, 57, 49, 28, 3, 61, 58, 42, 50, 38, 29, 17, 4, 62, 47, 59, 36, 45, 43, 51, 22, 53, 39, 33, 30, 24, 18, 12, 5, 63, 55, 48, 27, 60, 41, 37, 16, 46, 35, 44, 21, 52, 32, 23, 11, 54, 26, 40, 15, 34, 20, 31, 10, 25, 14, 19, 9, 13, 8, 7, 6]
def tzName : String := (laidL.drop 1).head?.elim "" (·.1)
def p10Name : String := (laidL.drop 2).head?.elim "" (·.1)
def tyName : String := (laidL.drop 3).head?.elim "" (·.1)
theorem tz_list : laidL = (laidL.take 1) ++ (tzName, Lib.tabData .u8 tzTab) :: laidL.drop 2 := by rfl
theorem p10_list : laidL = (laidL.take 2) ++ (p10Name, Lib.tabData .u64 Lib.pow10Tab) :: laidL.drop 3 := by rfl
theorem ty_list : laidL = (laidL.take 3) ++ (tyName, .agg (([[], [120, 102, 120], [120, 102, 121], [121, 102, 120], [102, 121], [102, 120]] : List (List UInt8)).map fun l => .lit (.string l))) :: laidL.drop 4 := by rfl

theorem laidVars_app {P : Program} {w : World} : ∀ {a b : List (String × DataW Unit)} {ps : List MemPlace}, DataW.LaidVars P w (a ++ b) ps → ∃ qs, DataW.LaidVars P w b qs
  | [], _, ps, h => ⟨ps, h⟩
  | (_, _) :: _, _, _, ⟨_, _, _, _, _, _, _, _, _, _, h, _⟩ => laidVars_app h

set_option maxRecDepth 100000 in
theorem tz_of_laid {W : World} (h : laidMetH Tryz.prog laidL W) : TzAt W := by
  rw [MakeChecks.laidMetH_plain _ _ _ (by kernel_rfl), tz_list] at h
  obtain ⟨ps, h, _, _⟩ := h
  obtain ⟨qs, h⟩ := laidVars_app h
  obtain ⟨g', t', cs, fuel, p, q, hg', ht', hvar, hd, _, _⟩ := h
  have hg : Tryz.prog.globalNamed tzName = some 4 := by kernel_rfl
  have hty : ((Tryz.prog.globals[4]?).map (·.type)) = some 144 := by kernel_rfl
  obtain rfl := Option.some.inj (hg.symm.trans hg')
  obtain rfl := Option.some.inj (hty.symm.trans ht')
  have hcs := Lib.cells_of_tab Tryz.underlying144 Tryz.underlying5 (by kernel_rfl) (by kernel_rfl) hd
  unfold TzAt
  rw [World.var?_cell hg hvar 15, ← Array.getElem?_toList, hcs]
  rfl
set_option maxRecDepth 100000 in
theorem p10_of_laid {W : World} (h : laidMetH Tryz.prog laidL W) : Lib.TabIs Tryz.prog W pwName .u64 Lib.pow10Tab := by
  rw [MakeChecks.laidMetH_plain _ _ _ (by kernel_rfl), p10_list] at h
  obtain ⟨ps, h, _, _⟩ := h
  obtain ⟨qs, h⟩ := laidVars_app h
  obtain ⟨g', t', cs, fuel, p, q, hg', ht', hvar, hd, _, _⟩ := h
  have hg : Tryz.prog.globalNamed p10Name = some 1 := by kernel_rfl
  have hty : ((Tryz.prog.globals[1]?).map (·.type)) = some 137 := by kernel_rfl
  obtain rfl := Option.some.inj (hg.symm.trans hg')
  obtain rfl := Option.some.inj (hty.symm.trans ht')
  have hcs := Lib.cells_of_tab Tryz.underlying137 Tryz.underlying125 (by kernel_rfl) (by kernel_rfl) hd
  have hnm : p10Name = pwName := by kernel_rfl
  rw [← hnm]
  unfold Lib.TabIs
  rw [hvar]
  congr 1
  exact Array.ext' hcs
set_option maxRecDepth 100000 in
theorem ty_of_laid {W : World} (h : laidMetH Tryz.prog laidL W) : TypesAt 0 W := by
  rw [MakeChecks.laidMetH_plain _ _ _ (by kernel_rfl), ty_list] at h
  obtain ⟨ps, h, _, _⟩ := h
  obtain ⟨qs, h⟩ := laidVars_app h
  obtain ⟨g', t', cs, fuel, p, q, hg', ht', hvar, hd, _, _⟩ := h
  have hg : Tryz.prog.globalNamed tyName = some 0 := by kernel_rfl
  have hty : ((Tryz.prog.globals[0]?).map (·.type)) = some 118 := by kernel_rfl
  obtain rfl := Option.some.inj (hg.symm.trans hg')
  obtain rfl := Option.some.inj (hty.symm.trans ht')
  have hcs := cells_of_strs Tryz.underlying118 Tryz.underlying9 (by kernel_rfl) (by kernel_rfl) hd
  have key : ∀ i, W.cell? ⟨0, i, none⟩ = ((([[], [120, 102, 120], [120, 102, 121], [121, 102, 120], [102, 121], [102, 120]] : List (List UInt8)).map fun l => Value.string ⟨l.toArray⟩))[i]? := fun i => by
    rw [World.var?_cell hg hvar i, ← Array.getElem?_toList, hcs]
  exact ⟨key 0, key 1, key 2, key 3, key 4, key 5⟩
theorem env_of_laid {W : World} (h : laidMetH Tryz.prog laidL W) : Env W := ⟨tz_of_laid h, p10_of_laid h, ty_of_laid h⟩

noncomputable def laidWorld (os : Os) : World := World.laidAll Tryz.prog os laidL
set_option maxRecDepth 100000 in
theorem laid_met (os : Os) (args : Array Value) : laidMetH Tryz.prog laidL ((laidWorld os).forCall (fun _ _ => 0) ⟨#[], args, []⟩).memory := by
  rw [MakeChecks.laidMetH_plain _ _ _ (by kernel_rfl)]
  exact laidMet_laidAll _ (by kernel_rfl) (by kernel_rfl)

end Go.Proofs.YtnedihbffiddpaaGreatDoor
