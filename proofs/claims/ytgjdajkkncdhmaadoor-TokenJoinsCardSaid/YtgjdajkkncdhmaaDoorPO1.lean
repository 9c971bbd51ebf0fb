/- What all the rows of this seat have in common: a slice of bytes that comes in; the listed variables; a start. -/
import Derived.Test.YtgjdajkkncdhmaaDoorLaw
import Derived.Test.YtgjdajkkncdhmaaDoorCards
import Derived.Test.YtgjdajkkncdhmaaDoorTie
import Derived.Test.YtgjdajkkncdhmaaDoorPT1
import Derived.Lay
import Derived.Shelf.Vars
import Derived.MakeChecks
namespace Go.Proofs.YtgjdajkkncdhmaaDoor
open Go.RowKit Go.El Go.ChangeShapes Go.WideShapes Go.ChangeAt Go.Joins

theorem own : ownKnob Tryd.prog.godebug = none := by kernel_rfl
theorem laidOut : laidOutB Tryd.prog = true := by kernel_rfl

section
variable {H : Type} {enc : TypeId × Value → H} {W : World} {base : Nat} {spare : Nat → Bool} {held : Bool}
set_option maxRecDepth 100000 in
theorem open_bytes {r : Reach} {b0 : Nat} {v : Value} {d : DataW H} {ps : List MemPlace} (hv : Value.okWide Tryd.prog W r b0 22 v) (h : DataW.Trod enc Tryd.prog W base spare held 22 v d ps) :
    ∃ (A : Option Addr) (B : List UInt8) (c : Nat), v = .slice A B.length c ∧ BytesAt W A B ∧ B.length ≤ c ∧ c ≤ maxLen := by
  obtain ⟨a1, len, cap, rfl⟩ := okWide_slice Tryd.underlying22 hv
  obtain ⟨fuel, hf⟩ := h
  rcases open_ints Tryd.underlying22 Tryd.underlying5 (by kernel_rfl) hf with ⟨hcs, hx⟩ | ⟨a, len', cap', zs, hcs, _, hl, hm, hz, hx, hcell, hwz⟩
  · simp [Value.cells] at hcs
    obtain ⟨rfl, rfl, rfl⟩ := hcs
    exact ⟨none, [], 0, rfl, El.Src.none _ _ _, Nat.le_refl _, Nat.zero_le _⟩
  · simp [Value.cells] at hcs
    obtain ⟨rfl, rfl, rfl⟩ := hcs
    have hlz : len ≤ zs.length := by rw [hz]; split <;> omega
    have hlen : ((zs.take len).map fun n => UInt8.ofNat n.toNat).length = len := by simp; omega
    refine ⟨some a, (zs.take len).map fun n => UInt8.ofNat n.toNat, cap, by rw [hlen], ?_, by rw [hlen]; exact hl, hm⟩
    refine ⟨by simp, fun _ => ⟨a, rfl, fun j u hu => ?_⟩⟩
    have hj : j < len := by
      have := (List.getElem?_eq_some_iff.1 hu).1
      simp at this
      omega
    rw [hcell j (by omega)]
    rw [← hu]
    have hb := range_u8 hwz j
    have e : zs[j]? = some zs[j] := List.getElem?_eq_getElem (by omega)
    simp only [e, Option.getD_some] at hb
    simp only [List.getElem?_map, List.getElem?_take, hj, if_true, e, Option.map_some, u8V, List.getD_eq_getElem?_getD, Option.getD_some]
    congr 2
    simp only [UInt8.toNat_ofNat']
    omega
end

def errName : String := (Rows.tokenAllRow.laid.drop 3).head?.elim "" (·.1)
theorem laid_list : Rows.tokenAllRow.laid = (Rows.tokenAllRow.laid.take 3) ++ (errName, Rows.laid_strconv_ErrRange) :: Rows.tokenAllRow.laid.drop 4 := by rfl

theorem laidVars_app {P : Program} {w : World} : ∀ {a b : List (String × DataW Unit)} {ps : List MemPlace}, DataW.LaidVars P w (a ++ b) ps → ∃ qs, DataW.LaidVars P w b qs
  | [], _, ps, h => ⟨ps, h⟩
  | (_, _) :: _, _, _, ⟨_, _, _, _, _, _, _, _, _, _, h, _⟩ => laidVars_app h

set_option maxRecDepth 100000 in
theorem glob_of_laid {W : World} (h : laidMetH Tryd.prog Rows.tokenAllRow.laid W) (hs : W.ShapedOpen Tryd.prog) : Glob W := by
  rw [MakeChecks.laidMetH_plain _ _ _ (by kernel_rfl), laid_list] at h
  obtain ⟨ps, h, _, _⟩ := h
  obtain ⟨qs, h⟩ := laidVars_app h
  obtain ⟨g', t', cs, fuel, p, q, hg', ht', hvar, hd, _, _⟩ := h
  have hg : Tryd.prog.globalNamed errName = some 3 := by kernel_rfl
  have hty : ((Tryd.prog.globals[3]?).map (·.type)) = some 42 := by kernel_rfl
  obtain rfl := Option.some.inj (hg.symm.trans hg')
  obtain rfl := Option.some.inj (hty.symm.trans ht')
  obtain ⟨_, u, v, hcs, _, _⟩ := iface_of_trod Tryd.underlying42 hd
  refine ⟨cell_of_shapedOpen_int (t := 3) (zero := #[.int .i64 0]) hs (by decide +kernel) (by kernel_rfl) rfl (by kernel_rfl) (by kernel_rfl) Tryd.underlying3, u, v, ?_⟩
  rw [World.var?_cell hg hvar 0, ← Array.getElem?_toList, hcs]
  rfl

noncomputable def laidWorld (os : Os) : World := World.laidAll Tryd.prog os Rows.tokenAllRow.laid
set_option maxRecDepth 100000 in
theorem laid_met (os : Os) (args : Array Value) : laidMetH Tryd.prog Rows.tokenAllRow.laid ((laidWorld os).forCall (fun _ _ => 0) ⟨#[], args, []⟩).memory := by
  rw [MakeChecks.laidMetH_plain _ _ _ (by kernel_rfl)]
  exact laidMet_laidAll _ (by kernel_rfl) (by kernel_rfl)

end Go.Proofs.YtgjdajkkncdhmaaDoor
