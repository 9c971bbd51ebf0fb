/- Layer 24: lives, by the evaluator; the listed variables; a start. -/
import Derived.Test.YtkenjhchfidpbaaGreatDoorC23
import Derived.Test.YtkenjhchfidpbaaGreatDoorC24
import Derived.Test.YtkenjhchfidpbaaGreatDoorC25
import Derived.Test.YtkenjhchfidpbaaGreatDoorCards
import Derived.Test.YtkenjhchfidpbaaGreatDoorTie
import Derived.Lay
namespace Go.Proofs.YtkenjhchfidpbaaGreatDoor
open Go.RowKit Go.El Go.ChangeShapes Go.WideShapes Go.ChangeAt Go.Deep Go.Joins

theorem own : ownKnob Tryz.prog.godebug = none := by kernel_rfl

/-! The evaluator over this program -/
noncomputable def exts : Ev.PT Nat := Ev.PT.put (Ev.PT.put (Ev.PT.put .e 350 2) 298 (10 + 299)) 300 4
noncomputable def cx : Ev.Ctx := Ev.ctxOf Tryz.prog [63, 113, 123] exts [(364, 1, 0, 362)]
def tab32 : List Int := [0, 1, 28, 2, 29, 14, 24, 3, 30, 22, 20, 15, 25, 17, 4, 8, 31, 27, 13, 23, 21, 19, 16, 7, 26, 12, 18, 6, 11, 5, 10, 9]
def tab64 : List Int := [0, 1, 56, 2, 57, 49, 28, 3, 61, 58, 42, 50, 38, 29, 17, 4, 62, 47, 59, 36, 45, 43, 51, 22, 53, 39, 33, 30, 24, 18, 12, 5, 63, 55, 48, 27, 60, 41, 37, 16, 46, 35, 44, 21, 52, 32, 23, 11, 54, 26, 40, 15, 34, 20, 31, 10, 25, 14, 19, 9, 13, 8, 7, 6]
def tabP : List Int := [1, 10, 100, 1000, 10000, 100000, 1000000, 10000000, 100000000, 1000000000, 10000000000, 100000000000, 1000000000000, 10000000000000, 100000000000000, 1000000000000000, 10000000000000000, 100000000000000000, 1000000000000000000, 10000000000000000000]
def tabT : List (List UInt8) := [[], [120, 102, 120], [120, 102, 121], [121, 102, 120], [102, 121], [102, 120]]
noncomputable def arrs : List (Nat × TypeId × List Ev.AV) := [(2, 554, [.int .u8 0, .int .u8 1, .int .u8 28, .int .u8 2, .int .u8 29, .int .u8 14, .int .u8 24, .int .u8 3, .int .u8 30, .int .u8 22, .int .u8 20, .int .u8 15, .int .u8 25, .int .u8 17, .int .u8 4, .int .u8 8, .int .u8 31, .int .u8 27, .int .u8 13, .int .u8 23, .int .u8 21, .int .u8 19, .int .u8 16, .int .u8 7, .int .u8 26, .int .u8 12, .int .u8 18, .int .u8 6, .int .u8 11, .int .u8 5, .int .u8 10, .int .u8 9]),
  (3, 555, [.int .u8 0, .int .u8 1, .int .u8 56, .int .u8 2, .int .u8 57, .int .u8 49, .int .u8 28, .int .u8 3, .int .u8 61, .int .u8 58, .int .u8 42, .int .u8 50, .int .u8 38, .int .u8 29, .int .u8 17, .int .u8 4, .int .u8 62, .int .u8 47, .int .u8 59, .int .u8 36, .int .u8 45, .int .u8 43, .int .u8 51, .int .u8 22, .int .u8 53, .int .u8 39, .int .u8 33, .int .u8 30, .int .u8 24, .int .u8 18, .int .u8 12, .int .u8 5, .int .u8 63, .int .u8 55, .int .u8 48, .int .u8 27, .int .u8 60, .int .u8 41, .int .u8 37, .int .u8 16, .int .u8 46, .int .u8 35, .int .u8 44, .int .u8 21, .int .u8 52, .int .u8 32, .int .u8 23, .int .u8 11, .int .u8 54, .int .u8 26, .int .u8 40, .int .u8 15, .int .u8 34, .int .u8 20, .int .u8 31, .int .u8 10, .int .u8 25, .int .u8 14, .int .u8 19, .int .u8 9, .int .u8 13, .int .u8 8, .int .u8 7, .int .u8 6]),
  (0, 518, [.int .u64 1, .int .u64 10, .int .u64 100, .int .u64 1000, .int .u64 10000, .int .u64 100000, .int .u64 1000000, .int .u64 10000000, .int .u64 100000000, .int .u64 1000000000, .int .u64 10000000000, .int .u64 100000000000, .int .u64 1000000000000, .int .u64 10000000000000, .int .u64 100000000000000, .int .u64 1000000000000000, .int .u64 10000000000000000, .int .u64 100000000000000000, .int .u64 1000000000000000000, .int .u64 10000000000000000000]),
  (1, 538, [.str [], .str [120, 102, 120], .str [120, 102, 121], .str [121, 102, 120], .str [102, 121], .str [102, 120]])]
set_option maxRecDepth 100000 in
theorem cx_names : Tryz.prog.funcs.toList.all (fun fn => fn.name != "runtime.NumGoroutine") = true := by kernel_rfl
theorem cx_ok : Ev.CtxOk cx Tryz.prog := Ev.ctxOf_ok (Nat.le_of_ble_eq_true (by kernel_rfl)) (Nat.le_of_ble_eq_true (by kernel_rfl)) (by kernel_rfl) (by kernel_rfl) cx_names
theorem no_escape (x : Value) (w : World) : (callFunc 350 #[x]).run Tryz.prog w = .ok (.value x) w := by
  have h1 : (Tryz.f350.name == "runtime.NumGoroutine") = false := by kernel_rfl
  have h2 : Extern.findNext Tryz.f350 = none := by kernel_rfl
  have h3 : Extern.find Tryz.f350 = some Extern.AbiNoEscape.same := by kernel_rfl
  have h4 : Tryz.f350.body = none := by kernel_rfl
  simp only [callFunc, Sem.run_bind, run_program, Result.andThen_ok, Tryz.func350, h1, h4, Option.isNone_none, if_true, Bool.false_eq_true, if_false, h2, h3]
  rfl
theorem run_add (a : Addr) (x y : Int) (w : World) (hc : w.cell? a = some (.int .i64 x)) (hz : w.frozen? a = false) :
    (callFunc 300 #[.pointer (some a), .int .i64 y]).run Tryz.prog w = .ok (.value (.int .i64 (IntKind.i64.wrap (x + y)))) (w.setCell a (.int .i64 (IntKind.i64.wrap (x + y)))) :=
  run_call_add Tryz.func300 (by kernel_rfl) (by kernel_rfl) (by kernel_rfl) .i64 (by kernel_rfl) hc hz (by simp [go_sem])
theorem once_ok : Ev.OnceOk Tryz.prog 298 299 :=
  ⟨fun args w => Ev.run_callFunc Tryz.func298 (of_decide_eq_true (by kernel_rfl)) (c := Tryz.f298.body.get (by kernel_rfl)) (by kernel_rfl) args w, once_first, once_done⟩
theorem cx_ext : Ev.ExtOk cx Tryz.prog :=
  Ev.ext_put (Nat.le_of_ble_eq_true (by kernel_rfl)) (Ev.add_1 run_add (by kernel_rfl))
    (Ev.ext_put (Nat.le_of_ble_eq_true (by kernel_rfl)) (Ev.once_1 once_ok (by kernel_rfl) (by kernel_rfl)) (Ev.ext_put (Nat.le_of_ble_eq_true (by kernel_rfl)) (Ev.noEscape_1 no_escape) Ev.ext_none'))
theorem lives_true : Ev.saysTrue (Ev.evF cx 100000 400 (Ev.heapOf arrs) 5 []) = true := by kernel_rfl

/-! The listed variables -/
def laidL : List (String × DataW Unit) := Rows.machineNobodyRow.laid
def nm (i : Nat) : String := (laidL.drop i).head?.elim "" (·.1)
theorem laid_list : laidL = [(nm 0, Lib.tabData .u8 tab32), (nm 1, Lib.tabData .u8 tab64), (nm 2, Lib.tabData .u64 tabP), (nm 3, .agg (tabT.map fun l => .lit (.string l)))] := by rfl
set_option maxRecDepth 100000 in
theorem lain_of_laid {W : World} (h : laidMetH Tryz.prog laidL W) (hS : W.ShapedOpen Tryz.prog) : Ev.Lain W arrs := by
  rw [MakeChecks.laidMetH_plain _ _ _ (by kernel_rfl), laid_list] at h
  obtain ⟨ps, h, _, _⟩ := h
  obtain ⟨g0, t0, c0, f0, p0, q0, hg0, ht0, hv0, hd0, h, _⟩ := h
  obtain ⟨g1, t1, c1, f1, p1, q1, hg1, ht1, hv1, hd1, h, _⟩ := h
  obtain ⟨g2, t2, c2, f2, p2, q2, hg2, ht2, hv2, hd2, h, _⟩ := h
  obtain ⟨g3, t3, c3, f3, p3, q3, hg3, ht3, hv3, hd3, h, _⟩ := h
  have k0 : Tryz.prog.globalNamed (nm 0) = some 2 := by kernel_rfl
  have k1 : Tryz.prog.globalNamed (nm 1) = some 3 := by kernel_rfl
  have k2 : Tryz.prog.globalNamed (nm 2) = some 0 := by kernel_rfl
  have k3 : Tryz.prog.globalNamed (nm 3) = some 1 := by kernel_rfl
  have y0 : ((Tryz.prog.globals[2]?).map (·.type)) = some 554 := by kernel_rfl
  have y1 : ((Tryz.prog.globals[3]?).map (·.type)) = some 555 := by kernel_rfl
  have y2 : ((Tryz.prog.globals[0]?).map (·.type)) = some 518 := by kernel_rfl
  have y3 : ((Tryz.prog.globals[1]?).map (·.type)) = some 538 := by kernel_rfl
  obtain rfl := Option.some.inj (k0.symm.trans hg0)
  obtain rfl := Option.some.inj (k1.symm.trans hg1)
  obtain rfl := Option.some.inj (k2.symm.trans hg2)
  obtain rfl := Option.some.inj (k3.symm.trans hg3)
  obtain rfl := Option.some.inj (y0.symm.trans ht0)
  obtain rfl := Option.some.inj (y1.symm.trans ht1)
  obtain rfl := Option.some.inj (y2.symm.trans ht2)
  obtain rfl := Option.some.inj (y3.symm.trans ht3)
  have e0 := Lib.cells_of_tab Tryz.underlying554 Tryz.underlying5 (by kernel_rfl) (by kernel_rfl) hd0
  have e1 := Lib.cells_of_tab Tryz.underlying555 Tryz.underlying5 (by kernel_rfl) (by kernel_rfl) hd1
  have e2 := Lib.cells_of_tab Tryz.underlying518 Tryz.underlying67 (by kernel_rfl) (by kernel_rfl) hd2
  have e3 := cells_of_strs Tryz.underlying538 Tryz.underlying9 (by kernel_rfl) (by kernel_rfl) hd3
  refine Ev.lain_cons (by kernel_rfl) (Ev.row_of_var hS hv0 k0 (by kernel_rfl) (by kernel_rfl)) (cs := c0) (by rw [e0]; exact Ev.vrs_ints .u8 tab32) (by kernel_rfl) ?_
  refine Ev.lain_cons (by kernel_rfl) (Ev.row_of_var hS hv1 k1 (by kernel_rfl) (by kernel_rfl)) (cs := c1) (by rw [e1]; exact Ev.vrs_ints .u8 tab64) (by kernel_rfl) ?_
  refine Ev.lain_cons (by kernel_rfl) (Ev.row_of_var hS hv2 k2 (by kernel_rfl) (by kernel_rfl)) (cs := c2) (by rw [e2]; exact Ev.vrs_ints .u64 tabP) (by kernel_rfl) ?_
  refine Ev.lain_cons (by kernel_rfl) (Ev.row_of_var hS hv3 k3 (by kernel_rfl) (by kernel_rfl)) (cs := c3) (by rw [e3]; exact Ev.vrs_strs tabT) (by kernel_rfl) ?_
  exact Ev.lain_nil
theorem lain_ext {w w' : World} (h : Ev.Lain w arrs) (x : Below w.heap.size w w') : Ev.Lain w' arrs := by
  intro y hy
  obtain ⟨h1, cs, h2, h3⟩ := h y hy
  exact ⟨h1, cs, (x.block _ (Array.getElem?_eq_some_iff.1 h2).1).trans h2, h3⟩
theorem lives_any (W : World) (h : Ev.Lain W arrs) : Calls Tryz.prog 5 #[] W fun e W' => e = .returned (.bool true) ∧ Below W.heap.size W W' := by
  refine (Ev.closed_true cx_ok (by kernel_rfl) cx_ext (by kernel_rfl) lives_true h).mono ?_
  rintro e W' ⟨h1, h2⟩
  exact ⟨h1, h2.os, h2.tape, h2.output, h2.size, h2.block⟩

noncomputable def laidWorld (os : Os) : World := World.laidAll Tryz.prog os laidL
set_option maxRecDepth 100000 in
theorem laid_met (os : Os) (args : Array Value) : laidMetH Tryz.prog laidL ((laidWorld os).forCall (fun _ _ => 0) ⟨#[], args, []⟩).memory := by
  rw [MakeChecks.laidMetH_plain _ _ _ (by kernel_rfl)]
  exact laidMet_laidAll _ (by kernel_rfl) (by kernel_rfl)
end Go.Proofs.YtkenjhchfidpbaaGreatDoor
