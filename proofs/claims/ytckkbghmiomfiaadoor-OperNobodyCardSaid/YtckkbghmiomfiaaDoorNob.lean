/- OperNobody: no table. -/
import Derived.Test.YtckkbghmiomfiaaDoorLives
namespace Go.Proofs.YtckkbghmiomfiaaDoor
open Go.RowKit Go.El Go.Proofs

set_option maxRecDepth 100000 in
set_option maxHeartbeats 4000000 in
theorem nobody_any (k p t : Int) (s nm : ByteArray) (w : World) (hT : TypesAt 0 w) :
    Calls Tryd.prog 6 #[.agg #[.int .i64 k, .int .i64 p, .int .i64 t, .string s, .string nm]] w fun e w' => e = .returned (.bool true) ∧ Ext w w' := by
  have HT := Lib.hid hT
  clear hT
  go_enter Tryd.func6, Tryd.ntmps6
  go_upto_region 2 with fail
  refine wp_abs (fun W => Ext w W ∧ W.cell? ⟨w.heap.size, 1, none⟩ = some (.int .i64 p) ∧ W.cell? ⟨w.heap.size, 2, none⟩ = some (.int .i64 t) ∧ W.cell? ⟨w.heap.size, 3, none⟩ = some (.string s) ∧ W.cell? ⟨w.heap.size, 4, none⟩ = some (.string nm)) ⟨ext_box _ _, new_cell (Ext.refl _) 1, new_cell (Ext.refl _) 2, new_cell (Ext.refl _) 3, new_cell (Ext.refl _) 4⟩ ?_
  rintro W ⟨x, a1, a2, a3, a4⟩
  go_upto_region 3 with (go_at_call 25; refine (infix_nil _ _).mono ?_; rintro e W1 ⟨rfl, x1⟩; simp only [opVal_eq, zeroO])
  refine wp_abs (fun W => Ext w W ∧ W.cell? ⟨w.heap.size, 1, none⟩ = some (.int .i64 p) ∧ W.cell? ⟨w.heap.size, 2, none⟩ = some (.int .i64 t) ∧ W.cell? ⟨w.heap.size, 3, none⟩ = some (.string s) ∧ W.cell? ⟨w.heap.size, 4, none⟩ = some (.string nm)) (have y := x1.trans (ext_box _ _); ⟨x.trans y, y.cell a1, y.cell a2, y.cell a3, y.cell a4⟩) ?_
  clear x x1 a1 a2 a3 a4
  rintro W2 ⟨x, a1, a2, a3, a4⟩
  go_upto_region 4 with (go_at_call 26; refine (prefix_nil _ _).mono ?_; rintro e W3 ⟨rfl, x1⟩; simp only [opVal_eq, zeroO])
  refine wp_abs (fun W => Ext w W ∧ W.cell? ⟨w.heap.size, 1, none⟩ = some (.int .i64 p) ∧ W.cell? ⟨w.heap.size, 2, none⟩ = some (.int .i64 t) ∧ W.cell? ⟨w.heap.size, 3, none⟩ = some (.string s) ∧ W.cell? ⟨w.heap.size, 4, none⟩ = some (.string nm)) (have y := x1.trans (ext_box _ _); ⟨x.trans y, y.cell a1, y.cell a2, y.cell a3, y.cell a4⟩) ?_
  clear x x1 a1 a2 a3 a4
  rintro W4 ⟨x, a1, a2, a3, a4⟩
  go_wp2_with (first | (go_at_call 10; refine (lives_any _ (HT.out.ext x)).mono ?_; rintro e W5 ⟨rfl, y⟩; replace x := x.trans y; replace a1 := y.cell a1; replace a2 := y.cell a2; replace a3 := y.cell a3; replace a4 := y.cell a4; clear y) | (go_at_call 24; refine (set_nil _ _ _ _).mono ?_; rintro e W6 ⟨rfl, y⟩; replace x := x.trans y; replace a4 := y.cell a4; clear a1 a2 a3 y) | (go_at_call 16; refine (is_nil _ _).mono ?_; rintro e W7 ⟨rfl, y⟩; replace x := x.trans y; clear a4 y) | (go_at_call 12; refine (pAll_nil _).mono ?_; rintro e w' ⟨rfl, rfl⟩) | (go_at_call 27; refine (pFork_nil _).mono ?_; rintro e w' ⟨rfl, rfl⟩))
  go_ret
  exact ⟨rfl, x⟩

end Go.Proofs.YtckkbghmiomfiaaDoor
