/- Layer 9 (oper): the walks of Set that come to its last test. -/
import Derived.Test.YtckkbghmiomfiaaDoorOper4
namespace Go.Proofs.YtckkbghmiomfiaaDoor
open Go.RowKit Go.El

theorem len_ops (l : List OpV) : (opsP l).length = l.length := by simp [opsP]

set_option maxHeartbeats 1600000 in
theorem set_full (tb m1 m2 : Nat) (p t : Int) (s : ByteArray) (l I Q : List OpV) (w : World) (h0 : w.cell? ⟨tb, 0, none⟩ = some (.map (some m1))) (h1 : w.cell? ⟨tb, 1, none⟩ = some (.map (some m2))) (hT : TypesAt 0 w) (hm : MapAt Value.string w (mOf t m1 m2) (opsP l)) (hm1 : MapAt Value.string w m1 (opsP I)) (hm2 : MapAt Value.string w m2 (opsP Q)) (hgood : argBad p t = false) (hname : nameBad s = false) (hp : p ≠ 0) (hf : (findO s l).isSome = false) (hlen : 64 ≤ I.length + Q.length) (hmax : I.length + Q.length ≤ 1000) :
    Calls Tryd.prog 24 #[.pointer (some ⟨tb, 0, none⟩), .agg #[.int .i64 p, .int .i64 t, .string s]] w fun e w' => e = .returned (.int .i64 2) ∧ Ext w w' := by
  have eb : tb < w.heap.size := cell_lt h0
  obtain ⟨b1, b2, b3, b4⟩ := arg_good hgood
  obtain ⟨n1, n2, n3, n4⟩ := name_good hname
  have e3 := tname_yes ⟨b3, b4⟩
  have H := Lib.hid hm
  have H1 := Lib.hid hm1
  have H2 := Lib.hid hm2
  clear hgood hname hm hm1 hm2
  have hp' : (p == 0) = false := by simpa using hp
  clear hp
  go_enter Tryd.func24, Tryd.ntmps24
  go_upto_region 14 with (first | (go_at_call 30; refine (made_any tb m1 _ (Ext.cell (ext_box _ _) h0)).mono ?_; rintro e w' ⟨rfl, rfl⟩) | (go_at_call 22; refine (pTypeName_any _ _ (hT.ext (ext_box _ _))).mono ?_; rintro e w' ⟨rfl, rfl⟩) | (go_at_call 48; refine (plain_any _ _).mono ?_; rintro e w2 ⟨rfl, hb⟩; have hc0 : _ = some _ := new_cell hb 0; have hc1 : _ = some _ := new_cell hb 1; have hc2 : _ = some _ := new_cell hb 2; have hl2 : w.heap.size < w2.heap.size := cell_lt hc0; have hx : Ext w w2 := (ext_box _ _).trans hb; have g0 := hx.cell h0; have g1 := hx.cell h1; have hl3 := cell_lt g0) | (go_at_call 49; refine (of_any tb m1 m2 t _ g0 g1).mono ?_; rintro e w' ⟨rfl, rfl⟩) | (at_lookup; refine wpList_lookup_at (P := Tryd.prog) _ rfl _ _ true rfl strKind Tryd.underlying50 Tryd.underlying9 (mOf t m1 m2) rfl s rfl _ zeroOp (opsP l) (H.out.ext hx) ?_; rw [findP_ops, getD_op, isSome_op]; simp only [if_true, opVal_eq]))
  refine wp_abs (fun W => Ext w W ∧ W.cell? ⟨w.heap.size, 0, none⟩ = some (.int .i64 p)) ⟨?_, ?_⟩ ?_
  · refine hx.trans ?_
    (repeat (first | exact Ext.refl _ | refine Ext.setCell ?_ (by simp) _ | refine Ext.alloc ?_ _ | refine Ext.drewN ?_ _ | refine Ext.drew ?_))
  · refine Ext.cell (w := w2) ?_ hc0
    (repeat (first | exact Ext.refl _ | refine Ext.setCell ?_ (by simp) _ | refine Ext.alloc ?_ _))
  rintro W ⟨hxW, hW0⟩
  have k0 := hxW.cell h0
  have k1 := hxW.cell h1
  have q1 := fun n ty => (H1.out.ext (hxW.drewN n)).run_len (P := Tryd.prog) Tryd.underlying50 ty
  have q2 := fun n ty => (H2.out.ext (hxW.drewN n)).run_len (P := Tryd.prog) Tryd.underlying50 ty
  simp only [len_ops] at q1 q2
  have ha : IntKind.i64.wrap ((I.length : Int) + (Q.length : Int)) = (I.length : Int) + (Q.length : Int) := IntWalk.i64_in _ (by omega)
  have hb64 : decide (64 ≤ (I.length : Int) + (Q.length : Int)) = true := by simp; omega
  go_quiet (fail)
  go_wp2_with fail
  go_ret
  exact ⟨rfl, hxW.drewN _⟩

set_option maxHeartbeats 1600000 in
theorem set_put (tb m1 m2 : Nat) (p t : Int) (s : ByteArray) (l I Q : List OpV) (w : World) (h0 : w.cell? ⟨tb, 0, none⟩ = some (.map (some m1))) (h1 : w.cell? ⟨tb, 1, none⟩ = some (.map (some m2))) (hT : TypesAt 0 w) (hm : MapAt Value.string w (mOf t m1 m2) (opsP l)) (hm1 : MapAt Value.string w m1 (opsP I)) (hm2 : MapAt Value.string w m2 (opsP Q)) (hgood : argBad p t = false) (hname : nameBad s = false) (hp : p ≠ 0) (hf : (findO s l).isSome = false) (hlen : I.length + Q.length < 64) :
    Calls Tryd.prog 24 #[.pointer (some ⟨tb, 0, none⟩), .agg #[.int .i64 p, .int .i64 t, .string s]] w fun e w' => e = .returned (.int .i64 0) ∧ MapAt Value.string w' (mOf t m1 m2) (opsP (setO ⟨p, t, s⟩ l)) ∧ Mods [mOf t m1 m2] w w' := by
  have eb : tb < w.heap.size := cell_lt h0
  obtain ⟨b1, b2, b3, b4⟩ := arg_good hgood
  obtain ⟨n1, n2, n3, n4⟩ := name_good hname
  have e3 := tname_yes ⟨b3, b4⟩
  have H := Lib.hid hm
  have H1 := Lib.hid hm1
  have H2 := Lib.hid hm2
  clear hgood hname hm hm1 hm2
  have hp' : (p == 0) = false := by simpa using hp
  clear hp
  go_enter Tryd.func24, Tryd.ntmps24
  go_upto_region 14 with (first | (go_at_call 30; refine (made_any tb m1 _ (Ext.cell (ext_box _ _) h0)).mono ?_; rintro e w' ⟨rfl, rfl⟩) | (go_at_call 22; refine (pTypeName_any _ _ (hT.ext (ext_box _ _))).mono ?_; rintro e w' ⟨rfl, rfl⟩) | (go_at_call 48; refine (plain_any _ _).mono ?_; rintro e w2 ⟨rfl, hb⟩; have hc0 : _ = some _ := new_cell hb 0; have hc1 : _ = some _ := new_cell hb 1; have hc2 : _ = some _ := new_cell hb 2; have hl2 : w.heap.size < w2.heap.size := cell_lt hc0; have hx : Ext w w2 := (ext_box _ _).trans hb; have g0 := hx.cell h0; have g1 := hx.cell h1; have hl3 := cell_lt g0) | (go_at_call 49; refine (of_any tb m1 m2 t _ g0 g1).mono ?_; rintro e w' ⟨rfl, rfl⟩) | (at_lookup; refine wpList_lookup_at (P := Tryd.prog) _ rfl _ _ true rfl strKind Tryd.underlying50 Tryd.underlying9 (mOf t m1 m2) rfl s rfl _ zeroOp (opsP l) (H.out.ext hx) ?_; rw [findP_ops, getD_op, isSome_op]; simp only [if_true, opVal_eq]))
  refine wp_abs (fun W => Ext w W ∧ W.cell? ⟨w.heap.size, 0, none⟩ = some (.int .i64 p) ∧ W.cell? ⟨w.heap.size, 1, none⟩ = some (.int .i64 t) ∧ W.cell? ⟨w.heap.size, 2, none⟩ = some (.string s)) ⟨?_, ?_, ?_, ?_⟩ ?_
  · refine hx.trans ?_
    (repeat (first | exact Ext.refl _ | refine Ext.setCell ?_ (by simp) _ | refine Ext.alloc ?_ _ | refine Ext.drewN ?_ _ | refine Ext.drew ?_))
  · refine Ext.cell (w := w2) ?_ hc0
    (repeat (first | exact Ext.refl _ | refine Ext.setCell ?_ (by simp) _ | refine Ext.alloc ?_ _))
  · refine Ext.cell (w := w2) ?_ hc1
    (repeat (first | exact Ext.refl _ | refine Ext.setCell ?_ (by simp) _ | refine Ext.alloc ?_ _))
  · refine Ext.cell (w := w2) ?_ hc2
    (repeat (first | exact Ext.refl _ | refine Ext.setCell ?_ (by simp) _ | refine Ext.alloc ?_ _))
  rintro W ⟨hxW, hW0, hW1, hW2⟩
  have k0 := hxW.cell h0
  have k1 := hxW.cell h1
  have q1 := fun n ty => (H1.out.ext (hxW.drewN n)).run_len (P := Tryd.prog) Tryd.underlying50 ty
  have q2 := fun n ty => (H2.out.ext (hxW.drewN n)).run_len (P := Tryd.prog) Tryd.underlying50 ty
  simp only [len_ops] at q1 q2
  have ha : IntKind.i64.wrap ((I.length : Int) + (Q.length : Int)) = (I.length : Int) + (Q.length : Int) := IntWalk.i64_in _ (by omega)
  have hb64 : decide (64 ≤ (I.length : Int) + (Q.length : Int)) = false := by simp; omega
  go_quiet (fail)
  go_wp2_with (at_mapUpdate; refine wpList_mapUpdate_at (P := Tryd.prog) _ rfl _ _ _ 50 rfl strKind Tryd.underlying50 Tryd.underlying9 (m := mOf t m1 m2) (ps := opsP l) rfl (H.out.ext (hxW.drewN _)) s (opVal ⟨p, t, s⟩) rfl rfl ?_; intro w3 hm3 hd3 hs3; rw [setP_ops ⟨p, t, s⟩] at hm3)
  go_ret
  exact ⟨rfl, hm3, (Mods.ext (hxW.drewN _)).trans hd3⟩

set_option maxHeartbeats 1600000 in
theorem set_again (tb m1 m2 : Nat) (p t : Int) (s : ByteArray) (l : List OpV) (w : World) (h0 : w.cell? ⟨tb, 0, none⟩ = some (.map (some m1))) (h1 : w.cell? ⟨tb, 1, none⟩ = some (.map (some m2))) (hT : TypesAt 0 w) (hm : MapAt Value.string w (mOf t m1 m2) (opsP l)) (hgood : argBad p t = false) (hname : nameBad s = false) (hp : p ≠ 0) (hf : (findO s l).isSome = true) :
    Calls Tryd.prog 24 #[.pointer (some ⟨tb, 0, none⟩), .agg #[.int .i64 p, .int .i64 t, .string s]] w fun e w' => e = .returned (.int .i64 0) ∧ MapAt Value.string w' (mOf t m1 m2) (opsP (setO ⟨p, t, s⟩ l)) ∧ Mods [mOf t m1 m2] w w' := by
  have eb : tb < w.heap.size := cell_lt h0
  obtain ⟨b1, b2, b3, b4⟩ := arg_good hgood
  obtain ⟨n1, n2, n3, n4⟩ := name_good hname
  have e3 := tname_yes ⟨b3, b4⟩
  have H := Lib.hid hm
  clear hgood hname hm
  have hp' : (p == 0) = false := by simpa using hp
  clear hp
  go_enter Tryd.func24, Tryd.ntmps24
  go_upto_region 14 with (first | (go_at_call 30; refine (made_any tb m1 _ (Ext.cell (ext_box _ _) h0)).mono ?_; rintro e w' ⟨rfl, rfl⟩) | (go_at_call 22; refine (pTypeName_any _ _ (hT.ext (ext_box _ _))).mono ?_; rintro e w' ⟨rfl, rfl⟩) | (go_at_call 48; refine (plain_any _ _).mono ?_; rintro e w2 ⟨rfl, hb⟩; have hc0 : _ = some _ := new_cell hb 0; have hc1 : _ = some _ := new_cell hb 1; have hc2 : _ = some _ := new_cell hb 2; have hl2 : w.heap.size < w2.heap.size := cell_lt hc0; have hx : Ext w w2 := (ext_box _ _).trans hb; have g0 := hx.cell h0; have g1 := hx.cell h1; have hl3 := cell_lt g0) | (go_at_call 49; refine (of_any tb m1 m2 t _ g0 g1).mono ?_; rintro e w' ⟨rfl, rfl⟩) | (at_lookup; refine wpList_lookup_at (P := Tryd.prog) _ rfl _ _ true rfl strKind Tryd.underlying50 Tryd.underlying9 (mOf t m1 m2) rfl s rfl _ zeroOp (opsP l) (H.out.ext hx) ?_; rw [findP_ops, getD_op, isSome_op]; simp only [if_true, opVal_eq]))
  refine wp_abs (fun W => Ext w W ∧ W.cell? ⟨w.heap.size, 0, none⟩ = some (.int .i64 p) ∧ W.cell? ⟨w.heap.size, 1, none⟩ = some (.int .i64 t) ∧ W.cell? ⟨w.heap.size, 2, none⟩ = some (.string s)) ⟨?_, ?_, ?_, ?_⟩ ?_
  · refine hx.trans ?_
    (repeat (first | exact Ext.refl _ | refine Ext.setCell ?_ (by simp) _ | refine Ext.alloc ?_ _ | refine Ext.drewN ?_ _ | refine Ext.drew ?_))
  · refine Ext.cell (w := w2) ?_ hc0
    (repeat (first | exact Ext.refl _ | refine Ext.setCell ?_ (by simp) _ | refine Ext.alloc ?_ _))
  · refine Ext.cell (w := w2) ?_ hc1
    (repeat (first | exact Ext.refl _ | refine Ext.setCell ?_ (by simp) _ | refine Ext.alloc ?_ _))
  · refine Ext.cell (w := w2) ?_ hc2
    (repeat (first | exact Ext.refl _ | refine Ext.setCell ?_ (by simp) _ | refine Ext.alloc ?_ _))
  rintro W ⟨hxW, hW0, hW1, hW2⟩
  go_quiet (fail)
  go_wp2_with (at_mapUpdate; refine wpList_mapUpdate_at (P := Tryd.prog) _ rfl _ _ _ 50 rfl strKind Tryd.underlying50 Tryd.underlying9 (m := mOf t m1 m2) (ps := opsP l) rfl (H.out.ext (hxW.drewN _)) s (opVal ⟨p, t, s⟩) rfl rfl ?_; intro w3 hm3 hd3 hs3; rw [setP_ops ⟨p, t, s⟩] at hm3)
  go_ret
  exact ⟨rfl, hm3, (Mods.ext (hxW.drewN _)).trans hd3⟩

end Go.Proofs.YtckkbghmiomfiaaDoor
