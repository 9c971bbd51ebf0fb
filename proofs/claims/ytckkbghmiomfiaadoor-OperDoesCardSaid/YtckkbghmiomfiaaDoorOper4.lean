/- Layer 9 (oper): the walks of Set. -/
import Derived.Test.YtckkbghmiomfiaaDoorOper3
import Derived.Maps.OwnSet
namespace Go.Proofs.YtckkbghmiomfiaaDoor
open Go.RowKit Go.El

/-- The map of a type's operators. -/
def mOf (t : Int) (m1 m2 : Nat) : Nat := if preB t then m2 else m1
theorem of_any (tb m1 m2 : Nat) (t : Int) (w : World) (h0 : w.cell? ⟨tb, 0, none⟩ = some (.map (some m1))) (h1 : w.cell? ⟨tb, 1, none⟩ = some (.map (some m2))) :
    Calls Tryd.prog 49 #[.pointer (some ⟨tb, 0, none⟩), .int .i64 t] w fun e w' => e = .returned (.map (some (mOf t m1 m2))) ∧ w = w' := by
  unfold mOf
  cases hp : preB t
  · exact of_inf tb m1 t hp w h0
  · exact of_pre tb m2 t hp w h1

set_option maxHeartbeats 400000 in
theorem set_nil (p t : Int) (s : ByteArray) (w : World) :
    Calls Tryd.prog 24 #[.pointer none, .agg #[.int .i64 p, .int .i64 t, .string s]] w fun e w' => e = .returned (.int .i64 6) ∧ Ext w w' := by
  go_enter Tryd.func24, Tryd.ntmps24
  go_wp2_with (go_at_call 30; refine (made_nil _).mono ?_; rintro e w' ⟨rfl, rfl⟩)
  go_ret
  exact ⟨rfl, ext_box _ _⟩

set_option maxHeartbeats 800000 in
theorem set_arg (tb m1 : Nat) (p t : Int) (s : ByteArray) (w : World) (h0 : w.cell? ⟨tb, 0, none⟩ = some (.map (some m1))) (hT : TypesAt 0 w) (hbad : argBad p t = true) :
    Calls Tryd.prog 24 #[.pointer (some ⟨tb, 0, none⟩), .agg #[.int .i64 p, .int .i64 t, .string s]] w fun e w' => e = .returned (.int .i64 1) ∧ Ext w w' := by
  have eb : tb < w.heap.size := cell_lt h0
  have hb : p < 0 ∨ (0 ≤ p ∧ 1200 < p) ∨ (0 ≤ p ∧ p ≤ 1200 ∧ ¬ (1 ≤ t ∧ t ≤ 5)) := by
    have := of_decide_eq_true hbad
    omega
  clear hbad
  rcases hb with hb | ⟨hb1, hb2⟩ | ⟨hb1, hb2, hb3⟩
  · go_enter Tryd.func24, Tryd.ntmps24
    go_wp2_with (go_at_call 30; refine (made_any tb m1 _ (Ext.cell (ext_box _ _) h0)).mono ?_; rintro e w' ⟨rfl, rfl⟩)
    go_ret
    exact ⟨rfl, ext_box _ _⟩
  · go_enter Tryd.func24, Tryd.ntmps24
    go_wp2_with (go_at_call 30; refine (made_any tb m1 _ (Ext.cell (ext_box _ _) h0)).mono ?_; rintro e w' ⟨rfl, rfl⟩)
    go_ret
    exact ⟨rfl, ext_box _ _⟩
  · have e3 := tname_no hb3
    clear hb3
    go_enter Tryd.func24, Tryd.ntmps24
    go_wp2_with (first | (go_at_call 30; refine (made_any tb m1 _ (Ext.cell (ext_box _ _) h0)).mono ?_; rintro e w' ⟨rfl, rfl⟩) | (go_at_call 22; refine (pTypeName_any _ _ (hT.ext (ext_box _ _))).mono ?_; rintro e w' ⟨rfl, rfl⟩))
    go_ret
    exact ⟨rfl, ext_box _ _⟩

theorem arg_good {p t : Int} (h : argBad p t = false) : 0 ≤ p ∧ p ≤ 1200 ∧ 1 ≤ t ∧ t ≤ 5 := by
  have := of_decide_eq_false h
  omega

set_option maxHeartbeats 800000 in
theorem set_name (tb m1 m2 : Nat) (p t : Int) (s : ByteArray) (w : World) (h0 : w.cell? ⟨tb, 0, none⟩ = some (.map (some m1))) (h1 : w.cell? ⟨tb, 1, none⟩ = some (.map (some m2))) (hT : TypesAt 0 w) (hgood : argBad p t = false) (hbad : nameBad s = true) :
    Calls Tryd.prog 24 #[.pointer (some ⟨tb, 0, none⟩), .agg #[.int .i64 p, .int .i64 t, .string s]] w fun e w' => e = .returned (.int .i64 90) ∧ Ext w w' := by
  have eb : tb < w.heap.size := cell_lt h0
  obtain ⟨b1, b2, b3, b4⟩ := arg_good hgood
  have e3 := tname_yes ⟨b3, b4⟩
  clear hgood
  cases hp : plainB s
  · clear hbad
    go_enter Tryd.func24, Tryd.ntmps24
    go_wp2_with (first | (go_at_call 30; refine (made_any tb m1 _ (Ext.cell (ext_box _ _) h0)).mono ?_; rintro e w' ⟨rfl, rfl⟩) | (go_at_call 22; refine (pTypeName_any _ _ (hT.ext (ext_box _ _))).mono ?_; rintro e w' ⟨rfl, rfl⟩) | (go_at_call 48; refine (plain_any _ _).mono ?_; rintro e w2 ⟨rfl, hb⟩; have hc0 : _ = some _ := new_cell hb 0; have hc1 : _ = some _ := new_cell hb 1; have hc2 : _ = some _ := new_cell hb 2; have hl2 : w.heap.size < w2.heap.size := cell_lt hc0; have hx : Ext w w2 := (ext_box _ _).trans hb; have g0 := hx.cell h0; have g1 := hx.cell h1))
    go_ret
    exact ⟨rfl, hx⟩
  · by_cases h2 : s.data.toList = [91, 93]
    · obtain rfl := mk_of h2
      clear hbad
      go_enter Tryd.func24, Tryd.ntmps24
      go_wp2_with (first | (go_at_call 30; refine (made_any tb m1 _ (Ext.cell (ext_box _ _) h0)).mono ?_; rintro e w' ⟨rfl, rfl⟩) | (go_at_call 22; refine (pTypeName_any _ _ (hT.ext (ext_box _ _))).mono ?_; rintro e w' ⟨rfl, rfl⟩) | (go_at_call 48; refine (plain_any _ _).mono ?_; rintro e w2 ⟨rfl, hb⟩; have hc0 : _ = some _ := new_cell hb 0; have hc1 : _ = some _ := new_cell hb 1; have hc2 : _ = some _ := new_cell hb 2; have hl2 : w.heap.size < w2.heap.size := cell_lt hc0; have hx : Ext w w2 := (ext_box _ _).trans hb; have g0 := hx.cell h0; have g1 := hx.cell h1))
      go_ret
      exact ⟨rfl, hx⟩
    · have e4 := lit_ne h2
      by_cases h3 : s.data.toList = [123, 125]
      · obtain rfl := mk_of h3
        clear hbad h2
        go_enter Tryd.func24, Tryd.ntmps24
        go_wp2_with (first | (go_at_call 30; refine (made_any tb m1 _ (Ext.cell (ext_box _ _) h0)).mono ?_; rintro e w' ⟨rfl, rfl⟩) | (go_at_call 22; refine (pTypeName_any _ _ (hT.ext (ext_box _ _))).mono ?_; rintro e w' ⟨rfl, rfl⟩) | (go_at_call 48; refine (plain_any _ _).mono ?_; rintro e w2 ⟨rfl, hb⟩; have hc0 : _ = some _ := new_cell hb 0; have hc1 : _ = some _ := new_cell hb 1; have hc2 : _ = some _ := new_cell hb 2; have hl2 : w.heap.size < w2.heap.size := cell_lt hc0; have hx : Ext w w2 := (ext_box _ _).trans hb; have g0 := hx.cell h0; have g1 := hx.cell h1))
        go_ret
        exact ⟨rfl, hx⟩
      · have e5 := lit_ne h3
        have hsz : 64 < s.size := by
          have n2 : s ≠ ⟨#[91, 93]⟩ := fun e => h2 (by rw [e])
          have n3 : s ≠ ⟨#[123, 125]⟩ := fun e => h3 (by rw [e])
          simpa [nameBad, hp, n2, n3] using hbad
        clear hbad h2 h3
        go_enter Tryd.func24, Tryd.ntmps24
        go_wp2_with (first | (go_at_call 30; refine (made_any tb m1 _ (Ext.cell (ext_box _ _) h0)).mono ?_; rintro e w' ⟨rfl, rfl⟩) | (go_at_call 22; refine (pTypeName_any _ _ (hT.ext (ext_box _ _))).mono ?_; rintro e w' ⟨rfl, rfl⟩) | (go_at_call 48; refine (plain_any _ _).mono ?_; rintro e w2 ⟨rfl, hb⟩; have hc0 : _ = some _ := new_cell hb 0; have hc1 : _ = some _ := new_cell hb 1; have hc2 : _ = some _ := new_cell hb 2; have hl2 : w.heap.size < w2.heap.size := cell_lt hc0; have hx : Ext w w2 := (ext_box _ _).trans hb; have g0 := hx.cell h0; have g1 := hx.cell h1))
        go_ret
        exact ⟨rfl, hx⟩

theorem name_good {s : ByteArray} (h : nameBad s = false) : plainB s = true ∧ (s.toList == [91, 93]) = false ∧ (s.toList == [123, 125]) = false ∧ s.size ≤ 64 := by
  unfold nameBad at h
  simp only [Bool.or_eq_false_iff, Bool.not_eq_false', decide_eq_false_iff_not] at h
  obtain ⟨⟨⟨h1, h2⟩, h3⟩, h4⟩ := h
  exact ⟨h1, lit_ne (fun e => h2 (mk_of e)), lit_ne (fun e => h3 (mk_of e)), by omega⟩

set_option maxHeartbeats 1600000 in
theorem set_none (tb m1 m2 : Nat) (p t : Int) (s : ByteArray) (l : List OpV) (w : World) (h0 : w.cell? ⟨tb, 0, none⟩ = some (.map (some m1))) (h1 : w.cell? ⟨tb, 1, none⟩ = some (.map (some m2))) (hT : TypesAt 0 w) (hm : MapAt Value.string w (mOf t m1 m2) (opsP l)) (hgood : argBad p t = false) (hname : nameBad s = false) (hp : p = 0) (hf : (findO s l).isSome = false) :
    Calls Tryd.prog 24 #[.pointer (some ⟨tb, 0, none⟩), .agg #[.int .i64 p, .int .i64 t, .string s]] w fun e w' => e = .returned (.int .i64 4) ∧ Ext w w' := by
  have eb : tb < w.heap.size := cell_lt h0
  obtain ⟨b1, b2, b3, b4⟩ := arg_good hgood
  obtain ⟨n1, n2, n3, n4⟩ := name_good hname
  have e3 := tname_yes ⟨b3, b4⟩
  have H := Lib.hid hm
  clear hgood hname hm
  have hp' : (p == 0) = true := by simpa using hp
  clear hp
  go_enter Tryd.func24, Tryd.ntmps24
  go_wp2_with (first | (go_at_call 30; refine (made_any tb m1 _ (Ext.cell (ext_box _ _) h0)).mono ?_; rintro e w' ⟨rfl, rfl⟩) | (go_at_call 22; refine (pTypeName_any _ _ (hT.ext (ext_box _ _))).mono ?_; rintro e w' ⟨rfl, rfl⟩) | (go_at_call 48; refine (plain_any _ _).mono ?_; rintro e w2 ⟨rfl, hb⟩; have hc0 : _ = some _ := new_cell hb 0; have hc1 : _ = some _ := new_cell hb 1; have hc2 : _ = some _ := new_cell hb 2; have hl2 : w.heap.size < w2.heap.size := cell_lt hc0; have hx : Ext w w2 := (ext_box _ _).trans hb; have g0 := hx.cell h0; have g1 := hx.cell h1; have hl3 := cell_lt g0) | (go_at_call 49; refine (of_any tb m1 m2 t _ g0 g1).mono ?_; rintro e w' ⟨rfl, rfl⟩) | (at_lookup; refine wpList_lookup_at (P := Tryd.prog) _ rfl _ _ true rfl strKind Tryd.underlying50 Tryd.underlying9 (mOf t m1 m2) rfl s rfl _ zeroOp (opsP l) (H.out.ext hx) ?_; rw [findP_ops, getD_op, isSome_op]; simp only [if_true, opVal_eq]))
  go_ret
  refine ⟨rfl, hx.trans ?_⟩
  (repeat (first | exact Ext.refl _ | refine Ext.setCell ?_ (by simp) _ | refine Ext.alloc ?_ _ | refine Ext.drewN ?_ _ | refine Ext.drew ?_))

set_option maxHeartbeats 1600000 in
theorem set_del (tb m1 m2 : Nat) (p t : Int) (s : ByteArray) (l : List OpV) (w : World) (h0 : w.cell? ⟨tb, 0, none⟩ = some (.map (some m1))) (h1 : w.cell? ⟨tb, 1, none⟩ = some (.map (some m2))) (hT : TypesAt 0 w) (hm : MapAt Value.string w (mOf t m1 m2) (opsP l)) (hgood : argBad p t = false) (hname : nameBad s = false) (hp : p = 0) (hf : (findO s l).isSome = true) :
    Calls Tryd.prog 24 #[.pointer (some ⟨tb, 0, none⟩), .agg #[.int .i64 p, .int .i64 t, .string s]] w fun e w' => e = .returned (.int .i64 0) ∧ MapAt Value.string w' (mOf t m1 m2) (opsP (delO s l)) ∧ Mods [mOf t m1 m2] w w' := by
  have eb : tb < w.heap.size := cell_lt h0
  obtain ⟨b1, b2, b3, b4⟩ := arg_good hgood
  obtain ⟨n1, n2, n3, n4⟩ := name_good hname
  have e3 := tname_yes ⟨b3, b4⟩
  have H := Lib.hid hm
  clear hgood hname hm
  have hp' : (p == 0) = true := by simpa using hp
  clear hp
  go_enter Tryd.func24, Tryd.ntmps24
  go_wp2_with (first | (go_at_call 30; refine (made_any tb m1 _ (Ext.cell (ext_box _ _) h0)).mono ?_; rintro e w' ⟨rfl, rfl⟩) | (go_at_call 22; refine (pTypeName_any _ _ (hT.ext (ext_box _ _))).mono ?_; rintro e w' ⟨rfl, rfl⟩) | (go_at_call 48; refine (plain_any _ _).mono ?_; rintro e w2 ⟨rfl, hb⟩; have hc0 : _ = some _ := new_cell hb 0; have hc1 : _ = some _ := new_cell hb 1; have hc2 : _ = some _ := new_cell hb 2; have hl2 : w.heap.size < w2.heap.size := cell_lt hc0; have hx : Ext w w2 := (ext_box _ _).trans hb; have g0 := hx.cell h0; have g1 := hx.cell h1; have hl3 := cell_lt g0) | (go_at_call 49; refine (of_any tb m1 m2 t _ g0 g1).mono ?_; rintro e w' ⟨rfl, rfl⟩) | (at_lookup; refine wpList_lookup_at (P := Tryd.prog) _ rfl _ _ true rfl strKind Tryd.underlying50 Tryd.underlying9 (mOf t m1 m2) rfl s rfl _ zeroOp (opsP l) (H.out.ext hx) ?_; rw [findP_ops, getD_op, isSome_op]; simp only [if_true, opVal_eq]) | (at_delete; refine wpList_delete_at (P := Tryd.prog) _ rfl _ _ 50 _ rfl strKind Tryd.underlying50 Tryd.underlying9 (m := mOf t m1 m2) (ps := opsP l) rfl ?_ s rfl ?_; (refine H.out.ext (hx.trans ?_); (repeat (first | exact Ext.refl _ | refine Ext.setCell ?_ (by simp) _ | refine Ext.alloc ?_ _ | refine Ext.drewN ?_ _ | refine Ext.drew ?_))); intro w3 hm3 hd3 hs3; rw [delP_ops] at hm3))
  go_ret
  refine ⟨rfl, hm3, (Mods.ext (hx.trans ?_)).trans hd3⟩
  (repeat (first | exact Ext.refl _ | refine Ext.setCell ?_ (by simp) _ | refine Ext.alloc ?_ _ | refine Ext.drewN ?_ _ | refine Ext.drew ?_))

end Go.Proofs.YtckkbghmiomfiaaDoor
