/- Taken out of other seats' texts by extract.py: tables_any, foundI, foundQ, refCheck_any, opsLarge_any, open_ops, rLeft_any, rRight_any. -/
import Derived.Test.YtgcdhffeacdegaaGreatDoorH13
import Derived.Test.YtgcdhffeacdegaaGreatDoorH05
import Derived.Test.YtgcdhffeacdegaaGreatDoorH10
import Derived.Test.YtgcdhffeacdegaaGreatDoorH06
import Derived.Test.YtgcdhffeacdegaaGreatDoorH11
import Derived.Test.YtgcdhffeacdegaaGreatDoorH14
import Derived.Test.YtgcdhffeacdegaaGreatDoorH16
import Derived.Test.YtgcdhffeacdegaaGreatDoorH20
import Derived.Test.YtgcdhffeacdegaaGreatDoorH21
import Derived.Test.YtgcdhffeacdegaaGreatDoorH02
import Derived.IntWalk
import Derived.Maps.OwnOps
import Derived.Maps.OwnSet
import Derived.Deep.RegionLaw
import Derived.Great.Walk
import Derived.Laws.OwnMore
import Derived.OwnWalk
namespace Go.Proofs.YtgcdhffeacdegaaGreatDoor
open Go.RowKit Go.El
set_option maxHeartbeats 400000 in
theorem rPrefix_any (k : Int) (w : World) :
  Calls Tryz.prog 62 #[.int .i64 k] w fun e w' => e = .returned (.bool (preB k)) ∧ w = w' := by
 by_cases h : k = 4
 ·subst h
  go_enter Tryz.func62, Tryz.ntmps62
  go_wp2
  go_ret
  exact ⟨rfl, rfl⟩
 ·have h' : (k == 4) = false := by simpa using h
  go_enter Tryz.func62, Tryz.ntmps62
  go_wp2
  go_ret
  exact ⟨by simp [preB, h'], rfl⟩
theorem arg_good {p t : Int} (h : argBad p t = false) : 0 ≤ p ∧ p ≤ 1200 ∧ 1 ≤ t ∧ t ≤ 5 := by
 have := of_decide_eq_false h
 omega
theorem name_good {s : ByteArray} (h : nameBad s = false) : plainB s = true ∧ (s.toList == [91, 93]) = false ∧ (s.toList == [123, 125]) = false ∧ s.size ≤ 64 := by
 unfold nameBad at h
 simp only [Bool.or_eq_false_iff, Bool.not_eq_false', decide_eq_false_iff_not] at h
 obtain ⟨⟨⟨h1, h2⟩, h3⟩, h4⟩ := h
 exact ⟨h1, lit_ne (fun e => h2 (mk_of e)), lit_ne (fun e => h3 (mk_of e)), by omega⟩
def idxVal (x : Option Nat) : Int := match x with | some k => k | none => -1
theorem isR_beq {s n : ByteArray} (h : s = n) : (s.toList == n.toList) = true := by rw [h]; simp
theorem isR_bne {s n : ByteArray} (h : s ≠ n) : (s.toList == n.toList) = false := by
 rw [ByteArray.toList_eq, ByteArray.toList_eq, beq_eq_false_iff_ne]
 intro e
 exact h (by rw [← Lib.mk_data s, ← Lib.mk_data n, e])
set_option maxHeartbeats 800000 in
theorem rAt_any (rb : Nat) (v : Value) (L : List OpV) (nm : ByteArray) (pre : Bool) (w : World) (h : RefAt 70 w rb v L) :
  Calls Tryz.prog 61 #[.pointer (some ⟨rb, 0, none⟩), .string nm, .bool pre] w fun e w' => e = .returned (.int .i64 (idxVal (idxR nm pre L))) ∧ w = w' := by
 have h0 := h.cell
 have hbd := h.bound
 rcases h.form with ⟨rfl, rfl⟩ | ⟨g, c, rfl, hcs⟩
 ·clear h
  go_enter Tryz.func61, Tryz.ntmps61
  go_wp2_with fail
  go_loop [7] (fun i => i = .int .i64 0) (fun _ => 0)
  case atStart => rfl
  case round =>
   obtain rfl := hrel
   go_wp2_with fail
   go_ret
   exact ⟨rfl, rfl⟩
 ·clear h
  have hcs2 := Lib.hid hcs
  clear hcs
  go_enter Tryz.func61, Tryz.ntmps61
  go_wp2_with fail
  go_loop [7] (fun i => ∃ k : Nat, k ≤ L.length ∧ i = .int .i64 k ∧ ∀ j, j < k → ∀ o, L[j]? = some o → isR nm pre o = false) (fun i => L.length - (intOf i).toNat)
  case atStart => exact ⟨0, Nat.zero_le _, rfl, fun j hj => absurd hj (Nat.not_lt_zero j)⟩
  case round =>
   obtain ⟨k, hk, rfl, hall⟩ := hrel
   by_cases hlt : k < L.length
   ·have ho : L[k]? = some L[k] := List.getElem?_eq_getElem hlt
    generalize L[k] = o at ho
    obtain ⟨_, c1, c2, _⟩ := hcs2.out k o ho
    have hno : isR nm pre o = false → ∀ j, j < k + 1 → ∀ o, L[j]? = some o → isR nm pre o = false := fun hf j hj o' ho' => by
     by_cases hjk : j = k
     ·subst hjk
      rw [ho] at ho'
      cases ho'
      exact hf
     ·exact hall j (by omega) o' ho'
    have Hyes := Lib.hid (fun hf : isR nm pre o = true => idxR_some ho hf hall)
    have Hno := Lib.hid hno
    clear hno hall
    have Ho := Lib.hid ho
    clear ho
    by_cases hs : o.s = nm
    ·have e1 := isR_beq hs
     have HS := Lib.hid hs
     clear hs
     cases hp : preB o.t <;> cases pre
     all_goals
      go_wp2_with (go_at_call 62; refine (rPrefix_any _ _).mono ?_; rintro e w' ⟨rfl, rfl⟩)
      first
       | (go_ret
          exact ⟨by rw [Hyes.out (by simp [isR, HS.out, hp])]; rfl, rfl⟩)
       | (go_round
          case rel => exact ⟨k + 1, hlt, by go_num, Hno.out (by simp [isR, HS.out, hp])⟩
          case measure => simp [intOf]; omega)
    ·have e1 := isR_bne hs
     have HS := Lib.hid hs
     clear hs
     go_wp2_with (go_at_call 62; refine (rPrefix_any _ _).mono ?_; rintro e w' ⟨rfl, rfl⟩)
     go_round
     case rel => exact ⟨k + 1, hlt, by go_num, Hno.out (by simp [isR, HS.out])⟩
     case measure => simp [intOf]; omega
   ·have HE := Lib.hid (idxR_none (s := nm) (pre := pre) (L := L) (fun j hj => hall j (by omega)))
    clear hall
    go_wp2_with fail
    go_ret
    exact ⟨by rw [HE.out]; rfl, rfl⟩
set_option maxHeartbeats 800000 in
theorem set_arg (tb m1 : Nat) (p t : Int) (s : ByteArray) (w : World) (h0 : w.cell? ⟨tb, 0, none⟩ = some (.map (some m1))) (hT : TypesAt 0 w) (hbad : argBad p t = true) :
  Calls Tryz.prog 38 #[.pointer (some ⟨tb, 0, none⟩), .agg #[.int .i64 p, .int .i64 t, .string s]] w fun e w' => e = .returned (.int .i64 1) ∧ Ext w w' := by
 have eb : tb < w.heap.size := cell_lt h0
 have hb : p < 0 ∨ (0 ≤ p ∧ 1200 < p) ∨ (0 ≤ p ∧ p ≤ 1200 ∧ ¬ (1 ≤ t ∧ t ≤ 5)) := by
  have := of_decide_eq_true hbad
  omega
 clear hbad
 rcases hb with hb | ⟨hb1, hb2⟩ | ⟨hb1, hb2, hb3⟩
 ·go_enter Tryz.func38, Tryz.ntmps38
  go_wp2_with (go_at_call 56; refine (made_any tb m1 _ (Ext.cell (ext_box _ _) h0)).mono ?_; rintro e w' ⟨rfl, rfl⟩)
  go_ret
  exact ⟨rfl, ext_box _ _⟩
 ·go_enter Tryz.func38, Tryz.ntmps38
  go_wp2_with (go_at_call 56; refine (made_any tb m1 _ (Ext.cell (ext_box _ _) h0)).mono ?_; rintro e w' ⟨rfl, rfl⟩)
  go_ret
  exact ⟨rfl, ext_box _ _⟩
 ·have e3 := tname_no hb3
  clear hb3
  go_enter Tryz.func38, Tryz.ntmps38
  go_wp2_with (first | (go_at_call 56; refine (made_any tb m1 _ (Ext.cell (ext_box _ _) h0)).mono ?_; rintro e w' ⟨rfl, rfl⟩) | (go_at_call 57; refine (pTypeName_any _ _ (hT.ext (ext_box _ _))).mono ?_; rintro e w' ⟨rfl, rfl⟩))
  go_ret
  exact ⟨rfl, ext_box _ _⟩
set_option maxHeartbeats 800000 in
theorem set_name (tb m1 m2 : Nat) (p t : Int) (s : ByteArray) (w : World) (h0 : w.cell? ⟨tb, 0, none⟩ = some (.map (some m1))) (h1 : w.cell? ⟨tb, 1, none⟩ = some (.map (some m2))) (hT : TypesAt 0 w) (hgood : argBad p t = false) (hbad : nameBad s = true) :
  Calls Tryz.prog 38 #[.pointer (some ⟨tb, 0, none⟩), .agg #[.int .i64 p, .int .i64 t, .string s]] w fun e w' => e = .returned (.int .i64 90) ∧ Ext w w' := by
 have eb : tb < w.heap.size := cell_lt h0
 obtain ⟨b1, b2, b3, b4⟩ := arg_good hgood
 have e3 := tname_yes ⟨b3, b4⟩
 clear hgood
 cases hp : plainB s
 ·clear hbad
  go_enter Tryz.func38, Tryz.ntmps38
  go_wp2_with (first | (go_at_call 56; refine (made_any tb m1 _ (Ext.cell (ext_box _ _) h0)).mono ?_; rintro e w' ⟨rfl, rfl⟩) | (go_at_call 57; refine (pTypeName_any _ _ (hT.ext (ext_box _ _))).mono ?_; rintro e w' ⟨rfl, rfl⟩) | (go_at_call 58; refine (plain_any _ _).mono ?_; rintro e w2 ⟨rfl, hb⟩; have hc0 : _ = some _ := new_cell hb 0; have hc1 : _ = some _ := new_cell hb 1; have hc2 : _ = some _ := new_cell hb 2; have hl2 : w.heap.size < w2.heap.size := cell_lt hc0; have hx : Ext w w2 := (ext_box _ _).trans hb; have g0 := hx.cell h0; have g1 := hx.cell h1))
  go_ret
  exact ⟨rfl, hx⟩
 ·by_cases h2 : s.data.toList = [91, 93]
  ·obtain rfl := mk_of h2
   clear hbad
   go_enter Tryz.func38, Tryz.ntmps38
   go_wp2_with (first | (go_at_call 56; refine (made_any tb m1 _ (Ext.cell (ext_box _ _) h0)).mono ?_; rintro e w' ⟨rfl, rfl⟩) | (go_at_call 57; refine (pTypeName_any _ _ (hT.ext (ext_box _ _))).mono ?_; rintro e w' ⟨rfl, rfl⟩) | (go_at_call 58; refine (plain_any _ _).mono ?_; rintro e w2 ⟨rfl, hb⟩; have hc0 : _ = some _ := new_cell hb 0; have hc1 : _ = some _ := new_cell hb 1; have hc2 : _ = some _ := new_cell hb 2; have hl2 : w.heap.size < w2.heap.size := cell_lt hc0; have hx : Ext w w2 := (ext_box _ _).trans hb; have g0 := hx.cell h0; have g1 := hx.cell h1))
   go_ret
   exact ⟨rfl, hx⟩
  ·have e4 := lit_ne h2
   by_cases h3 : s.data.toList = [123, 125]
   ·obtain rfl := mk_of h3
    clear hbad h2
    go_enter Tryz.func38, Tryz.ntmps38
    go_wp2_with (first | (go_at_call 56; refine (made_any tb m1 _ (Ext.cell (ext_box _ _) h0)).mono ?_; rintro e w' ⟨rfl, rfl⟩) | (go_at_call 57; refine (pTypeName_any _ _ (hT.ext (ext_box _ _))).mono ?_; rintro e w' ⟨rfl, rfl⟩) | (go_at_call 58; refine (plain_any _ _).mono ?_; rintro e w2 ⟨rfl, hb⟩; have hc0 : _ = some _ := new_cell hb 0; have hc1 : _ = some _ := new_cell hb 1; have hc2 : _ = some _ := new_cell hb 2; have hl2 : w.heap.size < w2.heap.size := cell_lt hc0; have hx : Ext w w2 := (ext_box _ _).trans hb; have g0 := hx.cell h0; have g1 := hx.cell h1))
    go_ret
    exact ⟨rfl, hx⟩
   ·have e5 := lit_ne h3
    have hsz : 64 < s.size := by
     have n2 : s ≠ ⟨#[91, 93]⟩ := fun e => h2 (by rw [e])
     have n3 : s ≠ ⟨#[123, 125]⟩ := fun e => h3 (by rw [e])
     simpa [nameBad, hp, n2, n3] using hbad
    clear hbad h2 h3
    go_enter Tryz.func38, Tryz.ntmps38
    go_wp2_with (first | (go_at_call 56; refine (made_any tb m1 _ (Ext.cell (ext_box _ _) h0)).mono ?_; rintro e w' ⟨rfl, rfl⟩) | (go_at_call 57; refine (pTypeName_any _ _ (hT.ext (ext_box _ _))).mono ?_; rintro e w' ⟨rfl, rfl⟩) | (go_at_call 58; refine (plain_any _ _).mono ?_; rintro e w2 ⟨rfl, hb⟩; have hc0 : _ = some _ := new_cell hb 0; have hc1 : _ = some _ := new_cell hb 1; have hc2 : _ = some _ := new_cell hb 2; have hl2 : w.heap.size < w2.heap.size := cell_lt hc0; have hx : Ext w w2 := (ext_box _ _).trans hb; have g0 := hx.cell h0; have g1 := hx.cell h1))
    go_ret
    exact ⟨rfl, hx⟩
set_option maxHeartbeats 1600000 in
theorem set_none (tb m1 m2 : Nat) (p t : Int) (s : ByteArray) (l : List OpV) (w : World) (h0 : w.cell? ⟨tb, 0, none⟩ = some (.map (some m1))) (h1 : w.cell? ⟨tb, 1, none⟩ = some (.map (some m2))) (hT : TypesAt 0 w) (hm : MapAt Value.string w (mOf t m1 m2) (opsP l)) (hgood : argBad p t = false) (hname : nameBad s = false) (hp : p = 0) (hf : (findO s l).isSome = false) :
  Calls Tryz.prog 38 #[.pointer (some ⟨tb, 0, none⟩), .agg #[.int .i64 p, .int .i64 t, .string s]] w fun e w' => e = .returned (.int .i64 4) ∧ Ext w w' := by
 have eb : tb < w.heap.size := cell_lt h0
 obtain ⟨b1, b2, b3, b4⟩ := arg_good hgood
 obtain ⟨n1, n2, n3, n4⟩ := name_good hname
 have e3 := tname_yes ⟨b3, b4⟩
 have H := Lib.hid hm
 clear hgood hname hm
 have hp' : (p == 0) = true := by simpa using hp
 clear hp
 go_enter Tryz.func38, Tryz.ntmps38
 go_wp2_with (first | (go_at_call 56; refine (made_any tb m1 _ (Ext.cell (ext_box _ _) h0)).mono ?_; rintro e w' ⟨rfl, rfl⟩) | (go_at_call 57; refine (pTypeName_any _ _ (hT.ext (ext_box _ _))).mono ?_; rintro e w' ⟨rfl, rfl⟩) | (go_at_call 58; refine (plain_any _ _).mono ?_; rintro e w2 ⟨rfl, hb⟩; have hc0 : _ = some _ := new_cell hb 0; have hc1 : _ = some _ := new_cell hb 1; have hc2 : _ = some _ := new_cell hb 2; have hl2 : w.heap.size < w2.heap.size := cell_lt hc0; have hx : Ext w w2 := (ext_box _ _).trans hb; have g0 := hx.cell h0; have g1 := hx.cell h1; have hl3 := cell_lt g0) | (go_at_call 59; refine (of_any tb m1 m2 t _ g0 g1).mono ?_; rintro e w' ⟨rfl, rfl⟩) | (at_lookup; refine wpList_lookup_at (P := Tryz.prog) _ rfl _ _ true rfl strKind Tryz.underlying95 Tryz.underlying9 (mOf t m1 m2) rfl s rfl _ zeroOp (opsP l) (H.out.ext hx) ?_; rw [findP_ops, getD_op, isSome_op]; simp only [if_true, opVal_eq]))
 go_ret
 refine ⟨rfl, hx.trans ?_⟩
 (repeat (first | exact Ext.refl _ | refine Ext.setCell ?_ (by simp) _ | refine Ext.alloc ?_ _ | refine Ext.drewN ?_ _ | refine Ext.drew ?_))
set_option maxHeartbeats 1600000 in
theorem set_del (tb m1 m2 : Nat) (p t : Int) (s : ByteArray) (l : List OpV) (w : World) (h0 : w.cell? ⟨tb, 0, none⟩ = some (.map (some m1))) (h1 : w.cell? ⟨tb, 1, none⟩ = some (.map (some m2))) (hT : TypesAt 0 w) (hm : MapAt Value.string w (mOf t m1 m2) (opsP l)) (hgood : argBad p t = false) (hname : nameBad s = false) (hp : p = 0) (hf : (findO s l).isSome = true) :
  Calls Tryz.prog 38 #[.pointer (some ⟨tb, 0, none⟩), .agg #[.int .i64 p, .int .i64 t, .string s]] w fun e w' => e = .returned (.int .i64 0) ∧ MapAt Value.string w' (mOf t m1 m2) (opsP (delO s l)) ∧ Mods [mOf t m1 m2] w w' := by
 have eb : tb < w.heap.size := cell_lt h0
 obtain ⟨b1, b2, b3, b4⟩ := arg_good hgood
 obtain ⟨n1, n2, n3, n4⟩ := name_good hname
 have e3 := tname_yes ⟨b3, b4⟩
 have H := Lib.hid hm
 clear hgood hname hm
 have hp' : (p == 0) = true := by simpa using hp
 clear hp
 go_enter Tryz.func38, Tryz.ntmps38
 go_wp2_with (first | (go_at_call 56; refine (made_any tb m1 _ (Ext.cell (ext_box _ _) h0)).mono ?_; rintro e w' ⟨rfl, rfl⟩) | (go_at_call 57; refine (pTypeName_any _ _ (hT.ext (ext_box _ _))).mono ?_; rintro e w' ⟨rfl, rfl⟩) | (go_at_call 58; refine (plain_any _ _).mono ?_; rintro e w2 ⟨rfl, hb⟩; have hc0 : _ = some _ := new_cell hb 0; have hc1 : _ = some _ := new_cell hb 1; have hc2 : _ = some _ := new_cell hb 2; have hl2 : w.heap.size < w2.heap.size := cell_lt hc0; have hx : Ext w w2 := (ext_box _ _).trans hb; have g0 := hx.cell h0; have g1 := hx.cell h1; have hl3 := cell_lt g0) | (go_at_call 59; refine (of_any tb m1 m2 t _ g0 g1).mono ?_; rintro e w' ⟨rfl, rfl⟩) | (at_lookup; refine wpList_lookup_at (P := Tryz.prog) _ rfl _ _ true rfl strKind Tryz.underlying95 Tryz.underlying9 (mOf t m1 m2) rfl s rfl _ zeroOp (opsP l) (H.out.ext hx) ?_; rw [findP_ops, getD_op, isSome_op]; simp only [if_true, opVal_eq]) | (at_delete; refine wpList_delete_at (P := Tryz.prog) _ rfl _ _ 95 _ rfl strKind Tryz.underlying95 Tryz.underlying9 (m := mOf t m1 m2) (ps := opsP l) rfl ?_ s rfl ?_; (refine H.out.ext (hx.trans ?_); (repeat (first | exact Ext.refl _ | refine Ext.setCell ?_ (by simp) _ | refine Ext.alloc ?_ _ | refine Ext.drewN ?_ _ | refine Ext.drew ?_))); intro w3 hm3 hd3 hs3; rw [delP_ops] at hm3))
 go_ret
 refine ⟨rfl, hm3, (Mods.ext (hx.trans ?_)).trans hd3⟩
 (repeat (first | exact Ext.refl _ | refine Ext.setCell ?_ (by simp) _ | refine Ext.alloc ?_ _ | refine Ext.drewN ?_ _ | refine Ext.drew ?_))
set_option maxHeartbeats 1600000 in
theorem set_full (tb m1 m2 : Nat) (p t : Int) (s : ByteArray) (l I Q : List OpV) (w : World) (h0 : w.cell? ⟨tb, 0, none⟩ = some (.map (some m1))) (h1 : w.cell? ⟨tb, 1, none⟩ = some (.map (some m2))) (hT : TypesAt 0 w) (hm : MapAt Value.string w (mOf t m1 m2) (opsP l)) (hm1 : MapAt Value.string w m1 (opsP I)) (hm2 : MapAt Value.string w m2 (opsP Q)) (hgood : argBad p t = false) (hname : nameBad s = false) (hp : p ≠ 0) (hf : (findO s l).isSome = false) (hlen : 64 ≤ I.length + Q.length) (hmax : I.length + Q.length ≤ 1000) :
  Calls Tryz.prog 38 #[.pointer (some ⟨tb, 0, none⟩), .agg #[.int .i64 p, .int .i64 t, .string s]] w fun e w' => e = .returned (.int .i64 2) ∧ Ext w w' := by
 have eb : tb < w.heap.size := cell_lt h0
 obtain ⟨b1, b2, b3, b4⟩ := arg_good hgood
 obtain ⟨n1, n2, n3, n4⟩ := name_good hname
 have e3 := tname_yes ⟨b3, b4⟩
 have H := Lib.hid hm
 have H1 := Lib.hid hm1
 have H2 := Lib.hid hm2
 clear hgood hname hm hm1 hm2
 have hp' : (p == 0) = false := by simpa using hp
 clear hp
 go_enter Tryz.func38, Tryz.ntmps38
 go_upto_region 14 with (first | (go_at_call 56; refine (made_any tb m1 _ (Ext.cell (ext_box _ _) h0)).mono ?_; rintro e w' ⟨rfl, rfl⟩) | (go_at_call 57; refine (pTypeName_any _ _ (hT.ext (ext_box _ _))).mono ?_; rintro e w' ⟨rfl, rfl⟩) | (go_at_call 58; refine (plain_any _ _).mono ?_; rintro e w2 ⟨rfl, hb⟩; have hc0 : _ = some _ := new_cell hb 0; have hc1 : _ = some _ := new_cell hb 1; have hc2 : _ = some _ := new_cell hb 2; have hl2 : w.heap.size < w2.heap.size := cell_lt hc0; have hx : Ext w w2 := (ext_box _ _).trans hb; have g0 := hx.cell h0; have g1 := hx.cell h1; have hl3 := cell_lt g0) | (go_at_call 59; refine (of_any tb m1 m2 t _ g0 g1).mono ?_; rintro e w' ⟨rfl, rfl⟩) | (at_lookup; refine wpList_lookup_at (P := Tryz.prog) _ rfl _ _ true rfl strKind Tryz.underlying95 Tryz.underlying9 (mOf t m1 m2) rfl s rfl _ zeroOp (opsP l) (H.out.ext hx) ?_; rw [findP_ops, getD_op, isSome_op]; simp only [if_true, opVal_eq]))
 refine wp_abs (fun W => Ext w W ∧ W.cell? ⟨w.heap.size, 0, none⟩ = some (.int .i64 p)) ⟨?_, ?_⟩ ?_
 ·refine hx.trans ?_
  (repeat (first | exact Ext.refl _ | refine Ext.setCell ?_ (by simp) _ | refine Ext.alloc ?_ _ | refine Ext.drewN ?_ _ | refine Ext.drew ?_))
 ·refine Ext.cell (w := w2) ?_ hc0
  (repeat (first | exact Ext.refl _ | refine Ext.setCell ?_ (by simp) _ | refine Ext.alloc ?_ _))
 rintro W ⟨hxW, hW0⟩
 have k0 := hxW.cell h0
 have k1 := hxW.cell h1
 have q1 := fun n ty => (H1.out.ext (hxW.drewN n)).run_len (P := Tryz.prog) Tryz.underlying95 ty
 have q2 := fun n ty => (H2.out.ext (hxW.drewN n)).run_len (P := Tryz.prog) Tryz.underlying95 ty
 simp only [len_ops] at q1 q2
 have ha : IntKind.i64.wrap ((I.length : Int) + (Q.length : Int)) = (I.length : Int) + (Q.length : Int) := IntWalk.i64_in _ (by omega)
 have hb64 : decide (64 ≤ (I.length : Int) + (Q.length : Int)) = true := by simp; omega
 go_quiet (fail)
 go_wp2_with fail
 go_ret
 exact ⟨rfl, hxW.drewN _⟩
set_option maxHeartbeats 1600000 in
theorem set_put (tb m1 m2 : Nat) (p t : Int) (s : ByteArray) (l I Q : List OpV) (w : World) (h0 : w.cell? ⟨tb, 0, none⟩ = some (.map (some m1))) (h1 : w.cell? ⟨tb, 1, none⟩ = some (.map (some m2))) (hT : TypesAt 0 w) (hm : MapAt Value.string w (mOf t m1 m2) (opsP l)) (hm1 : MapAt Value.string w m1 (opsP I)) (hm2 : MapAt Value.string w m2 (opsP Q)) (hgood : argBad p t = false) (hname : nameBad s = false) (hp : p ≠ 0) (hf : (findO s l).isSome = false) (hlen : I.length + Q.length < 64) :
  Calls Tryz.prog 38 #[.pointer (some ⟨tb, 0, none⟩), .agg #[.int .i64 p, .int .i64 t, .string s]] w fun e w' => e = .returned (.int .i64 0) ∧ MapAt Value.string w' (mOf t m1 m2) (opsP (setO ⟨p, t, s⟩ l)) ∧ Mods [mOf t m1 m2] w w' := by
 have eb : tb < w.heap.size := cell_lt h0
 obtain ⟨b1, b2, b3, b4⟩ := arg_good hgood
 obtain ⟨n1, n2, n3, n4⟩ := name_good hname
 have e3 := tname_yes ⟨b3, b4⟩
 have H := Lib.hid hm
 have H1 := Lib.hid hm1
 have H2 := Lib.hid hm2
 clear hgood hname hm hm1 hm2
 have hp' : (p == 0) = false := by simpa using hp
 clear hp
 go_enter Tryz.func38, Tryz.ntmps38
 go_upto_region 14 with (first | (go_at_call 56; refine (made_any tb m1 _ (Ext.cell (ext_box _ _) h0)).mono ?_; rintro e w' ⟨rfl, rfl⟩) | (go_at_call 57; refine (pTypeName_any _ _ (hT.ext (ext_box _ _))).mono ?_; rintro e w' ⟨rfl, rfl⟩) | (go_at_call 58; refine (plain_any _ _).mono ?_; rintro e w2 ⟨rfl, hb⟩; have hc0 : _ = some _ := new_cell hb 0; have hc1 : _ = some _ := new_cell hb 1; have hc2 : _ = some _ := new_cell hb 2; have hl2 : w.heap.size < w2.heap.size := cell_lt hc0; have hx : Ext w w2 := (ext_box _ _).trans hb; have g0 := hx.cell h0; have g1 := hx.cell h1; have hl3 := cell_lt g0) | (go_at_call 59; refine (of_any tb m1 m2 t _ g0 g1).mono ?_; rintro e w' ⟨rfl, rfl⟩) | (at_lookup; refine wpList_lookup_at (P := Tryz.prog) _ rfl _ _ true rfl strKind Tryz.underlying95 Tryz.underlying9 (mOf t m1 m2) rfl s rfl _ zeroOp (opsP l) (H.out.ext hx) ?_; rw [findP_ops, getD_op, isSome_op]; simp only [if_true, opVal_eq]))
 refine wp_abs (fun W => Ext w W ∧ W.cell? ⟨w.heap.size, 0, none⟩ = some (.int .i64 p) ∧ W.cell? ⟨w.heap.size, 1, none⟩ = some (.int .i64 t) ∧ W.cell? ⟨w.heap.size, 2, none⟩ = some (.string s)) ⟨?_, ?_, ?_, ?_⟩ ?_
 ·refine hx.trans ?_
  (repeat (first | exact Ext.refl _ | refine Ext.setCell ?_ (by simp) _ | refine Ext.alloc ?_ _ | refine Ext.drewN ?_ _ | refine Ext.drew ?_))
 ·refine Ext.cell (w := w2) ?_ hc0
  (repeat (first | exact Ext.refl _ | refine Ext.setCell ?_ (by simp) _ | refine Ext.alloc ?_ _))
 ·refine Ext.cell (w := w2) ?_ hc1
  (repeat (first | exact Ext.refl _ | refine Ext.setCell ?_ (by simp) _ | refine Ext.alloc ?_ _))
 ·refine Ext.cell (w := w2) ?_ hc2
  (repeat (first | exact Ext.refl _ | refine Ext.setCell ?_ (by simp) _ | refine Ext.alloc ?_ _))
 rintro W ⟨hxW, hW0, hW1, hW2⟩
 have k0 := hxW.cell h0
 have k1 := hxW.cell h1
 have q1 := fun n ty => (H1.out.ext (hxW.drewN n)).run_len (P := Tryz.prog) Tryz.underlying95 ty
 have q2 := fun n ty => (H2.out.ext (hxW.drewN n)).run_len (P := Tryz.prog) Tryz.underlying95 ty
 simp only [len_ops] at q1 q2
 have ha : IntKind.i64.wrap ((I.length : Int) + (Q.length : Int)) = (I.length : Int) + (Q.length : Int) := IntWalk.i64_in _ (by omega)
 have hb64 : decide (64 ≤ (I.length : Int) + (Q.length : Int)) = false := by simp; omega
 go_quiet (fail)
 go_wp2_with (at_mapUpdate; refine wpList_mapUpdate_at (P := Tryz.prog) _ rfl _ _ _ 95 rfl strKind Tryz.underlying95 Tryz.underlying9 (m := mOf t m1 m2) (ps := opsP l) rfl (H.out.ext (hxW.drewN _)) s (opVal ⟨p, t, s⟩) rfl rfl ?_; intro w3 hm3 hd3 hs3; rw [setP_ops ⟨p, t, s⟩] at hm3)
 go_ret
 exact ⟨rfl, hm3, (Mods.ext (hxW.drewN _)).trans hd3⟩
set_option maxHeartbeats 1600000 in
theorem set_again (tb m1 m2 : Nat) (p t : Int) (s : ByteArray) (l : List OpV) (w : World) (h0 : w.cell? ⟨tb, 0, none⟩ = some (.map (some m1))) (h1 : w.cell? ⟨tb, 1, none⟩ = some (.map (some m2))) (hT : TypesAt 0 w) (hm : MapAt Value.string w (mOf t m1 m2) (opsP l)) (hgood : argBad p t = false) (hname : nameBad s = false) (hp : p ≠ 0) (hf : (findO s l).isSome = true) :
  Calls Tryz.prog 38 #[.pointer (some ⟨tb, 0, none⟩), .agg #[.int .i64 p, .int .i64 t, .string s]] w fun e w' => e = .returned (.int .i64 0) ∧ MapAt Value.string w' (mOf t m1 m2) (opsP (setO ⟨p, t, s⟩ l)) ∧ Mods [mOf t m1 m2] w w' := by
 have eb : tb < w.heap.size := cell_lt h0
 obtain ⟨b1, b2, b3, b4⟩ := arg_good hgood
 obtain ⟨n1, n2, n3, n4⟩ := name_good hname
 have e3 := tname_yes ⟨b3, b4⟩
 have H := Lib.hid hm
 clear hgood hname hm
 have hp' : (p == 0) = false := by simpa using hp
 clear hp
 go_enter Tryz.func38, Tryz.ntmps38
 go_upto_region 14 with (first | (go_at_call 56; refine (made_any tb m1 _ (Ext.cell (ext_box _ _) h0)).mono ?_; rintro e w' ⟨rfl, rfl⟩) | (go_at_call 57; refine (pTypeName_any _ _ (hT.ext (ext_box _ _))).mono ?_; rintro e w' ⟨rfl, rfl⟩) | (go_at_call 58; refine (plain_any _ _).mono ?_; rintro e w2 ⟨rfl, hb⟩; have hc0 : _ = some _ := new_cell hb 0; have hc1 : _ = some _ := new_cell hb 1; have hc2 : _ = some _ := new_cell hb 2; have hl2 : w.heap.size < w2.heap.size := cell_lt hc0; have hx : Ext w w2 := (ext_box _ _).trans hb; have g0 := hx.cell h0; have g1 := hx.cell h1; have hl3 := cell_lt g0) | (go_at_call 59; refine (of_any tb m1 m2 t _ g0 g1).mono ?_; rintro e w' ⟨rfl, rfl⟩) | (at_lookup; refine wpList_lookup_at (P := Tryz.prog) _ rfl _ _ true rfl strKind Tryz.underlying95 Tryz.underlying9 (mOf t m1 m2) rfl s rfl _ zeroOp (opsP l) (H.out.ext hx) ?_; rw [findP_ops, getD_op, isSome_op]; simp only [if_true, opVal_eq]))
 refine wp_abs (fun W => Ext w W ∧ W.cell? ⟨w.heap.size, 0, none⟩ = some (.int .i64 p) ∧ W.cell? ⟨w.heap.size, 1, none⟩ = some (.int .i64 t) ∧ W.cell? ⟨w.heap.size, 2, none⟩ = some (.string s)) ⟨?_, ?_, ?_, ?_⟩ ?_
 ·refine hx.trans ?_
  (repeat (first | exact Ext.refl _ | refine Ext.setCell ?_ (by simp) _ | refine Ext.alloc ?_ _ | refine Ext.drewN ?_ _ | refine Ext.drew ?_))
 ·refine Ext.cell (w := w2) ?_ hc0
  (repeat (first | exact Ext.refl _ | refine Ext.setCell ?_ (by simp) _ | refine Ext.alloc ?_ _))
 ·refine Ext.cell (w := w2) ?_ hc1
  (repeat (first | exact Ext.refl _ | refine Ext.setCell ?_ (by simp) _ | refine Ext.alloc ?_ _))
 ·refine Ext.cell (w := w2) ?_ hc2
  (repeat (first | exact Ext.refl _ | refine Ext.setCell ?_ (by simp) _ | refine Ext.alloc ?_ _))
 rintro W ⟨hxW, hW0, hW1, hW2⟩
 go_quiet (fail)
 go_wp2_with (at_mapUpdate; refine wpList_mapUpdate_at (P := Tryz.prog) _ rfl _ _ _ 95 rfl strKind Tryz.underlying95 Tryz.underlying9 (m := mOf t m1 m2) (ps := opsP l) rfl (H.out.ext (hxW.drewN _)) s (opVal ⟨p, t, s⟩) rfl rfl ?_; intro w3 hm3 hd3 hs3; rw [setP_ops ⟨p, t, s⟩] at hm3)
 go_ret
 exact ⟨rfl, hm3, (Mods.ext (hxW.drewN _)).trans hd3⟩
theorem pSet_any (tb m1 m2 : Nat) (o : OpV) (I Q : List OpV) (w : World) (hT : TypesAt 0 w) (h : TabAt w tb m1 m2 I Q) (hmax : I.length + Q.length ≤ 1000) :
  Calls Tryz.prog 38 #[.pointer (some ⟨tb, 0, none⟩), .agg #[.int .i64 o.p, .int .i64 o.t, .string o.s]] w fun e w' => e = .returned (.int .i64 (errT o I Q)) ∧ TabAt w' tb m1 m2 (nextI o I Q) (nextQ o I Q) ∧ Mods [m1, m2] w w' := by
 have hm : MapAt Value.string w (mOf o.t m1 m2) (opsP (opsOf o I Q)) := by
  unfold mOf opsOf
  cases preB o.t
  ·exact h.mi
  ·exact h.mq
 have keep : ∀ w', Ext w w' → actT o I Q = 0 → TabAt w' tb m1 m2 (nextI o I Q) (nextQ o I Q) ∧ Mods [m1, m2] w w' := fun w' he ha => by
  have e1 : nextI o I Q = I := by unfold nextI; rw [ha]; simp [doO]
  have e2 : nextQ o I Q = Q := by unfold nextQ; rw [ha]; simp [doO]
  rw [e1, e2]
  exact ⟨h.ext he, Mods.ext he⟩
 have turn : ∀ w', MapAt Value.string w' (mOf o.t m1 m2) (opsP (doO (actT o I Q) o (opsOf o I Q))) → Mods [mOf o.t m1 m2] w w' → TabAt w' tb m1 m2 (nextI o I Q) (nextQ o I Q) ∧ Mods [m1, m2] w w' := fun w' hm' hd => by
  have t1 := h.tb1
  have t2 := h.tb2
  have ne := h.ne
  unfold nextI nextQ
  unfold mOf opsOf at hm'
  unfold mOf at hd
  cases hp : preB o.t
  ·rw [hp] at hm' hd
   exact ⟨⟨hd.cell h.c0 (by simpa using t1), hd.cell h.c1 (by simpa using t1), ne, hm', h.mq.mods hd (by simpa using ne.symm)⟩, hd.mono (by simp)⟩
  ·rw [hp] at hm' hd
   exact ⟨⟨hd.cell h.c0 (by simpa using t2), hd.cell h.c1 (by simpa using t2), ne, h.mi.mods hd (by simpa using ne), hm'⟩, hd.mono (by simp)⟩
 obtain ⟨p, t, s⟩ := o
 rcases set_cases ⟨p, t, s⟩ (foundT ⟨p, t, s⟩ I Q) (I.length + Q.length) with ⟨h1, he, ha⟩ | ⟨h1, h2, he, ha⟩ | ⟨h1, h2, h3, h4, he, ha⟩ | ⟨h1, h2, h3, h4, he, ha⟩ | ⟨h1, h2, h3, h4, h5, he, ha⟩ | ⟨h1, h2, h3, h4, he, ha⟩
 ·exact (set_arg tb m1 p t s w h.c0 hT h1).mono fun e w' ⟨e1, e2⟩ => ⟨by rw [e1]; unfold errT; rw [he], keep w' e2 ha⟩
 ·exact (set_name tb m1 m2 p t s w h.c0 h.c1 hT h1 h2).mono fun e w' ⟨e1, e2⟩ => ⟨by rw [e1]; unfold errT; rw [he], keep w' e2 ha⟩
 ·exact (set_none tb m1 m2 p t s _ w h.c0 h.c1 hT hm h1 h2 h3 h4).mono fun e w' ⟨e1, e2⟩ => ⟨by rw [e1]; unfold errT; rw [he], keep w' e2 ha⟩
 ·refine (set_del tb m1 m2 p t s _ w h.c0 h.c1 hT hm h1 h2 h3 h4).mono fun e w' ⟨e1, e2, e3⟩ => ⟨by rw [e1]; unfold errT; rw [he], turn w' ?_ e3⟩
  have : actT ⟨p, t, s⟩ I Q = 1 := ha
  rw [this]
  exact e2
 ·exact (set_full tb m1 m2 p t s _ I Q w h.c0 h.c1 hT hm h.mi h.mq h1 h2 h3 h4 h5 hmax).mono fun e w' ⟨e1, e2⟩ => ⟨by rw [e1]; unfold errT; rw [he], keep w' e2 ha⟩
 ·have ha' : actT ⟨p, t, s⟩ I Q = 2 := ha
  cases hf : foundT ⟨p, t, s⟩ I Q
  ·rw [hf] at h4
   refine (set_put tb m1 m2 p t s _ I Q w h.c0 h.c1 hT hm h.mi h.mq h1 h2 h3 hf (by simpa using h4)).mono fun e w' ⟨e1, e2, e3⟩ => ⟨by rw [e1]; unfold errT; rw [he], turn w' ?_ e3⟩
   rw [ha']
   exact e2
  ·refine (set_again tb m1 m2 p t s _ w h.c0 h.c1 hT hm h1 h2 h3 hf).mono fun e w' ⟨e1, e2, e3⟩ => ⟨by rw [e1]; unfold errT; rw [he], turn w' ?_ e3⟩
   rw [ha']
   exact e2
set_option maxHeartbeats 800000 in
theorem rset_arg (rb : Nat) (p t : Int) (s : ByteArray) (w : World) (hbad : argBad p t = true) :
  Calls Tryz.prog 39 #[.pointer (some ⟨rb, 0, none⟩), .agg #[.int .i64 p, .int .i64 t, .string s]] w fun e w' => e = .returned (.int .i64 1) ∧ Ext w w' := by
 have hb : p < 0 ∨ (0 ≤ p ∧ 1200 < p) ∨ (0 ≤ p ∧ p ≤ 1200 ∧ t < 1) ∨ (0 ≤ p ∧ p ≤ 1200 ∧ 1 ≤ t ∧ 5 < t) := by
  have := of_decide_eq_true hbad
  omega
 clear hbad
 rcases hb with hb | ⟨hb1, hb2⟩ | ⟨hb1, hb2, hb3⟩ | ⟨hb1, hb2, hb3, hb4⟩
 all_goals
  go_enter Tryz.func39, Tryz.ntmps39
  go_wp2_with fail
  go_ret
  exact ⟨rfl, ext_box _ _⟩
set_option maxHeartbeats 800000 in
theorem rset_name (rb : Nat) (p t : Int) (s : ByteArray) (w : World) (hsz : s.size ≤ 9223372036854775807) (hgood : argBad p t = false) (hbad : nameBad s = true) :
  Calls Tryz.prog 39 #[.pointer (some ⟨rb, 0, none⟩), .agg #[.int .i64 p, .int .i64 t, .string s]] w fun e w' => e = .returned (.int .i64 90) ∧ Ext w w' := by
 obtain ⟨b1, b2, b3, b4⟩ := arg_good hgood
 clear hgood
 cases hp : plainB s
 ·clear hbad
  go_enter Tryz.func39, Tryz.ntmps39
  go_wp2_with (go_at_call 60; refine (rPlain_any _ _ hsz).mono ?_; rintro e w' ⟨rfl, rfl⟩)
  go_ret
  exact ⟨rfl, ext_box _ _⟩
 ·by_cases h2 : s.data.toList = [91, 93]
  ·obtain rfl := mk_of h2
   clear hbad
   go_enter Tryz.func39, Tryz.ntmps39
   go_wp2_with (go_at_call 60; refine (rPlain_any _ _ hsz).mono ?_; rintro e w' ⟨rfl, rfl⟩)
   go_ret
   exact ⟨rfl, ext_box _ _⟩
  ·have e4 := lit_ne h2
   by_cases h3 : s.data.toList = [123, 125]
   ·obtain rfl := mk_of h3
    clear hbad h2
    go_enter Tryz.func39, Tryz.ntmps39
    go_wp2_with (go_at_call 60; refine (rPlain_any _ _ hsz).mono ?_; rintro e w' ⟨rfl, rfl⟩)
    go_ret
    exact ⟨rfl, ext_box _ _⟩
   ·have e5 := lit_ne h3
    have hsz2 : 64 < s.size := by
     have n2 : s ≠ ⟨#[91, 93]⟩ := fun e => h2 (by rw [e])
     have n3 : s ≠ ⟨#[123, 125]⟩ := fun e => h3 (by rw [e])
     simpa [nameBad, hp, n2, n3] using hbad
    clear hbad h2 h3
    go_enter Tryz.func39, Tryz.ntmps39
    go_wp2_with (go_at_call 60; refine (rPlain_any _ _ hsz).mono ?_; rintro e w' ⟨rfl, rfl⟩)
    go_ret
    exact ⟨rfl, ext_box _ _⟩
set_option maxHeartbeats 1600000 in
theorem rset_none (rb : Nat) (v : Value) (L : List OpV) (p t : Int) (s : ByteArray) (w : World) (h : RefAt 70 w rb v L) (hgood : argBad p t = false) (hname : nameBad s = false) (hp : p = 0) (hi : idxR s (preB t) L = none) :
  Calls Tryz.prog 39 #[.pointer (some ⟨rb, 0, none⟩), .agg #[.int .i64 p, .int .i64 t, .string s]] w fun e w' => e = .returned (.int .i64 4) ∧ Ext w w' := by
 have h0 := h.cell
 have hlt := cell_lt h0
 obtain ⟨b1, b2, b3, b4⟩ := arg_good hgood
 obtain ⟨n1, n2, n3, n4⟩ := name_good hname
 have hsz : s.size ≤ 9223372036854775807 := by omega
 have H := Lib.hid h
 have HI := Lib.hid hi
 clear hgood hname hi
 have hp' : (p == 0) = true := by simpa using hp
 clear hp h
 go_enter Tryz.func39, Tryz.ntmps39
 go_upto_region 5 with (go_at_call 60; refine (rPlain_any _ _ hsz).mono ?_; rintro e w' ⟨rfl, rfl⟩)
 refine wp_abs (fun W => Ext w W ∧ W.cell? ⟨w.heap.size, 0, none⟩ = some (.int .i64 p) ∧ W.cell? ⟨w.heap.size, 1, none⟩ = some (.int .i64 t) ∧ W.cell? ⟨w.heap.size, 2, none⟩ = some (.string s)) ⟨ext_box _ _, new_cell (Ext.refl _) 0, new_cell (Ext.refl _) 1, new_cell (Ext.refl _) 2⟩ ?_
 rintro W ⟨hxW, hW0, hW1, hW2⟩
 have k0 := hxW.cell h0
 go_quiet ((first | (go_at_call 62; exact quiet_left (rPrefix_any _ _)) | (go_at_call 61; exact quiet_left (rAt_any rb v L s (preB t) _ (H.out.ext (hxW.drewN _))))))
 rw [HI.out]
 simp only [idxVal]
 go_wp2_with fail
 go_ret
 exact ⟨rfl, hxW.drewN _⟩
theorem opInfo : (Tryz.prog.info? 70).map (fun i => (i.zero, i.size, i.bytes)) = some (some (opVal zeroO), 3, 32) := by kernel_rfl
set_option maxHeartbeats 1600000 in
theorem rset_full (rb : Nat) (v : Value) (L : List OpV) (p t : Int) (s : ByteArray) (w : World) (h : RefAt 70 w rb v L) (hgood : argBad p t = false) (hname : nameBad s = false) (hp : p ≠ 0) (hi : idxR s (preB t) L = none) (hlen : 64 ≤ L.length) :
  Calls Tryz.prog 39 #[.pointer (some ⟨rb, 0, none⟩), .agg #[.int .i64 p, .int .i64 t, .string s]] w fun e w' => e = .returned (.int .i64 2) ∧ Ext w w' := by
 have h0 := h.cell
 have hlt := cell_lt h0
 obtain ⟨b1, b2, b3, b4⟩ := arg_good hgood
 obtain ⟨n1, n2, n3, n4⟩ := name_good hname
 have hsz : s.size ≤ 9223372036854775807 := by omega
 have hbd := h.bound
 have H := Lib.hid h
 have HI := Lib.hid hi
 clear hgood hname hi
 have hp' : (p == 0) = false := by simpa using hp
 obtain ⟨A, c, rfl⟩ := own_value h.own
 clear hp h
 go_enter Tryz.func39, Tryz.ntmps39
 go_upto_region 5 with (go_at_call 60; refine (rPlain_any _ _ hsz).mono ?_; rintro e w' ⟨rfl, rfl⟩)
 refine wp_abs (fun W => Ext w W ∧ W.cell? ⟨w.heap.size, 0, none⟩ = some (.int .i64 p) ∧ W.cell? ⟨w.heap.size, 1, none⟩ = some (.int .i64 t) ∧ W.cell? ⟨w.heap.size, 2, none⟩ = some (.string s)) ⟨ext_box _ _, new_cell (Ext.refl _) 0, new_cell (Ext.refl _) 1, new_cell (Ext.refl _) 2⟩ ?_
 rintro W ⟨hxW, hW0, hW1, hW2⟩
 have k0 := hxW.cell h0
 go_quiet ((first | (go_at_call 62; exact quiet_left (rPrefix_any _ _)) | (go_at_call 61; exact quiet_left (rAt_any rb _ L s (preB t) _ (H.out.ext (hxW.drewN _))))))
 rw [HI.out]
 simp only [idxVal]
 go_wp2_with fail
 go_ret
 exact ⟨rfl, hxW.drewN _⟩
set_option maxRecDepth 100000 in
set_option maxHeartbeats 1600000 in
theorem rset_new (rb : Nat) (v : Value) (L : List OpV) (p t : Int) (s : ByteArray) (w : World) (h : RefAt 70 w rb v L) (hgood : argBad p t = false) (hname : nameBad s = false) (hp : p ≠ 0) (hi : idxR s (preB t) L = none) (hlen : L.length < 64) :
  Calls Tryz.prog 39 #[.pointer (some ⟨rb, 0, none⟩), .agg #[.int .i64 p, .int .i64 t, .string s]] w fun e w' => e = .returned (.int .i64 0) ∧ ∃ v', RefAt 70 w' rb v' (L ++ [⟨p, t, s⟩]) ∧ Mods (rb :: ownL v) w w' ∧ (∀ b, v'.ownBlock = some b → v.ownBlock = some b ∨ w.heap.size ≤ b) := by
 have h0 := h.cell
 have hlt := cell_lt h0
 obtain ⟨b1, b2, b3, b4⟩ := arg_good hgood
 obtain ⟨n1, n2, n3, n4⟩ := name_good hname
 have hsz : s.size ≤ 9223372036854775807 := by omega
 have hbd := h.bound
 have H := Lib.hid h
 have HI := Lib.hid hi
 clear hgood hname hi
 have hp' : (p == 0) = false := by simpa using hp
 obtain ⟨A, c, rfl⟩ := own_value h.own
 obtain ⟨i0, hi0, hz0, hz1, hz2⟩ := info_parts opInfo
 obtain ⟨tt, hblk⟩ := h.blk
 have HB := Lib.hid hblk
 have HN : Hid (rb ∉ ownL (.slice A L.length c)) := fun hm => h.ne (by simpa [ownL] using hm)
 have HN2 := Lib.hid h.ne
 clear hp h hblk
 go_enter Tryz.func39, Tryz.ntmps39
 go_upto_region 5 with (go_at_call 60; refine (rPlain_any _ _ hsz).mono ?_; rintro e w' ⟨rfl, rfl⟩)
 refine wp_abs (fun W => Ext w W ∧ W.cell? ⟨w.heap.size, 0, none⟩ = some (.int .i64 p) ∧ W.cell? ⟨w.heap.size, 1, none⟩ = some (.int .i64 t) ∧ W.cell? ⟨w.heap.size, 2, none⟩ = some (.string s)) ⟨ext_box _ _, new_cell (Ext.refl _) 0, new_cell (Ext.refl _) 1, new_cell (Ext.refl _) 2⟩ ?_
 rintro W ⟨hxW, hW0, hW1, hW2⟩
 have k0 := hxW.cell h0
 go_quiet ((first | (go_at_call 62; exact quiet_left (rPrefix_any _ _)) | (go_at_call 61; exact quiet_left (rAt_any rb _ L s (preB t) _ (H.out.ext (hxW.drewN _))))))
 rw [HI.out]
 simp only [idxVal]
 go_upto_region 6 with fail
 refine wp_abs (fun W => Ext w W ∧ W.cell? ⟨w.heap.size, 0, none⟩ = some (.int .i64 p) ∧ W.cell? ⟨w.heap.size, 1, none⟩ = some (.int .i64 t) ∧ W.cell? ⟨w.heap.size, 2, none⟩ = some (.string s)) ⟨hxW.drewN _, hW0, hW1, hW2⟩ ?_
 clear hxW hW0 hW1 hW2 k0
 rintro W ⟨hxW, hW0, hW1, hW2⟩
 have k0 := hxW.cell h0
 have hrb : rb < W.heap.size := cell_lt k0
 have hwb : w.heap.size < W.heap.size := cell_lt hW0
 go_region_law ((refine step_append_src (P := Tryz.prog) rfl _ _ 22 rfl 70 i0 _ 3 32 Tryz.underlying22 hi0 hz0 hz1 hz2 rfl (by omega) _ rfl _ _ _ rfl L.length (flat opCells L) (own_ext H.out.own (hxW.drew.alloc _)) (opCells ⟨p, t, s⟩) (Src.new _ #[.int .i64 p, .int .i64 t, .string s] _ 1 3 rfl) (opCells_one _) (by unfold maxLen; omega) (by omega) ?_; intro v3 w3 ho3 hm3 hb3; obtain ⟨A3, c3, rfl⟩ := own_value ho3; have hblk3 := Lib.hid ((HB.out.ext (hxW.drew.alloc _)).mods hm3 HN.out); have k3 : _ = some _ := hblk3.out.cell 0; have f3 := hblk3.out.frozen 0; have HM3 := Lib.hid ((Mods.ext (hxW.drew.alloc _)).trans hm3); have HO3 := Lib.hid ho3; have HB3 := Lib.hid hb3; clear ho3 hm3 hb3))
 all_goals
  go_wp2_with fail
  go_ret
  refine ⟨rfl, _, RefAt.stored hblk3.out (L := L ++ [⟨p, t, s⟩]) ?_ ?_, ?_, ?_⟩
  ·rw [flat_append, List.length_append]
   have e : flat opCells [(⟨p, t, s⟩ : OpV)] = opCells ⟨p, t, s⟩ := by simp [flat]
   rw [e]
   exact HO3.out
  ·intro e
   rcases HB3.out with h | h
   ·exact HN2.out (h.symm.trans e)
   ·rw [h] at e
    simp at e
    omega
  ·exact (HM3.out.mono (fun k hk => List.mem_cons_of_mem _ hk)).setCell (.inl (by simp)) _
  ·intro b hb
   rcases HB3.out with h | h
   ·exact .inl (h.symm.trans hb)
   ·rw [h] at hb
    simp at hb
    exact .inr (by omega)
theorem flat_set3 : ∀ (L : List OpV) (k : Nat) (o : OpV), k < L.length → (((flat opCells L).set (k * 3) (.int .i64 o.p)).set (k * 3 + 1) (.int .i64 o.t)).set (k * 3 + 2) (.string o.s) = flat opCells (L.set k o)
 | [], k, o, h => by simp at h
 | q :: L, 0, o, _ => by simp [flat, opCells]
 | q :: L, k + 1, o, h => by
  have ih := flat_set3 L k o (by simpa using h)
  have e0 : (k + 1) * 3 = k * 3 + 3 := by omega
  simp only [flat] at ih
  rw [e0]
  simp only [flat, opCells, List.flatMap_cons, List.cons_append, List.nil_append, List.set_cons_succ] at ih ⊢
  rw [← ih]
theorem refAt_put {e : TypeId} {W : World} {rb g c k : Nat} {L : List OpV} (h : RefAt e W rb (.slice (some ⟨g, 0, none⟩) L.length c) L) (o : OpV) (hk : k < L.length) :
  RefAt e (((W.setCell ⟨g, k * 3, none⟩ (.int .i64 o.p)).setCell ⟨g, k * 3 + 1, none⟩ (.int .i64 o.t)).setCell ⟨g, k * 3 + 2, none⟩ (.string o.s)) rb (.slice (some ⟨g, 0, none⟩) L.length c) (L.set k o) := by
 have hne : rb ≠ g := fun e => h.ne (by simp [Value.ownBlock, e])
 obtain ⟨t, hb⟩ := h.blk
 refine ⟨⟨t, ((hb.far hne _).far hne _).far hne _⟩, ?_, h.ne⟩
 have h1 := (h.own.stored (k * 3) (.int .i64 o.p)).1
 have h2 := (h1.stored (k * 3 + 1) (.int .i64 o.t)).1
 have h3 := (h2.stored (k * 3 + 2) (.string o.s)).1
 rw [flat_set3 L k o hk] at h3
 rw [List.length_set]
 exact h3
set_option maxRecDepth 100000 in
set_option maxHeartbeats 3200000 in
theorem rset_put (rb : Nat) (v : Value) (L : List OpV) (p t : Int) (s : ByteArray) (k : Nat) (w : World) (h : RefAt 70 w rb v L) (hgood : argBad p t = false) (hname : nameBad s = false) (hp : p ≠ 0) (hi : idxR s (preB t) L = some k) :
  Calls Tryz.prog 39 #[.pointer (some ⟨rb, 0, none⟩), .agg #[.int .i64 p, .int .i64 t, .string s]] w fun e w' => e = .returned (.int .i64 0) ∧ RefAt 70 w' rb v (L.set k ⟨p, t, s⟩) ∧ Mods (ownL v) w w' := by
 have h0 := h.cell
 have hlt := cell_lt h0
 obtain ⟨b1, b2, b3, b4⟩ := arg_good hgood
 obtain ⟨n1, n2, n3, n4⟩ := name_good hname
 have hsz : s.size ≤ 9223372036854775807 := by omega
 have hbd := h.bound
 have H := Lib.hid h
 have HI := Lib.hid hi
 have hkl : k < L.length := by
  unfold idxR at hi
  exact (List.findIdx?_eq_some_iff_getElem.1 hi).1
 clear hgood hname hi
 have hp' : (p == 0) = false := by simpa using hp
 have ho : L[k]? = some L[k] := List.getElem?_eq_getElem hkl
 generalize L[k] = o at ho
 rcases h.form with ⟨rfl, rfl⟩ | ⟨g, c, rfl, hcs⟩
 ·simp at hkl
 obtain ⟨c0, c1, c2, f0, f1, f2⟩ := hcs k o ho
 have hgb : g ≠ rb := fun e => h.ne (by simp [Value.ownBlock, e])
 have hgl : g < w.heap.size := cell_lt c0
 clear hp h hcs ho
 go_enter Tryz.func39, Tryz.ntmps39
 go_upto_region 5 with (go_at_call 60; refine (rPlain_any _ _ hsz).mono ?_; rintro e w' ⟨rfl, rfl⟩)
 refine wp_abs (fun W => Ext w W ∧ W.cell? ⟨w.heap.size, 0, none⟩ = some (.int .i64 p) ∧ W.cell? ⟨w.heap.size, 1, none⟩ = some (.int .i64 t) ∧ W.cell? ⟨w.heap.size, 2, none⟩ = some (.string s)) ⟨ext_box _ _, new_cell (Ext.refl _) 0, new_cell (Ext.refl _) 1, new_cell (Ext.refl _) 2⟩ ?_
 rintro W ⟨hxW, hW0, hW1, hW2⟩
 have k0 := hxW.cell h0
 go_quiet ((first | (go_at_call 62; exact quiet_left (rPrefix_any _ _)) | (go_at_call 61; exact quiet_left (rAt_any rb _ L s (preB t) _ (H.out.ext (hxW.drewN _))))))
 rw [HI.out]
 simp only [idxVal]
 go_upto_region 12 with fail
 refine wp_abs (fun W => Ext w W ∧ W.cell? ⟨w.heap.size, 0, none⟩ = some (.int .i64 p) ∧ W.cell? ⟨w.heap.size, 1, none⟩ = some (.int .i64 t) ∧ W.cell? ⟨w.heap.size, 2, none⟩ = some (.string s)) ⟨hxW.drewN _, hW0, hW1, hW2⟩ ?_
 clear hxW hW0 hW1 hW2 k0
 rintro W ⟨hxW, hW0, hW1, hW2⟩
 have k0 := hxW.cell h0
 have hrb : rb < W.heap.size := cell_lt k0
 have hwb : w.heap.size < W.heap.size := cell_lt hW0
 have C0 := hxW.cell c0
 have C1 := hxW.cell c1
 have C2 := hxW.cell c2
 have F0 := (Below.frozen hxW (p := ⟨g, k * 3, none⟩) hgl).trans f0
 have F1 := (Below.frozen hxW (p := ⟨g, k * 3 + 1, none⟩) hgl).trans f1
 have F2 := (Below.frozen hxW (p := ⟨g, k * 3 + 2, none⟩) hgl).trans f2
 have hk64 : (k : Int) < (L.length : Int) := by omega
 go_region
 all_goals
  go_wp2_with fail
  go_ret
  exact ⟨rfl, refAt_put (H.out.ext hxW.drew) ⟨p, t, s⟩ hkl, ((((Mods.ext hxW.drew).setCell (.inl (by simp [ownL, Value.ownBlock])) _).setCell (.inl (by simp [ownL, Value.ownBlock])) _).setCell (.inl (by simp [ownL, Value.ownBlock])) _)⟩
theorem own_max {w : World} {e : TypeId} {b n c : Nat} {xs : List Value} (h : w.ownsRow 0 e 3 (.slice (some ⟨b, 0, none⟩) n c) n xs) : c ≤ 9223372036854775807 := by
 rcases h.2 with ⟨h', _⟩ | ⟨g, cap, cur, h', _, _, _, h1, _⟩
 ·cases h'
 ·injection h' with _ _ hc
  unfold maxLen at h1
  omega
theorem src_drop {w : World} {b m n k : Nat} {xs : List Value} (h : Src w (some ⟨b, 0, none⟩) m k xs) (hn : n ≤ m) : Src w (some ⟨b, n * k, none⟩) (m - n) k (xs.drop (n * k)) := by
 have := h.drop hn
 rwa [Addr.add_lit, Nat.zero_add] at this
theorem own_after {v : Value} {B n : Nat} (hb : v.ownBlock = (Value.slice (some ⟨B, 0, none⟩) 0 0).ownBlock ∨ v.ownBlock = some n) (hn : B ≤ n) : ∀ b, v.ownBlock = some b → B ≤ b := by
 intro b h
 rcases hb with e | e
 ·rw [e] at h
  simp [Value.ownBlock] at h
  omega
 ·rw [e] at h
  simp at h
  omega
theorem erase_flat (L : List OpV) (k : Nat) : [] ++ (flat opCells L).take (k * 3) ++ (flat opCells L).drop ((k + 1) * 3) = flat opCells (L.eraseIdx k) := by
 rw [List.nil_append, flat_take opCells_len, flat_drop opCells_len, ← flat_append, List.eraseIdx_eq_take_drop_succ]
theorem own_erase0 {w : World} {e : TypeId} {v : Value} {L : List OpV} {k : Nat} (h : w.ownsRow 0 e 3 v k ([] ++ (flat opCells L).take (k * 3) ++ [])) (hl : L.length ≤ k + 1) (hk : k < L.length) :
  w.ownsRow 0 e 3 v (L.eraseIdx k).length (flat opCells (L.eraseIdx k)) := by
 have e0 : (flat opCells L).drop ((k + 1) * 3) = [] := List.drop_eq_nil_of_le (by rw [flat_len opCells_len]; omega)
 have e2 := erase_flat L k
 rw [e0] at e2
 rw [e2] at h
 have e1 : (L.eraseIdx k).length = k := by rw [List.length_eraseIdx]; simp [hk]; omega
 rw [e1]
 exact h
theorem own_erase {w : World} {e : TypeId} {v : Value} {L : List OpV} {k : Nat} (h : w.ownsRow 0 e 3 v (k + (L.length - (k + 1))) ([] ++ (flat opCells L).take (k * 3) ++ (flat opCells L).drop ((k + 1) * 3))) (hk : k < L.length) :
  w.ownsRow 0 e 3 v (L.eraseIdx k).length (flat opCells (L.eraseIdx k)) := by
 rw [erase_flat] at h
 have e1 : (L.eraseIdx k).length = k + (L.length - (k + 1)) := by rw [List.length_eraseIdx]; simp [hk]; omega
 rw [e1]
 exact h
set_option maxRecDepth 100000 in
set_option maxHeartbeats 6400000 in
theorem rset_del (rb : Nat) (v : Value) (L : List OpV) (p t : Int) (s : ByteArray) (k : Nat) (w : World) (hmax : L.length ≤ 1000) (h : RefAt 70 w rb v L) (hgood : argBad p t = false) (hname : nameBad s = false) (hp : p = 0) (hi : idxR s (preB t) L = some k) :
  Calls Tryz.prog 39 #[.pointer (some ⟨rb, 0, none⟩), .agg #[.int .i64 p, .int .i64 t, .string s]] w fun e w' => e = .returned (.int .i64 0) ∧ ∃ v', RefAt 70 w' rb v' (L.eraseIdx k) ∧ Mods [rb] w w' ∧ (∀ b, v'.ownBlock = some b → w.heap.size ≤ b) := by
 have h0 := h.cell
 have hlt := cell_lt h0
 obtain ⟨b1, b2, b3, b4⟩ := arg_good hgood
 obtain ⟨n1, n2, n3, n4⟩ := name_good hname
 have hsz : s.size ≤ 9223372036854775807 := by omega
 have hbd := h.bound
 have H := Lib.hid h
 have HI := Lib.hid hi
 have hkl : k < L.length := by
  unfold idxR at hi
  exact (List.findIdx?_eq_some_iff_getElem.1 hi).1
 clear hgood hname hi
 have hp' : (p == 0) = true := by simpa using hp
 have ho : L[k]? = some L[k] := List.getElem?_eq_getElem hkl
 generalize L[k] = o at ho
 rcases h.form with ⟨rfl, rfl⟩ | ⟨g, c, rfl, hcs⟩
 ·simp at hkl
 obtain ⟨c0, _⟩ := hcs k o ho
 have hgl : g < w.heap.size := cell_lt c0
 obtain ⟨i0, hi0, hz0, hz1, hz2⟩ := info_parts opInfo
 obtain ⟨tt, hblk⟩ := h.blk
 have hcap : L.length ≤ c := own_cap h.own
 have hcm : c ≤ 9223372036854775807 := own_max h.own
 have HB := Lib.hid hblk
 clear hp h hcs ho hblk c0
 go_enter Tryz.func39, Tryz.ntmps39
 go_upto_region 5 with (go_at_call 60; refine (rPlain_any _ _ hsz).mono ?_; rintro e w' ⟨rfl, rfl⟩)
 refine wp_abs (fun W => Ext w W ∧ W.cell? ⟨w.heap.size, 0, none⟩ = some (.int .i64 p) ∧ W.cell? ⟨w.heap.size, 1, none⟩ = some (.int .i64 t) ∧ W.cell? ⟨w.heap.size, 2, none⟩ = some (.string s)) ⟨ext_box _ _, new_cell (Ext.refl _) 0, new_cell (Ext.refl _) 1, new_cell (Ext.refl _) 2⟩ ?_
 rintro W ⟨hxW, hW0, hW1, hW2⟩
 have k0 := hxW.cell h0
 go_quiet ((first | (go_at_call 62; exact quiet_left (rPrefix_any _ _)) | (go_at_call 61; exact quiet_left (rAt_any rb _ L s (preB t) _ (H.out.ext (hxW.drewN _))))))
 rw [HI.out]
 simp only [idxVal]
 go_upto_region 10 with fail
 refine wp_abs (fun W => Ext w W ∧ W.cell? ⟨w.heap.size, 0, none⟩ = some (.int .i64 p) ∧ W.cell? ⟨w.heap.size, 1, none⟩ = some (.int .i64 t) ∧ W.cell? ⟨w.heap.size, 2, none⟩ = some (.string s)) ⟨hxW.drewN _, hW0, hW1, hW2⟩ ?_
 clear hxW hW0 hW1 hW2 k0
 rintro W ⟨hxW, hW0, hW1, hW2⟩
 have k0 := hxW.cell h0
 have hrb : rb < W.heap.size := cell_lt k0
 have hwb : w.heap.size < W.heap.size := cell_lt hW0
 have hkc : k ≤ c := by omega
 have hk1c : k + 1 ≤ c := by omega
 have hkL : k ≤ L.length := by omega
 have hk1L : k + 1 ≤ L.length := hkl
 have h03 : 0 < 3 := by omega
 have hml : (0 : Nat) ≤ maxLen := by unfold maxLen; omega
 have hb1 : 0 + k ≤ maxLen := by unfold maxLen; omega
 have hb2 : (0 + k) * 32 ≤ 140737488355328 := by omega
 have hb3' : 0 + k + (L.length - (k + 1)) ≤ maxLen := by unfold maxLen; omega
 have hb4 : (0 + k + (L.length - (k + 1))) * 32 ≤ 140737488355328 := by omega
 have hw1 : IntKind.i64.wrap ((k : Int) + 1) = (k : Int) + 1 := IntWalk.i64_in _ (by omega)
 have hkk : (k : Int) ≤ (k : Int) + 1 := by omega
 have hn0 : (0 : Int) ≤ (k : Int) + 1 := by omega
 have hn1 : (k : Int) + 1 ≤ (L.length : Int) := by omega
 have htn : ((k : Int) + 1).toNat = k + 1 := by omega
 by_cases hck : c = k + 1
 ·have hlk : L.length ≤ k + 1 := by omega
  subst hck
  go_region_law ((first | (refine step_append_src (P := Tryz.prog) (w := _) rfl (.tmp 74) (.tmp 80) 22 rfl 70 i0 _ 3 32 Tryz.underlying22 hi0 hz0 hz1 hz2 rfl h03 (.slice (some ⟨W.heap.size, 0, none⟩) 0 0) rfl (some ⟨g, 0, none⟩) k (k + 1) rfl 0 [] (World.ownsRow.drew (World.ownsRow_made W #[] 0 (Nat.zero_le _) hml rfl)) ((flat opCells L).take (k * 3)) (((Src.of_own H.out.own).ext ((hxW.alloc _).drew)).take hkL) (fun u hu => flat_one opCells_one L u (List.mem_of_mem_take hu)) hb1 hb2 ?_; intro v3 w3 ho3 hm3 hb3; have hx3 : Ext w w3 := ext_mods ((hxW.alloc _).drew) hm3 (by simp [ownL, Value.ownBlock]; exact hxW.size); have q0 := hx3.cell h0; have HO3 := Lib.hid ho3; have HM3 := Lib.hid (Mods.toExt (Mods.step (Mods.ext (S := []) (((Ext.refl W).alloc _).drew)) hm3 (fun x hx => .inr (own_after (v := .slice (some ⟨W.heap.size, 0, none⟩) 0 0) (n := W.heap.size) (.inl rfl) (Nat.le_refl _) x (mem_ownL hx)))) (by simp)); have HV3 := Lib.hid (own_after (v := v3) hb3 (by simp)); clear ho3 hm3 hb3) | (refine step_append_src (P := Tryz.prog) (w := _) rfl (.tmp 81) (.tmp 88) 22 rfl 70 i0 _ 3 32 Tryz.underlying22 hi0 hz0 hz1 hz2 rfl h03 v3 rfl (some ⟨g, 0, none⟩) 0 _ rfl _ _ HO3.out [] (Src.none _ _ _) (by simp) hb1 hb2 ?_; intro v4 w4 ho4 hm4 hb4x; have HB4 := Lib.hid ((HB.out.ext hx3).mods hm4 (fun hm => absurd (HV3.out rb (mem_ownL hm)) (Nat.not_le.2 hrb))); have q4 : _ = some _ := HB4.out.cell 0; have f4 := HB4.out.frozen 0; rw [Nat.zero_add, Nat.add_zero] at ho4; obtain ⟨A4, c4, rfl⟩ := own_value ho4; have HO4 := Lib.hid ho4; have HM4 := Lib.hid (ext_mods HM3.out hm4 (fun x hx => HV3.out x (mem_ownL hx))); have HV4 := Lib.hid (fun b (hb : (Value.slice A4 k c4).ownBlock = some b) => hb4x.elim (fun e => HV3.out b (e.symm.trans hb)) (fun e => Option.some.inj (e.symm.trans hb) ▸ HM3.out.size)); clear ho4 hm4 hb4x)))
  all_goals
   go_wp2_with fail
   go_ret
   refine ⟨rfl, _, RefAt.stored HB4.out (L := L.eraseIdx k) (own_erase0 HO4.out hlk hkl) (fun e => absurd (HV4.out rb e) (Nat.not_le.2 hrb)), (Mods.ext (hxW.trans HM4.out)).setCell (.inl (by simp)) _, fun b hb => Nat.le_trans hxW.size (HV4.out b hb)⟩
 ·go_region_law ((first | (refine step_append_src (P := Tryz.prog) (w := _) rfl (.tmp 74) (.tmp 80) 22 rfl 70 i0 _ 3 32 Tryz.underlying22 hi0 hz0 hz1 hz2 rfl h03 (.slice (some ⟨W.heap.size, 0, none⟩) 0 0) rfl (some ⟨g, 0, none⟩) k c rfl 0 [] (World.ownsRow.drew (World.ownsRow_made W #[] 0 (Nat.zero_le _) hml rfl)) ((flat opCells L).take (k * 3)) (((Src.of_own H.out.own).ext ((hxW.alloc _).drew)).take hkL) (fun u hu => flat_one opCells_one L u (List.mem_of_mem_take hu)) hb1 hb2 ?_; intro v3 w3 ho3 hm3 hb3; have hx3 : Ext w w3 := ext_mods ((hxW.alloc _).drew) hm3 (by simp [ownL, Value.ownBlock]; exact hxW.size); have q0 := hx3.cell h0; have HO3 := Lib.hid ho3; have HM3 := Lib.hid (Mods.toExt (Mods.step (Mods.ext (S := []) (((Ext.refl W).alloc _).drew)) hm3 (fun x hx => .inr (own_after (v := .slice (some ⟨W.heap.size, 0, none⟩) 0 0) (n := W.heap.size) (.inl rfl) (Nat.le_refl _) x (mem_ownL hx)))) (by simp)); have HV3 := Lib.hid (own_after (v := v3) hb3 (by simp)); clear ho3 hm3 hb3) | (refine step_append_src (P := Tryz.prog) (w := _) rfl (.tmp 81) (.tmp 88) 22 rfl 70 i0 _ 3 32 Tryz.underlying22 hi0 hz0 hz1 hz2 rfl h03 v3 rfl (some ⟨g, (k + 1) * 3, none⟩) (L.length - (k + 1)) (c - (k + 1)) rfl _ _ HO3.out ((flat opCells L).drop ((k + 1) * 3)) (src_drop ((Src.of_own H.out.own).ext hx3) hk1L) (fun u hu => flat_one opCells_one L u (List.mem_of_mem_drop hu)) hb3' hb4 ?_; intro v4 w4 ho4 hm4 hb4x; have HB4 := Lib.hid ((HB.out.ext hx3).mods hm4 (fun hm => absurd (HV3.out rb (mem_ownL hm)) (Nat.not_le.2 hrb))); have q4 : _ = some _ := HB4.out.cell 0; have f4 := HB4.out.frozen 0; rw [Nat.zero_add] at ho4; obtain ⟨A4, c4, rfl⟩ := own_value ho4; have HO4 := Lib.hid ho4; have HM4 := Lib.hid (ext_mods HM3.out hm4 (fun x hx => HV3.out x (mem_ownL hx))); have HV4 := Lib.hid (fun b (hb : (Value.slice A4 (k + (L.length - (k + 1))) c4).ownBlock = some b) => hb4x.elim (fun e => HV3.out b (e.symm.trans hb)) (fun e => Option.some.inj (e.symm.trans hb) ▸ HM3.out.size)); clear ho4 hm4 hb4x)))
  all_goals
   go_wp2_with fail
   go_ret
   refine ⟨rfl, _, RefAt.stored HB4.out (L := L.eraseIdx k) (own_erase HO4.out hkl) (fun e => absurd (HV4.out rb e) (Nat.not_le.2 hrb)), (Mods.ext (hxW.trans HM4.out)).setCell (.inl (by simp)) _, fun b hb => Nat.le_trans hxW.size (HV4.out b hb)⟩
set_option maxHeartbeats 1600000 in
theorem radd_any (rb : Nat) (v : Value) (L : List OpV) (p t : Int) (ns : List ByteArray) (g c : Nat) (w : World) (h : RefAt 70 w rb v L) (hlen : ns.length ≤ 100) (hL : L.length ≤ 1000) (hs : ∀ j s, ns[j]? = some s → w.cell? ⟨g, j, none⟩ = some (.string s)) (hg1 : g ≠ rb) (hg2 : v.ownBlock ≠ some g) :
  Calls Tryz.prog 55 #[.pointer (some ⟨rb, 0, none⟩), .int .i64 p, .int .i64 t, .slice (some ⟨g, 0, none⟩) ns.length c] w fun e w' => e = .returned (.tuple #[]) ∧ ∃ v', RefAt 70 w' rb v' (L ++ ns.map fun s => ⟨p, t, s⟩) ∧ Mods (rb :: ownL v) w w' ∧ (∀ b, v'.ownBlock = some b → v.ownBlock = some b ∨ w.heap.size ≤ b) := by
 have h0 := h.cell
 have hgv : ∀ j s, ns[j]? = some s → ∀ v' : Value, ∀ W W' : World, W.cell? ⟨g, j, none⟩ = some (.string s) → v'.ownBlock ≠ some g → Mods (rb :: ownL v') W W' → W'.cell? ⟨g, j, none⟩ = some (.string s) := fun j s _ v' W W' hc hv hm => hm.cell hc (by
  simp only [List.mem_cons, not_or]
  exact ⟨hg1, fun hm => hv (by simpa [ownL] using hm)⟩)
 obtain ⟨i0, hi0, hz0, hz1, hz2⟩ := info_parts opInfo
 have H := Lib.hid h
 have HS := Lib.hid hs
 have HG := Lib.hid hgv
 have HG2 := Lib.hid hg2
 clear hs hgv hg2 h
 go_enter Tryz.func55, Tryz.ntmps55
 go_wp2_with fail
 go_loopw [8] (fun i wr => ∃ (k : Nat) (v' : Value), k ≤ ns.length ∧ i = .int .i64 k ∧ RefAt 70 wr rb v' (L ++ (ns.take k).map fun s => ⟨p, t, s⟩) ∧ Mods (rb :: ownL v) w wr ∧ Hid (∀ b, v'.ownBlock = some b → v.ownBlock = some b ∨ w.heap.size ≤ b) ∧ Hid (v'.ownBlock ≠ some g)) (fun i _ => ns.length - (intOf i).toNat)
 case atStart => exact ⟨0, v, Nat.zero_le _, rfl, by simpa using H.out, Mods.refl _ _, fun b hb => .inl hb, HG2.out⟩
 case round =>
  obtain ⟨k, v', hk, rfl, hmk, hd, HB1, HB2⟩ := hrel
  by_cases hlt : k < ns.length
  ·have ho : ns[k]? = some ns[k] := List.getElem?_eq_getElem hlt
   generalize ns[k] = s at ho
   have hcs : wr.cell? ⟨g, k, none⟩ = some (.string s) := hd.cell (HS.out k s ho) (by
    simp only [List.mem_cons, not_or]
    exact ⟨hg1, fun hm => HG2.out (by simpa [ownL] using hm)⟩)
   have hgl : g < wr.heap.size := cell_lt hcs
   have hlm : (L ++ (ns.take k).map fun s => (⟨p, t, s⟩ : OpV)).length = L.length + k := by simp; omega
   have htk : (L ++ (ns.take (k + 1)).map fun s => (⟨p, t, s⟩ : OpV)) = (L ++ (ns.take k).map fun s => ⟨p, t, s⟩) ++ [⟨p, t, s⟩] := by
    rw [List.take_add_one, ho]
    simp
   generalize hM : (L ++ (ns.take k).map fun s => (⟨p, t, s⟩ : OpV)) = M at hmk hlm htk
   have HT := Lib.hid htk
   have hMb : M.length ≤ 1100 := by omega
   have k0 := hmk.cell
   obtain ⟨A, c', rfl⟩ := own_value hmk.own
   obtain ⟨tt, hblk⟩ := hmk.blk
   have HB := Lib.hid hblk
   have HN : Hid (rb ∉ ownL (.slice A M.length c')) := fun hm => hmk.ne (by simpa [ownL] using hm)
   have HN2 := Lib.hid hmk.ne
   have HM := Lib.hid hmk
   have HD := Lib.hid hd
   have hrb : rb < wr.heap.size := cell_lt k0
   clear hmk hd ho hblk htk hM hlm
   go_upto_region 3 with fail
   go_region_law ((refine step_append_src (P := Tryz.prog) rfl _ _ 22 rfl 70 i0 _ 3 32 Tryz.underlying22 hi0 hz0 hz1 hz2 rfl (by omega) _ rfl _ _ _ rfl M.length (flat opCells M) (own_ext HM.out.own ((Ext.refl wr).drew.alloc _)) (opCells ⟨p, t, s⟩) (Src.new _ #[.int .i64 p, .int .i64 t, .string s] _ 1 3 rfl) (opCells_one _) (by unfold maxLen; omega) (by omega) ?_; intro v3 w3 ho3 hm3 hb3; obtain ⟨A3, c3, rfl⟩ := own_value ho3; have hblk3 := Lib.hid ((HB.out.ext ((Ext.refl wr).drew.alloc _)).mods hm3 HN.out); have k3 : _ = some _ := hblk3.out.cell 0; have f3 := hblk3.out.frozen 0; have HM3 : Hid (Mods (ownL (.slice A M.length c')) wr w3) := ((Mods.ext ((Ext.refl wr).drew.alloc _)).trans hm3); have HO3 := Lib.hid ho3; have HB3 := Lib.hid hb3; clear ho3 hm3 hb3))
   all_goals go_wp2_with fail
   all_goals
    have hcl : RefAt 70 (w3.setCell ⟨rb, 0, none⟩ (.slice A3 (M.length + 1) c3)) rb (.slice A3 (M.length + 1) c3) (L ++ (ns.take (k + 1)).map fun s => (⟨p, t, s⟩ : OpV)) := by
     rw [HT.out]
     refine RefAt.stored hblk3.out (L := M ++ [⟨p, t, s⟩]) (v' := .slice A3 (M.length + 1) c3) ?_ ?_
     ·rw [flat_append, List.length_append]
      have e : flat opCells [(⟨p, t, s⟩ : OpV)] = opCells ⟨p, t, s⟩ := by simp [flat]
      rw [e]
      exact HO3.out
     ·intro e
      rcases HB3.out with h | h
      ·exact HN2.out (h.symm.trans e)
      ·rw [h] at e
       simp at e
       omega
    refine ⟨⟨k + 1, _, hlt, rfl, hcl, ?_, ?_, ?_⟩, ?_⟩
    ·refine Mods.setCell (Mods.step HD.out HM3.out ?_) (.inl (by simp)) _
     intro x hx
     have hx' : (Value.slice A M.length c').ownBlock = some x := by simpa [ownL] using hx
     rcases HB1.out x hx' with h | h
     ·exact .inl (List.mem_cons_of_mem _ (by simp [ownL, h]))
     ·exact .inr h
    ·intro b hb
     rcases HB3.out with h | h
     ·exact HB1.out b (h.symm.trans hb)
     ·rw [h] at hb
      injection hb with hb
      subst hb
      exact .inr (Nat.le_trans HD.out.size (Nat.le_trans (by simp) (Nat.le_refl _)))
    ·intro hb
     rcases HB3.out with h | h
     ·exact HB2.out (h.symm.trans hb)
     ·rw [h] at hb
      simp at hb
      omega
    ·have e1 : (intOf (Value.int IntKind.i64 ((k : Int) + 1))).toNat = k + 1 := by simp only [intOf]; omega
     have e2 : (intOf (Value.int IntKind.i64 (k : Int))).toNat = k := by simp only [intOf]; omega
     rw [e1, e2]
     omega
  ·obtain rfl : k = ns.length := by omega
   rw [List.take_length] at hmk
   go_wp2_with fail
   exact Go.Great.bodyPost_end0 rfl rfl ⟨rfl, v', hmk, hd, HB1⟩
theorem radd_step (w W : World) (rb : Nat) (v : Value) (L : List OpV) (p t : Int) (ns : List ByteArray) (c : Nat) (ty : TypeId) (h : RefAt 70 W rb v L) (hx : Ext w W) (hrb : w.heap.size ≤ rb) (hv : ∀ b, v.ownBlock = some b → w.heap.size ≤ b) (hlen : ns.length ≤ 100) (hL : L.length ≤ 1000) :
  Calls Tryz.prog 55 #[.pointer (some ⟨rb, 0, none⟩), .int .i64 p, .int .i64 t, .slice (some ⟨W.heap.size, 0, none⟩) ns.length c] (W.alloc (.cells (ns.map Value.string).toArray ty)) fun e w' => e = .returned (.tuple #[]) ∧ ∃ v', RefAt 70 w' rb v' (L ++ ns.map fun s => ⟨p, t, s⟩) ∧ Ext w w' ∧ (∀ b, v'.ownBlock = some b → w.heap.size ≤ b) := by
 have h1 : rb < W.heap.size := cell_lt h.cell
 have h2 : ∀ b, v.ownBlock = some b → b < W.heap.size := fun b hb => own_lt h.own hb
 refine (radd_any rb v L p t ns W.heap.size c _ (h.ext (ext_box _ _)) hlen hL (names_box W ty ns) (by omega) (fun e => Nat.lt_irrefl _ (h2 _ e))).mono fun e w' ⟨e1, v', e2, e3, e4⟩ => ⟨e1, v', e2, ?_, fun b hb => ?_⟩
 ·refine (Mods.step (S := []) (Mods.ext (hx.trans (ext_box W _))) e3 ?_).toExt (by simp)
  intro x hx'
  simp only [List.mem_cons] at hx'
  rcases hx' with rfl | hx'
  ·exact .inr hrb
  ·exact .inr (hv x (by simpa [ownL] using hx'))
 ·rcases e4 b hb with h | h
  ·exact hv b h
  ·have := hx.size
   have h3 : (W.alloc (.cells (ns.map Value.string).toArray ty)).heap.size = W.heap.size + 1 := by simp
   omega
set_option maxRecDepth 100000 in
set_option maxHeartbeats 3200000 in
theorem rNew_any (w : World) :
  Calls Tryz.prog 37 #[] w fun e w' => ∃ rb v, e = .returned (.pointer (some ⟨rb, 0, none⟩)) ∧ w.heap.size ≤ rb ∧ RefAt 70 w' rb v initL ∧ Ext w w' ∧ (∀ b, v.ownBlock = some b → w.heap.size ≤ b) := by
 go_enter Tryz.func37, Tryz.ntmps37
 go_upto_region 2 with fail
 refine wp_abs (fun W => RefAt 70 W w.heap.size (.slice none 0 0) [] ∧ Ext w W) ⟨?_, ?_⟩ ?_
 ·exact ⟨⟨_, Blk.new w _ _⟩, World.ownsRow_nil _ _ _ _, by simp [Value.ownBlock]⟩
 ·exact ext_box _ _
 rintro w0 ⟨hR, hX⟩
 obtain ⟨v0, hv0⟩ : ∃ v : Value, v = .slice none 0 0 := ⟨_, rfl⟩
 rw [← hv0] at hR
 have hV : ∀ b, v0.ownBlock = some b → w.heap.size ≤ b := by
  rw [hv0]
  intro b hb
  simp [Value.ownBlock] at hb
 clear hv0
 go_upto_region 3 with (go_at_call 55; refine (radd_step w w0 w.heap.size v0 [] 1200 1 [⟨#[58, 45]⟩] _ _ hR hX (Nat.le_refl _) hV (by decide) (by decide)).mono ?_; rintro e w1 ⟨rfl, v1, hR2, hX2, hV2⟩)
 clear hR hX hV
 have hR : RefAt 70 w1 w.heap.size v1 [⟨1200, 1, ⟨#[58, 45]⟩⟩] := hR2
 have hX := hX2
 have hV := hV2
 clear hR2 hX2 hV2
 go_upto_region 4 with (go_at_call 55; refine (radd_step w w1 w.heap.size v1 [⟨1200, 1, ⟨#[58, 45]⟩⟩] 1200 5 [⟨#[58, 45]⟩] _ _ hR hX (Nat.le_refl _) hV (by decide) (by decide)).mono ?_; rintro e w2 ⟨rfl, v2, hR2, hX2, hV2⟩)
 clear hR hX hV
 have hR : RefAt 70 w2 w.heap.size v2 [⟨1200, 1, ⟨#[58, 45]⟩⟩, ⟨1200, 5, ⟨#[58, 45]⟩⟩] := hR2
 have hX := hX2
 have hV := hV2
 clear hR2 hX2 hV2
 go_upto_region 5 with (go_at_call 55; refine (radd_step w w2 w.heap.size v2 [⟨1200, 1, ⟨#[58, 45]⟩⟩, ⟨1200, 5, ⟨#[58, 45]⟩⟩] 1100 2 [⟨#[59]⟩] _ _ hR hX (Nat.le_refl _) hV (by decide) (by decide)).mono ?_; rintro e w3 ⟨rfl, v3, hR2, hX2, hV2⟩)
 clear hR hX hV
 have hR : RefAt 70 w3 w.heap.size v3 [⟨1200, 1, ⟨#[58, 45]⟩⟩, ⟨1200, 5, ⟨#[58, 45]⟩⟩, ⟨1100, 2, ⟨#[59]⟩⟩] := hR2
 have hX := hX2
 have hV := hV2
 clear hR2 hX2 hV2
 go_upto_region 6 with (go_at_call 55; refine (radd_step w w3 w.heap.size v3 [⟨1200, 1, ⟨#[58, 45]⟩⟩, ⟨1200, 5, ⟨#[58, 45]⟩⟩, ⟨1100, 2, ⟨#[59]⟩⟩] 1050 2 [⟨#[45, 62]⟩] _ _ hR hX (Nat.le_refl _) hV (by decide) (by decide)).mono ?_; rintro e w4 ⟨rfl, v4, hR2, hX2, hV2⟩)
 clear hR hX hV
 have hR : RefAt 70 w4 w.heap.size v4 [⟨1200, 1, ⟨#[58, 45]⟩⟩, ⟨1200, 5, ⟨#[58, 45]⟩⟩, ⟨1100, 2, ⟨#[59]⟩⟩, ⟨1050, 2, ⟨#[45, 62]⟩⟩] := hR2
 have hX := hX2
 have hV := hV2
 clear hR2 hX2 hV2
 go_upto_region 7 with (go_at_call 55; refine (radd_step w w4 w.heap.size v4 [⟨1200, 1, ⟨#[58, 45]⟩⟩, ⟨1200, 5, ⟨#[58, 45]⟩⟩, ⟨1100, 2, ⟨#[59]⟩⟩, ⟨1050, 2, ⟨#[45, 62]⟩⟩] 1000 2 [⟨#[44]⟩] _ _ hR hX (Nat.le_refl _) hV (by decide) (by decide)).mono ?_; rintro e w5 ⟨rfl, v5, hR2, hX2, hV2⟩)
 clear hR hX hV
 have hR : RefAt 70 w5 w.heap.size v5 [⟨1200, 1, ⟨#[58, 45]⟩⟩, ⟨1200, 5, ⟨#[58, 45]⟩⟩, ⟨1100, 2, ⟨#[59]⟩⟩, ⟨1050, 2, ⟨#[45, 62]⟩⟩, ⟨1000, 2, ⟨#[44]⟩⟩] := hR2
 have hX := hX2
 have hV := hV2
 clear hR2 hX2 hV2
 go_upto_region 8 with (go_at_call 55; refine (radd_step w w5 w.heap.size v5 [⟨1200, 1, ⟨#[58, 45]⟩⟩, ⟨1200, 5, ⟨#[58, 45]⟩⟩, ⟨1100, 2, ⟨#[59]⟩⟩, ⟨1050, 2, ⟨#[45, 62]⟩⟩, ⟨1000, 2, ⟨#[44]⟩⟩] 900 4 [⟨#[92, 43]⟩] _ _ hR hX (Nat.le_refl _) hV (by decide) (by decide)).mono ?_; rintro e w6 ⟨rfl, v6, hR2, hX2, hV2⟩)
 clear hR hX hV
 have hR : RefAt 70 w6 w.heap.size v6 [⟨1200, 1, ⟨#[58, 45]⟩⟩, ⟨1200, 5, ⟨#[58, 45]⟩⟩, ⟨1100, 2, ⟨#[59]⟩⟩, ⟨1050, 2, ⟨#[45, 62]⟩⟩, ⟨1000, 2, ⟨#[44]⟩⟩, ⟨900, 4, ⟨#[92, 43]⟩⟩] := hR2
 have hX := hX2
 have hV := hV2
 clear hR2 hX2 hV2
 go_upto_region 9 with (go_at_call 55; refine (radd_step w w6 w.heap.size v6 [⟨1200, 1, ⟨#[58, 45]⟩⟩, ⟨1200, 5, ⟨#[58, 45]⟩⟩, ⟨1100, 2, ⟨#[59]⟩⟩, ⟨1050, 2, ⟨#[45, 62]⟩⟩, ⟨1000, 2, ⟨#[44]⟩⟩, ⟨900, 4, ⟨#[92, 43]⟩⟩] 700 1 [⟨#[61]⟩, ⟨#[92, 61]⟩, ⟨#[61, 61]⟩, ⟨#[92, 61, 61]⟩, ⟨#[64, 60]⟩, ⟨#[64, 62]⟩, ⟨#[64, 61, 60]⟩, ⟨#[64, 62, 61]⟩, ⟨#[105, 115]⟩, ⟨#[61, 58, 61]⟩, ⟨#[61, 92, 61]⟩, ⟨#[60]⟩, ⟨#[62]⟩, ⟨#[61, 60]⟩, ⟨#[62, 61]⟩, ⟨#[61, 46, 46]⟩] _ _ hR hX (Nat.le_refl _) hV (by decide) (by decide)).mono ?_; rintro e w7 ⟨rfl, v7, hR2, hX2, hV2⟩)
 clear hR hX hV
 have hR : RefAt 70 w7 w.heap.size v7 [⟨1200, 1, ⟨#[58, 45]⟩⟩, ⟨1200, 5, ⟨#[58, 45]⟩⟩, ⟨1100, 2, ⟨#[59]⟩⟩, ⟨1050, 2, ⟨#[45, 62]⟩⟩, ⟨1000, 2, ⟨#[44]⟩⟩, ⟨900, 4, ⟨#[92, 43]⟩⟩, ⟨700, 1, ⟨#[61]⟩⟩, ⟨700, 1, ⟨#[92, 61]⟩⟩, ⟨700, 1, ⟨#[61, 61]⟩⟩, ⟨700, 1, ⟨#[92, 61, 61]⟩⟩, ⟨700, 1, ⟨#[64, 60]⟩⟩, ⟨700, 1, ⟨#[64, 62]⟩⟩, ⟨700, 1, ⟨#[64, 61, 60]⟩⟩, ⟨700, 1, ⟨#[64, 62, 61]⟩⟩, ⟨700, 1, ⟨#[105, 115]⟩⟩, ⟨700, 1, ⟨#[61, 58, 61]⟩⟩, ⟨700, 1, ⟨#[61, 92, 61]⟩⟩, ⟨700, 1, ⟨#[60]⟩⟩, ⟨700, 1, ⟨#[62]⟩⟩, ⟨700, 1, ⟨#[61, 60]⟩⟩, ⟨700, 1, ⟨#[62, 61]⟩⟩, ⟨700, 1, ⟨#[61, 46, 46]⟩⟩] := hR2
 have hX := hX2
 have hV := hV2
 clear hR2 hX2 hV2
 go_upto_region 10 with (go_at_call 55; refine (radd_step w w7 w.heap.size v7 [⟨1200, 1, ⟨#[58, 45]⟩⟩, ⟨1200, 5, ⟨#[58, 45]⟩⟩, ⟨1100, 2, ⟨#[59]⟩⟩, ⟨1050, 2, ⟨#[45, 62]⟩⟩, ⟨1000, 2, ⟨#[44]⟩⟩, ⟨900, 4, ⟨#[92, 43]⟩⟩, ⟨700, 1, ⟨#[61]⟩⟩, ⟨700, 1, ⟨#[92, 61]⟩⟩, ⟨700, 1, ⟨#[61, 61]⟩⟩, ⟨700, 1, ⟨#[92, 61, 61]⟩⟩, ⟨700, 1, ⟨#[64, 60]⟩⟩, ⟨700, 1, ⟨#[64, 62]⟩⟩, ⟨700, 1, ⟨#[64, 61, 60]⟩⟩, ⟨700, 1, ⟨#[64, 62, 61]⟩⟩, ⟨700, 1, ⟨#[105, 115]⟩⟩, ⟨700, 1, ⟨#[61, 58, 61]⟩⟩, ⟨700, 1, ⟨#[61, 92, 61]⟩⟩, ⟨700, 1, ⟨#[60]⟩⟩, ⟨700, 1, ⟨#[62]⟩⟩, ⟨700, 1, ⟨#[61, 60]⟩⟩, ⟨700, 1, ⟨#[62, 61]⟩⟩, ⟨700, 1, ⟨#[61, 46, 46]⟩⟩] 500 3 [⟨#[43]⟩, ⟨#[45]⟩] _ _ hR hX (Nat.le_refl _) hV (by decide) (by decide)).mono ?_; rintro e w8 ⟨rfl, v8, hR2, hX2, hV2⟩)
 clear hR hX hV
 have hR : RefAt 70 w8 w.heap.size v8 [⟨1200, 1, ⟨#[58, 45]⟩⟩, ⟨1200, 5, ⟨#[58, 45]⟩⟩, ⟨1100, 2, ⟨#[59]⟩⟩, ⟨1050, 2, ⟨#[45, 62]⟩⟩, ⟨1000, 2, ⟨#[44]⟩⟩, ⟨900, 4, ⟨#[92, 43]⟩⟩, ⟨700, 1, ⟨#[61]⟩⟩, ⟨700, 1, ⟨#[92, 61]⟩⟩, ⟨700, 1, ⟨#[61, 61]⟩⟩, ⟨700, 1, ⟨#[92, 61, 61]⟩⟩, ⟨700, 1, ⟨#[64, 60]⟩⟩, ⟨700, 1, ⟨#[64, 62]⟩⟩, ⟨700, 1, ⟨#[64, 61, 60]⟩⟩, ⟨700, 1, ⟨#[64, 62, 61]⟩⟩, ⟨700, 1, ⟨#[105, 115]⟩⟩, ⟨700, 1, ⟨#[61, 58, 61]⟩⟩, ⟨700, 1, ⟨#[61, 92, 61]⟩⟩, ⟨700, 1, ⟨#[60]⟩⟩, ⟨700, 1, ⟨#[62]⟩⟩, ⟨700, 1, ⟨#[61, 60]⟩⟩, ⟨700, 1, ⟨#[62, 61]⟩⟩, ⟨700, 1, ⟨#[61, 46, 46]⟩⟩, ⟨500, 3, ⟨#[43]⟩⟩, ⟨500, 3, ⟨#[45]⟩⟩] := hR2
 have hX := hX2
 have hV := hV2
 clear hR2 hX2 hV2
 go_upto_region 11 with (go_at_call 55; refine (radd_step w w8 w.heap.size v8 [⟨1200, 1, ⟨#[58, 45]⟩⟩, ⟨1200, 5, ⟨#[58, 45]⟩⟩, ⟨1100, 2, ⟨#[59]⟩⟩, ⟨1050, 2, ⟨#[45, 62]⟩⟩, ⟨1000, 2, ⟨#[44]⟩⟩, ⟨900, 4, ⟨#[92, 43]⟩⟩, ⟨700, 1, ⟨#[61]⟩⟩, ⟨700, 1, ⟨#[92, 61]⟩⟩, ⟨700, 1, ⟨#[61, 61]⟩⟩, ⟨700, 1, ⟨#[92, 61, 61]⟩⟩, ⟨700, 1, ⟨#[64, 60]⟩⟩, ⟨700, 1, ⟨#[64, 62]⟩⟩, ⟨700, 1, ⟨#[64, 61, 60]⟩⟩, ⟨700, 1, ⟨#[64, 62, 61]⟩⟩, ⟨700, 1, ⟨#[105, 115]⟩⟩, ⟨700, 1, ⟨#[61, 58, 61]⟩⟩, ⟨700, 1, ⟨#[61, 92, 61]⟩⟩, ⟨700, 1, ⟨#[60]⟩⟩, ⟨700, 1, ⟨#[62]⟩⟩, ⟨700, 1, ⟨#[61, 60]⟩⟩, ⟨700, 1, ⟨#[62, 61]⟩⟩, ⟨700, 1, ⟨#[61, 46, 46]⟩⟩, ⟨500, 3, ⟨#[43]⟩⟩, ⟨500, 3, ⟨#[45]⟩⟩] 400 3 [⟨#[42]⟩, ⟨#[47]⟩, ⟨#[47, 47]⟩, ⟨#[109, 111, 100]⟩, ⟨#[114, 101, 109]⟩] _ _ hR hX (Nat.le_refl _) hV (by decide) (by decide)).mono ?_; rintro e w9 ⟨rfl, v9, hR2, hX2, hV2⟩)
 clear hR hX hV
 have hR : RefAt 70 w9 w.heap.size v9 [⟨1200, 1, ⟨#[58, 45]⟩⟩, ⟨1200, 5, ⟨#[58, 45]⟩⟩, ⟨1100, 2, ⟨#[59]⟩⟩, ⟨1050, 2, ⟨#[45, 62]⟩⟩, ⟨1000, 2, ⟨#[44]⟩⟩, ⟨900, 4, ⟨#[92, 43]⟩⟩, ⟨700, 1, ⟨#[61]⟩⟩, ⟨700, 1, ⟨#[92, 61]⟩⟩, ⟨700, 1, ⟨#[61, 61]⟩⟩, ⟨700, 1, ⟨#[92, 61, 61]⟩⟩, ⟨700, 1, ⟨#[64, 60]⟩⟩, ⟨700, 1, ⟨#[64, 62]⟩⟩, ⟨700, 1, ⟨#[64, 61, 60]⟩⟩, ⟨700, 1, ⟨#[64, 62, 61]⟩⟩, ⟨700, 1, ⟨#[105, 115]⟩⟩, ⟨700, 1, ⟨#[61, 58, 61]⟩⟩, ⟨700, 1, ⟨#[61, 92, 61]⟩⟩, ⟨700, 1, ⟨#[60]⟩⟩, ⟨700, 1, ⟨#[62]⟩⟩, ⟨700, 1, ⟨#[61, 60]⟩⟩, ⟨700, 1, ⟨#[62, 61]⟩⟩, ⟨700, 1, ⟨#[61, 46, 46]⟩⟩, ⟨500, 3, ⟨#[43]⟩⟩, ⟨500, 3, ⟨#[45]⟩⟩, ⟨400, 3, ⟨#[42]⟩⟩, ⟨400, 3, ⟨#[47]⟩⟩, ⟨400, 3, ⟨#[47, 47]⟩⟩, ⟨400, 3, ⟨#[109, 111, 100]⟩⟩, ⟨400, 3, ⟨#[114, 101, 109]⟩⟩] := hR2
 have hX := hX2
 have hV := hV2
 clear hR2 hX2 hV2
 go_upto_region 12 with (go_at_call 55; refine (radd_step w w9 w.heap.size v9 [⟨1200, 1, ⟨#[58, 45]⟩⟩, ⟨1200, 5, ⟨#[58, 45]⟩⟩, ⟨1100, 2, ⟨#[59]⟩⟩, ⟨1050, 2, ⟨#[45, 62]⟩⟩, ⟨1000, 2, ⟨#[44]⟩⟩, ⟨900, 4, ⟨#[92, 43]⟩⟩, ⟨700, 1, ⟨#[61]⟩⟩, ⟨700, 1, ⟨#[92, 61]⟩⟩, ⟨700, 1, ⟨#[61, 61]⟩⟩, ⟨700, 1, ⟨#[92, 61, 61]⟩⟩, ⟨700, 1, ⟨#[64, 60]⟩⟩, ⟨700, 1, ⟨#[64, 62]⟩⟩, ⟨700, 1, ⟨#[64, 61, 60]⟩⟩, ⟨700, 1, ⟨#[64, 62, 61]⟩⟩, ⟨700, 1, ⟨#[105, 115]⟩⟩, ⟨700, 1, ⟨#[61, 58, 61]⟩⟩, ⟨700, 1, ⟨#[61, 92, 61]⟩⟩, ⟨700, 1, ⟨#[60]⟩⟩, ⟨700, 1, ⟨#[62]⟩⟩, ⟨700, 1, ⟨#[61, 60]⟩⟩, ⟨700, 1, ⟨#[62, 61]⟩⟩, ⟨700, 1, ⟨#[61, 46, 46]⟩⟩, ⟨500, 3, ⟨#[43]⟩⟩, ⟨500, 3, ⟨#[45]⟩⟩, ⟨400, 3, ⟨#[42]⟩⟩, ⟨400, 3, ⟨#[47]⟩⟩, ⟨400, 3, ⟨#[47, 47]⟩⟩, ⟨400, 3, ⟨#[109, 111, 100]⟩⟩, ⟨400, 3, ⟨#[114, 101, 109]⟩⟩] 200 2 [⟨#[94]⟩] _ _ hR hX (Nat.le_refl _) hV (by decide) (by decide)).mono ?_; rintro e w10 ⟨rfl, v10, hR2, hX2, hV2⟩)
 clear hR hX hV
 have hR : RefAt 70 w10 w.heap.size v10 [⟨1200, 1, ⟨#[58, 45]⟩⟩, ⟨1200, 5, ⟨#[58, 45]⟩⟩, ⟨1100, 2, ⟨#[59]⟩⟩, ⟨1050, 2, ⟨#[45, 62]⟩⟩, ⟨1000, 2, ⟨#[44]⟩⟩, ⟨900, 4, ⟨#[92, 43]⟩⟩, ⟨700, 1, ⟨#[61]⟩⟩, ⟨700, 1, ⟨#[92, 61]⟩⟩, ⟨700, 1, ⟨#[61, 61]⟩⟩, ⟨700, 1, ⟨#[92, 61, 61]⟩⟩, ⟨700, 1, ⟨#[64, 60]⟩⟩, ⟨700, 1, ⟨#[64, 62]⟩⟩, ⟨700, 1, ⟨#[64, 61, 60]⟩⟩, ⟨700, 1, ⟨#[64, 62, 61]⟩⟩, ⟨700, 1, ⟨#[105, 115]⟩⟩, ⟨700, 1, ⟨#[61, 58, 61]⟩⟩, ⟨700, 1, ⟨#[61, 92, 61]⟩⟩, ⟨700, 1, ⟨#[60]⟩⟩, ⟨700, 1, ⟨#[62]⟩⟩, ⟨700, 1, ⟨#[61, 60]⟩⟩, ⟨700, 1, ⟨#[62, 61]⟩⟩, ⟨700, 1, ⟨#[61, 46, 46]⟩⟩, ⟨500, 3, ⟨#[43]⟩⟩, ⟨500, 3, ⟨#[45]⟩⟩, ⟨400, 3, ⟨#[42]⟩⟩, ⟨400, 3, ⟨#[47]⟩⟩, ⟨400, 3, ⟨#[47, 47]⟩⟩, ⟨400, 3, ⟨#[109, 111, 100]⟩⟩, ⟨400, 3, ⟨#[114, 101, 109]⟩⟩, ⟨200, 2, ⟨#[94]⟩⟩] := hR2
 have hX := hX2
 have hV := hV2
 clear hR2 hX2 hV2
 go_wp2_with (go_at_call 55; refine (radd_step w w10 w.heap.size v10 [⟨1200, 1, ⟨#[58, 45]⟩⟩, ⟨1200, 5, ⟨#[58, 45]⟩⟩, ⟨1100, 2, ⟨#[59]⟩⟩, ⟨1050, 2, ⟨#[45, 62]⟩⟩, ⟨1000, 2, ⟨#[44]⟩⟩, ⟨900, 4, ⟨#[92, 43]⟩⟩, ⟨700, 1, ⟨#[61]⟩⟩, ⟨700, 1, ⟨#[92, 61]⟩⟩, ⟨700, 1, ⟨#[61, 61]⟩⟩, ⟨700, 1, ⟨#[92, 61, 61]⟩⟩, ⟨700, 1, ⟨#[64, 60]⟩⟩, ⟨700, 1, ⟨#[64, 62]⟩⟩, ⟨700, 1, ⟨#[64, 61, 60]⟩⟩, ⟨700, 1, ⟨#[64, 62, 61]⟩⟩, ⟨700, 1, ⟨#[105, 115]⟩⟩, ⟨700, 1, ⟨#[61, 58, 61]⟩⟩, ⟨700, 1, ⟨#[61, 92, 61]⟩⟩, ⟨700, 1, ⟨#[60]⟩⟩, ⟨700, 1, ⟨#[62]⟩⟩, ⟨700, 1, ⟨#[61, 60]⟩⟩, ⟨700, 1, ⟨#[62, 61]⟩⟩, ⟨700, 1, ⟨#[61, 46, 46]⟩⟩, ⟨500, 3, ⟨#[43]⟩⟩, ⟨500, 3, ⟨#[45]⟩⟩, ⟨400, 3, ⟨#[42]⟩⟩, ⟨400, 3, ⟨#[47]⟩⟩, ⟨400, 3, ⟨#[47, 47]⟩⟩, ⟨400, 3, ⟨#[109, 111, 100]⟩⟩, ⟨400, 3, ⟨#[114, 101, 109]⟩⟩, ⟨200, 2, ⟨#[94]⟩⟩] 200 4 [⟨#[45]⟩] _ _ hR hX (Nat.le_refl _) hV (by decide) (by decide)).mono ?_; rintro e w11 ⟨rfl, v11, hR2, hX2, hV2⟩)
 clear hR hX hV
 have hR : RefAt 70 w11 w.heap.size v11 [⟨1200, 1, ⟨#[58, 45]⟩⟩, ⟨1200, 5, ⟨#[58, 45]⟩⟩, ⟨1100, 2, ⟨#[59]⟩⟩, ⟨1050, 2, ⟨#[45, 62]⟩⟩, ⟨1000, 2, ⟨#[44]⟩⟩, ⟨900, 4, ⟨#[92, 43]⟩⟩, ⟨700, 1, ⟨#[61]⟩⟩, ⟨700, 1, ⟨#[92, 61]⟩⟩, ⟨700, 1, ⟨#[61, 61]⟩⟩, ⟨700, 1, ⟨#[92, 61, 61]⟩⟩, ⟨700, 1, ⟨#[64, 60]⟩⟩, ⟨700, 1, ⟨#[64, 62]⟩⟩, ⟨700, 1, ⟨#[64, 61, 60]⟩⟩, ⟨700, 1, ⟨#[64, 62, 61]⟩⟩, ⟨700, 1, ⟨#[105, 115]⟩⟩, ⟨700, 1, ⟨#[61, 58, 61]⟩⟩, ⟨700, 1, ⟨#[61, 92, 61]⟩⟩, ⟨700, 1, ⟨#[60]⟩⟩, ⟨700, 1, ⟨#[62]⟩⟩, ⟨700, 1, ⟨#[61, 60]⟩⟩, ⟨700, 1, ⟨#[62, 61]⟩⟩, ⟨700, 1, ⟨#[61, 46, 46]⟩⟩, ⟨500, 3, ⟨#[43]⟩⟩, ⟨500, 3, ⟨#[45]⟩⟩, ⟨400, 3, ⟨#[42]⟩⟩, ⟨400, 3, ⟨#[47]⟩⟩, ⟨400, 3, ⟨#[47, 47]⟩⟩, ⟨400, 3, ⟨#[109, 111, 100]⟩⟩, ⟨400, 3, ⟨#[114, 101, 109]⟩⟩, ⟨200, 2, ⟨#[94]⟩⟩, ⟨200, 4, ⟨#[45]⟩⟩] := hR2
 have hX := hX2
 have hV := hV2
 clear hR2 hX2 hV2
 go_ret
 exact ⟨_, _, rfl, Nat.le_refl _, hR, hX, hV⟩
theorem rSet_any (rb : Nat) (v : Value) (o : OpV) (L : List OpV) (w : World) (h : RefAt 70 w rb v L) (hsz : o.s.size ≤ 9223372036854775807) (hmax : L.length ≤ 1000) :
  Calls Tryz.prog 39 #[.pointer (some ⟨rb, 0, none⟩), .agg #[.int .i64 o.p, .int .i64 o.t, .string o.s]] w fun e w' => e = .returned (.int .i64 (errR o L)) ∧ ∃ v', RefAt 70 w' rb v' (nextR o L) ∧ Mods (rb :: ownL v) w w' ∧ (∀ b, v'.ownBlock = some b → v.ownBlock = some b ∨ w.heap.size ≤ b) := by
 have keep : ∀ w', Ext w w' → actI o (foundR o L) L.length = 0 → ∃ v', RefAt 70 w' rb v' (nextR o L) ∧ Mods (rb :: ownL v) w w' ∧ (∀ b, v'.ownBlock = some b → v.ownBlock = some b ∨ w.heap.size ≤ b) := fun w' he ha => by
  have e1 : nextR o L = L := by
   unfold nextR
   rw [ha]
   split <;> simp
  rw [e1]
  exact ⟨v, h.ext he, Mods.ext he, fun b hb => .inl hb⟩
 obtain ⟨p, t, s⟩ := o
 rcases set_cases ⟨p, t, s⟩ (foundR ⟨p, t, s⟩ L) L.length with ⟨h1, he, ha⟩ | ⟨h1, h2, he, ha⟩ | ⟨h1, h2, h3, h4, he, ha⟩ | ⟨h1, h2, h3, h4, he, ha⟩ | ⟨h1, h2, h3, h4, h5, he, ha⟩ | ⟨h1, h2, h3, h4, he, ha⟩
 ·exact (rset_arg rb p t s w h1).mono fun e w' ⟨e1, e2⟩ => ⟨by rw [e1]; unfold errR; rw [he], keep w' e2 ha⟩
 ·exact (rset_name rb p t s w hsz h1 h2).mono fun e w' ⟨e1, e2⟩ => ⟨by rw [e1]; unfold errR; rw [he], keep w' e2 ha⟩
 ·have hi : idxR s (preB t) L = none := by simpa [foundR] using h4
  exact (rset_none rb v L p t s w h h1 h2 h3 hi).mono fun e w' ⟨e1, e2⟩ => ⟨by rw [e1]; unfold errR; rw [he], keep w' e2 ha⟩
 ·obtain ⟨k, hi⟩ := Option.isSome_iff_exists.1 h4
  refine (rset_del rb v L p t s k w hmax h h1 h2 h3 hi).mono fun e w' ⟨e1, v', e2, e3, e4⟩ => ⟨by rw [e1]; unfold errR; rw [he], v', ?_, e3.mono (by simp), fun b hb => .inr (e4 b hb)⟩
  have hi' : idxR (⟨p, t, s⟩ : OpV).s (preB (⟨p, t, s⟩ : OpV).t) L = some k := hi
  unfold nextR
  rw [ha, hi']
  exact e2
 ·have hi : idxR s (preB t) L = none := by simpa [foundR] using h4
  exact (rset_full rb v L p t s w h h1 h2 h3 hi h5).mono fun e w' ⟨e1, e2⟩ => ⟨by rw [e1]; unfold errR; rw [he], keep w' e2 ha⟩
 ·cases hi : idxR s (preB t) L with
  | none =>
   have h4' : L.length < 64 := by
    rcases h4 with h4 | h4
    ·simp [foundR, hi] at h4
    ·exact h4
   refine (rset_new rb v L p t s w h h1 h2 h3 hi h4').mono fun e w' ⟨e1, v', e2, e3, e4⟩ => ⟨by rw [e1]; unfold errR; rw [he], v', ?_, e3, e4⟩
   have hi' : idxR (⟨p, t, s⟩ : OpV).s (preB (⟨p, t, s⟩ : OpV).t) L = none := hi
   unfold nextR
   rw [ha, hi']
   exact e2
  | some k =>
   refine (rset_put rb v L p t s k w h h1 h2 h3 hi).mono fun e w' ⟨e1, e2, e3⟩ => ⟨by rw [e1]; unfold errR; rw [he], v, ?_, e3.mono (fun x hx => List.mem_cons_of_mem _ hx), fun b hb => .inl hb⟩
   have hi' : idxR (⟨p, t, s⟩ : OpV).s (preB (⟨p, t, s⟩ : OpV).t) L = some k := hi
   unfold nextR
   rw [ha, hi']
   exact e2
end Go.Proofs.YtgcdhffeacdegaaGreatDoor
namespace Go.El
open Op (bytesLess)
def Keys (L : List OpV) : Prop := L.Pairwise fun a b => ¬ (a.s = b.s ∧ preB a.t = preB b.t)
theorem Keys.perm {L M : List OpV} (h : Keys L) (hp : L.Perm M) : Keys M :=
 hp.pairwise h fun hab hba => hab ⟨hba.1.symm, hba.2.symm⟩
end Go.El
namespace Go.El
structure Inv (I Q : List OpV) : Prop where
 nI : (I.map (·.s)).Nodup
 nQ : (Q.map (·.s)).Nodup
 kI : ∀ o ∈ I, preB o.t = false
 kQ : ∀ o ∈ Q, preB o.t = true
 len : I.length + Q.length ≤ 64
theorem findO_none {s : ByteArray} : ∀ {l : List OpV}, findO s l = none → s ∉ l.map (·.s)
 | [], _ => by simp
 | q :: l, h => by
  unfold findO at h
  split at h
  ·cases h
  ·next hne =>
   have := findO_none h
   simp only [List.map_cons, List.mem_cons, not_or]
   exact ⟨fun e => hne e.symm, this⟩
theorem findO_some {s : ByteArray} {o : OpV} : ∀ {l : List OpV}, findO s l = some o → o ∈ l ∧ o.s = s
 | [], h => by cases h
 | q :: l, h => by
  unfold findO at h
  split at h
  ·next he => cases h; exact ⟨by simp, he⟩
  ·have := findO_some h
   exact ⟨List.mem_cons_of_mem _ this.1, this.2⟩
theorem setO_new {o : OpV} : ∀ {l : List OpV}, findO o.s l = none → setO o l = l ++ [o]
 | [], _ => rfl
 | q :: l, h => by
  unfold findO at h
  split at h
  ·cases h
  ·next hne =>
   unfold setO
   rw [if_neg hne, setO_new h]
   rfl
theorem setO_map {o : OpV} : ∀ {l : List OpV}, (findO o.s l).isSome = true → (setO o l).map (·.s) = l.map (·.s)
 | [], h => by simp [findO] at h
 | q :: l, h => by
  unfold findO at h
  unfold setO
  split
  ·next he => simp [he]
  ·next hne =>
   rw [if_neg hne] at h
   simp [setO_map h]
theorem setO_mem {o x : OpV} : ∀ {l : List OpV}, x ∈ setO o l → x = o ∨ x ∈ l
 | [], h => by simp [setO] at h; exact .inl h
 | q :: l, h => by
  unfold setO at h
  split at h
  ·rcases List.mem_cons.1 h with h | h
   ·exact .inl h
   ·exact .inr (List.mem_cons_of_mem _ h)
  ·rcases List.mem_cons.1 h with h | h
   ·exact .inr (by rw [h]; simp)
   ·rcases setO_mem h with h | h
    ·exact .inl h
    ·exact .inr (List.mem_cons_of_mem _ h)
theorem delO_sub {s : ByteArray} : ∀ l : List OpV, (delO s l).Sublist l
 | [] => List.Sublist.refl _
 | q :: l => by
  unfold delO
  split
  ·exact List.sublist_cons_self _ _
  ·exact (delO_sub l).cons_cons _
theorem doO_ok (act : Nat) (o : OpV) (l : List OpV) (b : Bool) (hb : act = 2 → preB o.t = b) (hn : (l.map (·.s)).Nodup) (hk : ∀ x ∈ l, preB x.t = b) : ((doO act o l).map (·.s)).Nodup ∧ (∀ x ∈ doO act o l, preB x.t = b) ∧ (doO act o l).length ≤ l.length + (if act = 2 ∧ (findO o.s l).isSome = false then 1 else 0) := by
 unfold doO
 by_cases h1 : act = 1
 ·subst h1
  rw [if_pos rfl]
  have hs := delO_sub (s := o.s) l
  exact ⟨hn.sublist (hs.map _), fun x hx => hk x (hs.subset hx), by have := hs.length_le; omega⟩
 ·rw [if_neg h1]
  by_cases h2 : act = 2
  ·subst h2
   rw [if_pos rfl]
   have hm : ∀ x ∈ setO o l, preB x.t = b := fun x hx => by
    rcases setO_mem hx with rfl | hx
    ·exact hb rfl
    ·exact hk x hx
   cases hf : (findO o.s l).isSome
   ·have hnone : findO o.s l = none := by simpa using hf
    refine ⟨?_, hm, by rw [setO_new hnone]; simp⟩
    rw [setO_new hnone, List.map_append, List.nodup_append]
    refine ⟨hn, by simp, fun x hx y hy => ?_⟩
    simp at hy
    subst hy
    rintro rfl
    exact findO_none hnone hx
   ·have e := setO_map hf
    refine ⟨by rw [e]; exact hn, hm, ?_⟩
    have := congrArg List.length e
    simp at this
    omega
  ·rw [if_neg h2]
   exact ⟨hn, hk, by omega⟩
theorem act_two {o : OpV} {found : Bool} {len : Nat} (h : actI o found len = 2) (hf : found = false) : len < 64 := by
 rcases set_cases o found len with ⟨_, _, h'⟩ | ⟨_, _, _, h'⟩ | ⟨_, _, _, _, _, h'⟩ | ⟨_, _, _, _, _, h'⟩ | ⟨_, _, _, _, _, _, h'⟩ | ⟨_, _, _, h1, _, h'⟩
 ·omega
 ·omega
 ·omega
 ·omega
 ·omega
 ·rcases h1 with h1 | h1
  ·rw [hf] at h1; cases h1
  ·exact h1
theorem Inv.next {I Q : List OpV} (h : Inv I Q) (o : OpV) : Inv (nextI o I Q) (nextQ o I Q) := by
 have hl := h.len
 unfold nextI nextQ
 cases hp : preB o.t
 ·obtain ⟨r1, r2, r3⟩ := doO_ok (actT o I Q) o I false (fun _ => hp) h.nI h.kI
  refine ⟨r1, h.nQ, r2, h.kQ, ?_⟩
  simp only [Bool.false_eq_true, if_false]
  split at r3
  ·next hc =>
   have hf : foundT o I Q = false := by unfold foundT opsOf; rw [hp]; exact hc.2
   have := act_two (o := o) (found := foundT o I Q) (len := I.length + Q.length) hc.1 hf
   omega
  ·omega
 ·obtain ⟨r1, r2, r3⟩ := doO_ok (actT o I Q) o Q true (fun _ => hp) h.nQ h.kQ
  refine ⟨h.nI, r1, h.kI, r2, ?_⟩
  simp only [if_true]
  split at r3
  ·next hc =>
   have hf : foundT o I Q = false := by unfold foundT opsOf; rw [hp]; exact hc.2
   have := act_two (o := o) (found := foundT o I Q) (len := I.length + Q.length) hc.1 hf
   omega
  ·omega
theorem keys_of_names {l : List OpV} (h : (l.map (·.s)).Nodup) : Keys l := by
 unfold Keys
 rw [List.nodup_iff_pairwise_ne, List.pairwise_map] at h
 exact h.imp fun hab hs => hab hs.1
theorem Inv.keys {I Q : List OpV} (h : Inv I Q) : Keys (I ++ Q) := by
 unfold Keys
 rw [List.pairwise_append]
 refine ⟨keys_of_names h.nI, keys_of_names h.nQ, fun a ha b hb hab => ?_⟩
 rw [h.kI a ha, h.kQ b hb] at hab
 exact absurd hab.2 (by decide)
def isK (o x : OpV) : Bool := decide (x.s = o.s) && (preB x.t == preB o.t)
def nK (o x : OpV) : Bool := !isK o x
theorem set_other (o : OpV) : ∀ l : List OpV, (setO o l).filter (fun x => !decide (x.s = o.s)) = l.filter (fun x => !decide (x.s = o.s))
 | [] => by simp [setO]
 | q :: l => by
  unfold setO
  split
  ·next h => simp [h]
  ·next h => simp [h, set_other o l]
theorem filter_no {s : ByteArray} {l : List OpV} (h : s ∉ l.map (·.s)) : l.filter (fun x => decide (x.s = s)) = [] := by
 rw [List.filter_eq_nil_iff]
 intro x hx
 simp only [decide_eq_true_eq]
 rintro rfl
 exact h (List.mem_map_of_mem hx)
theorem set_this (o : OpV) : ∀ l : List OpV, (l.map (·.s)).Nodup → (setO o l).filter (fun x => decide (x.s = o.s)) = [o]
 | [], _ => by simp [setO]
 | q :: l, h => by
  rw [List.map_cons, List.nodup_cons] at h
  unfold setO
  split
  ·next he =>
   rw [he] at h
   simp [filter_no h.1]
  ·next he => simp [he, set_this o l h.2]
theorem del_other (s : ByteArray) : ∀ l : List OpV, (delO s l).filter (fun x => !decide (x.s = s)) = l.filter (fun x => !decide (x.s = s))
 | [] => by simp [delO]
 | q :: l => by
  unfold delO
  split
  ·next h => simp [h]
  ·next h => simp [h, del_other s l]
theorem del_this (s : ByteArray) : ∀ l : List OpV, (l.map (·.s)).Nodup → (delO s l).filter (fun x => decide (x.s = s)) = []
 | [], _ => by simp [delO]
 | q :: l, h => by
  rw [List.map_cons, List.nodup_cons] at h
  unfold delO
  split
  ·next he =>
   rw [he] at h
   exact filter_no h.1
  ·next he => simp [he, del_this s l h.2]
theorem filter_same {p q : OpV → Bool} {l : List OpV} (h : ∀ x ∈ l, p x = q x) : l.filter p = l.filter q := List.filter_congr h
theorem isK_in {o : OpV} {l : List OpV} (h : ∀ x ∈ l, preB x.t = preB o.t) : l.filter (isK o) = l.filter (fun x => decide (x.s = o.s)) := filter_same fun x hx => by simp [isK, h x hx]
theorem nK_in {o : OpV} {l : List OpV} (h : ∀ x ∈ l, preB x.t = preB o.t) : l.filter (nK o) = l.filter (fun x => !decide (x.s = o.s)) := filter_same fun x hx => by simp [nK, isK, h x hx]
theorem isK_out {o : OpV} {l : List OpV} (h : ∀ x ∈ l, preB x.t = !preB o.t) : l.filter (isK o) = [] := by
 rw [List.filter_eq_nil_iff]
 intro x hx
 simp [isK, h x hx]
theorem act_err (o : OpV) (found : Bool) (len : Nat) : (errI o found len ≠ 0 ∧ actI o found len = 0) ∨ (errI o found len = 0 ∧ actI o found len = 1 ∧ o.p = 0) ∨ (errI o found len = 0 ∧ actI o found len = 2 ∧ o.p ≠ 0) := by
 rcases set_cases o found len with ⟨_, h, h'⟩ | ⟨_, _, h, h'⟩ | ⟨_, _, _, _, h, h'⟩ | ⟨_, _, hp, _, h, h'⟩ | ⟨_, _, _, _, _, h, h'⟩ | ⟨_, _, hp, _, h, h'⟩
 ·exact .inl ⟨by omega, h'⟩
 ·exact .inl ⟨by omega, h'⟩
 ·exact .inl ⟨by omega, h'⟩
 ·exact .inr (.inl ⟨h, h', hp⟩)
 ·exact .inl ⟨by omega, h'⟩
 ·exact .inr (.inr ⟨h, h', hp⟩)
theorem next_err {o : OpV} {I Q : List OpV} (h : errT o I Q ≠ 0) : nextI o I Q = I ∧ nextQ o I Q = Q := by
 have ha : actT o I Q = 0 := by
  rcases act_err o (foundT o I Q) (I.length + Q.length) with h1 | h1 | h1
  ·exact h1.2
  ·exact absurd h1.1 h
  ·exact absurd h1.1 h
 unfold nextI nextQ
 rw [ha]
 simp [doO]
theorem do_filters {act : Nat} {o : OpV} {l : List OpV} (hn : (l.map (·.s)).Nodup) (hk : ∀ x ∈ l, preB x.t = preB o.t) (ha : act = 1 ∨ act = 2) :
  (doO act o l).filter (nK o) = l.filter (nK o) ∧ (doO act o l).filter (isK o) = if act = 1 then [] else [o] := by
 have hm : ∀ x ∈ doO act o l, preB x.t = preB o.t := (doO_ok act o l (preB o.t) (fun _ => rfl) hn hk).2.1
 rw [nK_in hm, nK_in hk, isK_in hm]
 rcases ha with rfl | rfl
 ·exact ⟨del_other _ _, del_this _ _ hn⟩
 ·exact ⟨set_other _ _, set_this _ _ hn⟩
theorem next_filters {I Q : List OpV} (h : Inv I Q) (o : OpV) (he : errT o I Q = 0) :
  (nextI o I Q ++ nextQ o I Q).filter (nK o) = (I ++ Q).filter (nK o) ∧ (nextI o I Q ++ nextQ o I Q).filter (isK o) = if o.p = 0 then [] else [o] := by
 have hc : (actT o I Q = 1 ∧ o.p = 0) ∨ (actT o I Q = 2 ∧ o.p ≠ 0) := by
  rcases act_err o (foundT o I Q) (I.length + Q.length) with h1 | h1 | h1
  ·exact absurd he h1.1
  ·exact .inl h1.2
  ·exact .inr h1.2
 have ha : actT o I Q = 1 ∨ actT o I Q = 2 := hc.imp (·.1) (·.1)
 have hif : (if actT o I Q = 1 then ([] : List OpV) else [o]) = if o.p = 0 then [] else [o] := by
  rcases hc with ⟨h1, h2⟩ | ⟨h1, h2⟩
  ·rw [if_pos h1, if_pos h2]
  ·rw [if_neg (by omega), if_neg h2]
 rw [List.filter_append, List.filter_append, List.filter_append, ← hif]
 unfold nextI nextQ
 cases hp : preB o.t
 ·obtain ⟨r1, r2⟩ := do_filters (act := actT o I Q) h.nI (fun x hx => by rw [h.kI x hx, hp]) ha
  have r3 : Q.filter (isK o) = [] := isK_out (fun x hx => by rw [h.kQ x hx, hp]; rfl)
  simp only [Bool.false_eq_true, if_false]
  rw [r1, r2, r3, List.append_nil]
  exact ⟨rfl, rfl⟩
 ·obtain ⟨r1, r2⟩ := do_filters (act := actT o I Q) h.nQ (fun x hx => by rw [h.kQ x hx, hp]) ha
  have r3 : I.filter (isK o) = [] := isK_out (fun x hx => by rw [h.kI x hx, hp]; rfl)
  simp only [if_true]
  rw [r1, r2, r3, List.nil_append]
  exact ⟨rfl, rfl⟩
theorem isR_isK (o x : OpV) : isR o.s (preB o.t) x = isK o x := rfl
theorem Keys.two {L : List OpV} (h : Keys L) {a b : OpV} (ha : a ∈ L) (hb : b ∈ L) (hs : a.s = b.s) (hk : preB a.t = preB b.t) : a = b := by
 induction L with
 | nil => cases ha
 | cons c l ih =>
  obtain ⟨q1, q2⟩ := List.pairwise_cons.1 h
  rcases List.mem_cons.1 ha with ha | ha <;> rcases List.mem_cons.1 hb with hb | hb
  ·exact ha.trans hb.symm
  ·exact absurd ⟨hs, hk⟩ (ha ▸ q1 b hb)
  ·exact absurd ⟨hs.symm, hk.symm⟩ (hb ▸ q1 a ha)
  ·exact ih q2 ha hb
theorem idxR_some' {s : ByteArray} {pre : Bool} {L : List OpV} {k : Nat} (h : idxR s pre L = some k) : ∃ o, L[k]? = some o ∧ o ∈ L ∧ o.s = s ∧ preB o.t = pre := by
 unfold idxR at h
 obtain ⟨hlt, hk, _⟩ := List.findIdx?_eq_some_iff_getElem.1 h
 refine ⟨L[k], List.getElem?_eq_getElem hlt, List.getElem_mem hlt, ?_⟩
 simpa [isR] using hk
theorem idxR_none' {s : ByteArray} {pre : Bool} {L : List OpV} (h : idxR s pre L = none) : ∀ x ∈ L, ¬ (x.s = s ∧ preB x.t = pre) := by
 unfold idxR at h
 rw [List.findIdx?_eq_none_iff] at h
 intro x hx
 have := h x hx
 simpa [isR] using this
def findL (s : ByteArray) (pre : Bool) (L : List OpV) : Option OpV := (idxR s pre L).bind fun k => L[k]?
theorem find_both {I Q L : List OpV} (hi : Inv I Q) (hp : (I ++ Q).Perm L) (s : ByteArray) (pre : Bool) : findL s pre L = findO s (if pre then Q else I) := by
 have hL : Keys L := hi.keys.perm hp
 have hside : ∀ x, x ∈ (if pre then Q else I) ↔ (x ∈ L ∧ preB x.t = pre) := fun x => by
  rw [← hp.mem_iff, List.mem_append]
  cases pre
  ·simp only [Bool.false_eq_true, if_false]
   exact ⟨fun h => ⟨.inl h, hi.kI x h⟩, fun h => h.1.resolve_right (fun h2 => by rw [hi.kQ x h2] at h; cases h.2)⟩
  ·simp only [if_true]
   exact ⟨fun h => ⟨.inr h, hi.kQ x h⟩, fun h => h.1.resolve_left (fun h2 => by rw [hi.kI x h2] at h; cases h.2)⟩
 unfold findL
 cases hx : idxR s pre L with
 | none =>
  have hno := idxR_none' hx
  cases hf : findO s (if pre then Q else I) with
  | none => rfl
  | some o =>
   obtain ⟨h1, h2⟩ := findO_some hf
   obtain ⟨h3, h4⟩ := (hside o).1 h1
   exact absurd ⟨h2, h4⟩ (hno o h3)
 | some k =>
  obtain ⟨o, ho, hm, h1, h2⟩ := idxR_some' hx
  show L[k]? = _
  rw [ho]
  cases hf : findO s (if pre then Q else I) with
  | none =>
   have := findO_none hf
   exact absurd (List.mem_map.2 ⟨o, (hside o).2 ⟨hm, h2⟩, h1⟩) this
  | some q =>
   obtain ⟨h3, h4⟩ := findO_some hf
   obtain ⟨h5, h6⟩ := (hside q).1 h3
   rw [hL.two hm h5 (h1.trans h4.symm) (h2.trans h6.symm)]
theorem found_both {I Q L : List OpV} (hi : Inv I Q) (hp : (I ++ Q).Perm L) (o : OpV) : foundR o L = foundT o I Q := by
 have h := find_both hi hp o.s (preB o.t)
 unfold foundR foundT opsOf
 rw [← h]
 unfold findL
 cases hx : idxR o.s (preB o.t) L with
 | none => rfl
 | some k =>
  obtain ⟨q, hq, _⟩ := idxR_some' hx
  show true = (L[k]?).isSome
  rw [hq]; rfl
theorem len_both {I Q L : List OpV} (hp : (I ++ Q).Perm L) : L.length = I.length + Q.length := by rw [← hp.length_eq, List.length_append]
theorem erase_filter {o : OpV} : ∀ {L : List OpV} {k : Nat}, Keys L → idxR o.s (preB o.t) L = some k → L.eraseIdx k = L.filter (nK o)
 | [], k, _, h => by simp [idxR] at h
 | a :: l, k, hk, h => by
  obtain ⟨q1, q2⟩ := List.pairwise_cons.1 hk
  cases ha : isK o a
  ·have hn : nK o a = true := by simp [nK, ha]
   have h' : ∃ j, k = j + 1 ∧ idxR o.s (preB o.t) l = some j := by
    unfold idxR at h ⊢
    rw [List.findIdx?_cons] at h
    rw [isR_isK, ha] at h
    simp only [Bool.false_eq_true, if_false, Option.map_eq_some_iff] at h
    obtain ⟨j, hj, rfl⟩ := h
    exact ⟨j, rfl, hj⟩
   obtain ⟨j, rfl, hj⟩ := h'
   rw [List.eraseIdx_cons_succ, erase_filter q2 hj]
   simp [hn]
  ·have hn : nK o a = false := by simp [nK, ha]
   have h0 : k = 0 := by
    unfold idxR at h
    rw [List.findIdx?_cons, isR_isK, ha] at h
    simpa using h.symm
   subst h0
   have hall : l.filter (nK o) = l := by
    rw [List.filter_eq_self]
    intro x hx
    have := q1 x hx
    simp only [isK, Bool.and_eq_true, decide_eq_true_eq, beq_iff_eq] at ha
    simp only [nK, isK, Bool.not_eq_true', Bool.and_eq_false_iff, decide_eq_false_iff_not, beq_eq_false_iff_ne]
    by_cases e : x.s = o.s
    ·exact .inr (fun e2 => this ⟨ha.1.trans e.symm, ha.2.trans e2.symm⟩)
    ·exact .inl e
   simp [hn, hall]
theorem set_erase {o : OpV} : ∀ {L : List OpV} {k : Nat}, k < L.length → (L.set k o).Perm (L.eraseIdx k ++ [o])
 | [], _, h => by simp at h
 | a :: l, 0, _ => by
  simp only [List.set_cons_zero, List.eraseIdx_cons_zero]
  exact (List.perm_append_comm (l₁ := [o]) (l₂ := l))
 | a :: l, k + 1, h => by
  simp only [List.set_cons_succ, List.eraseIdx_cons_succ, List.cons_append]
  exact (set_erase (by simpa using h)).cons a
theorem next_both {I Q L : List OpV} (hi : Inv I Q) (hp : (I ++ Q).Perm L) (o : OpV) : (nextI o I Q ++ nextQ o I Q).Perm (nextR o L) := by
 have hf := found_both hi hp o
 have hl := len_both hp
 have ha : actI o (foundR o L) L.length = actT o I Q := by unfold actT; rw [hf, hl]
 have hL : Keys L := hi.keys.perm hp
 rcases act_err o (foundT o I Q) (I.length + Q.length) with h1 | h1 | h1
 ·obtain ⟨e1, e2⟩ := next_err (o := o) (I := I) (Q := Q) h1.1
  have e3 : nextR o L = L := by
   unfold nextR
   rw [ha, show actT o I Q = 0 from h1.2]
   split <;> simp
  rw [e1, e2, e3]
  exact hp
 all_goals
  obtain ⟨f1, f2⟩ := next_filters hi o h1.1
  have hsplit : (nextI o I Q ++ nextQ o I Q).Perm ((nextI o I Q ++ nextQ o I Q).filter (nK o) ++ (nextI o I Q ++ nextQ o I Q).filter (isK o)) := by
   refine (List.filter_append_perm (isK o) _).symm.trans ?_
   exact List.perm_append_comm
  refine hsplit.trans ?_
  rw [f1, f2]
  have hw := hp.filter (nK o)
 ·rw [if_pos h1.2.2, List.append_nil]
  refine hw.trans ?_
  unfold nextR
  rw [ha, show actT o I Q = 1 from h1.2.1]
  cases hx : idxR o.s (preB o.t) L with
  | none =>
   have hfo : foundT o I Q = false := by rw [← hf]; unfold foundR; rw [hx]; rfl
   have : actT o I Q = 1 := h1.2.1
   unfold actT actI at this
   rw [hfo] at this
   simp only [h1.2.2] at this
   split at this <;> simp at this
  | some k =>
   simp only [if_true]
   rw [erase_filter hL hx]
 ·rw [if_neg h1.2.2]
  refine (hw.append_right [o]).trans ?_
  unfold nextR
  rw [ha, show actT o I Q = 2 from h1.2.1]
  cases hx : idxR o.s (preB o.t) L with
  | none =>
   simp only [if_true]
   have hno := idxR_none' hx
   have hall : L.filter (nK o) = L := by
    rw [List.filter_eq_self]
    intro x hx'
    have := hno x hx'
    simp only [nK, isK, Bool.not_eq_true', Bool.and_eq_false_iff, decide_eq_false_iff_not, beq_eq_false_iff_ne]
    by_cases e : x.s = o.s
    ·exact .inr (fun e2 => this ⟨e, e2⟩)
    ·exact .inl e
   rw [hall]
  | some k =>
   obtain ⟨q, hq, _⟩ := idxR_some' hx
   have hk : k < L.length := (List.getElem?_eq_some_iff.1 hq).1
   simp only [show ((2 : Nat) = 1) = False by simp, if_false, if_true]
   rw [← erase_filter hL hx]
   exact (set_erase hk).symm
end Go.El
namespace Go.Proofs.YtgcdhffeacdegaaGreatDoor
open Go.RowKit Go.El Go.Proofs
structure Kept (w w' : World) : Prop where
 cell : ∀ {p v}, w.cell? p = some v → w'.cell? p = some v
theorem kept_set {W W' : World} {tb m1 m2 : Nat} {I Q : List OpV} (h : TabAt W tb m1 m2 I Q) (k : Mods [m1, m2] W W') : Kept W W' :=
 ⟨fun hc => k.cell hc (by
  have n1 := h.mi.ne_cell hc
  have n2 := h.mq.ne_cell hc
  simp [n1, n2])⟩
structure TwoAt (w W : World) (tb m1 m2 rb : Nat) (v : Value) (I Q L : List OpV) : Prop where
 ext : Ext w W
 types : TypesAt 0 W
 tab : TabAt W tb m1 m2 I Q
 ref : RefAt 70 W rb v L
 g : 0 < w.heap.size
 b1 : w.heap.size ≤ m1
 b2 : w.heap.size ≤ m2
 b3 : w.heap.size ≤ rb
 b4 : ∀ b, v.ownBlock = some b → w.heap.size ≤ b
 n1 : tb ≠ rb
 n2 : ∀ b, v.ownBlock = some b → b ≠ tb
theorem own_ne_map {w : World} {e : TypeId} {size n : Nat} {v : Value} {xs : List Value} {α : Type} {kv : α → Value} {m : Nat} {ps : List (α × Value)} (h : w.ownsRow 0 e size v n xs) (k : MapAt kv w m ps) : ∀ b, v.ownBlock = some b → b ≠ m := by
 rintro b hb rfl
 obtain ⟨es, c, hk, _⟩ := k
 rcases h.2 with ⟨rfl, _⟩ | ⟨g, cap, cur, rfl, _, hh, _⟩
 ·simp [Value.ownBlock] at hb
 ·simp [Value.ownBlock] at hb
  subst hb
  rw [hk] at hh
  cases hh
section
variable {w W W' : World} {tb m1 m2 rb : Nat} {v : Value} {I Q L : List OpV}
theorem TwoAt.setP (h : TwoAt w W tb m1 m2 rb v I Q L) {I' Q' : List OpV} (k : Mods [m1, m2] W W') (t : TabAt W' tb m1 m2 I' Q') : TwoAt w W' tb m1 m2 rb v I' Q' L := by
 have hr1 := h.tab.mi.ne_cell h.ref.cell
 have hr2 := h.tab.mq.ne_cell h.ref.cell
 refine ⟨(Mods.step (S := []) (Mods.ext h.ext) k (fun x hx => .inr (by
   simp at hx
   rcases hx with rfl | rfl
   ·exact h.b1
   ·exact h.b2))).toExt (by simp), h.types.mods k (by have := h.g; have := h.b1; have := h.b2; simp; omega), t, h.ref.mods k (by simp [hr1, hr2]) (fun b hb => ?_), h.g, h.b1, h.b2, h.b3, h.b4, h.n1, h.n2⟩
 have e1 := own_ne_map h.ref.own h.tab.mi b hb
 have e2 := own_ne_map h.ref.own h.tab.mq b hb
 simp [e1, e2]
end
section
variable {w W W' : World} {tb m1 m2 rb : Nat} {v : Value} {I Q L : List OpV}
theorem TwoAt.setR (h : TwoAt w W tb m1 m2 rb v I Q L) {v' : Value} {L' : List OpV} (k : Mods (rb :: ownL v) W W') (r : RefAt 70 W' rb v' L') (hb : ∀ b, v'.ownBlock = some b → v.ownBlock = some b ∨ W.heap.size ≤ b) : TwoAt w W' tb m1 m2 rb v' I Q L' := by
 have hr1 := h.tab.mi.ne_cell h.ref.cell
 have hr2 := h.tab.mq.ne_cell h.ref.cell
 have ht := cell_lt h.tab.c0
 have hsz := h.ext.size
 refine ⟨(Mods.step (S := []) (Mods.ext h.ext) k (fun x hx => .inr ?_)).toExt (by simp), h.types.mods k ?_, h.tab.mods k ?_ ?_ ?_, r, h.g, h.b1, h.b2, h.b3, fun b hb' => ?_, h.n1, fun b hb' => ?_⟩
 ·rcases List.mem_cons.1 hx with rfl | hx
  ·exact h.b3
  ·exact h.b4 x (mem_ownL hx)
 ·intro hx
  have hg := h.g
  rcases List.mem_cons.1 hx with hx | hx
  ·have := h.b3; omega
  ·have := h.b4 _ (mem_ownL hx); omega
 ·intro hx
  rcases List.mem_cons.1 hx with hx | hx
  ·exact h.n1 hx
  ·exact h.n2 _ (mem_ownL hx) rfl
 ·intro hx
  rcases List.mem_cons.1 hx with hx | hx
  ·exact hr1 hx.symm
  ·exact own_ne_map h.ref.own h.tab.mi _ (mem_ownL hx) rfl
 ·intro hx
  rcases List.mem_cons.1 hx with hx | hx
  ·exact hr2 hx.symm
  ·exact own_ne_map h.ref.own h.tab.mq _ (mem_ownL hx) rfl
 ·rcases hb b hb' with hb | hb
  ·exact h.b4 b hb
  ·omega
 ·rcases hb b hb' with hb | hb
  ·exact h.n2 b hb
  ·simp at ht; omega
end
section
variable {w W W' : World} {tb m1 m2 rb : Nat} {v : Value} {I Q L : List OpV}
theorem twSetP (h : TwoAt w W tb m1 m2 rb v I Q L) (hi : Inv I Q) (p t : Int) (s : ByteArray) :
  Calls Tryz.prog 38 #[.pointer (some ⟨tb, 0, none⟩), .agg #[.int .i64 p, .int .i64 t, .string s]] W fun e w' => e = .returned (.int .i64 (errT ⟨p, t, s⟩ I Q)) ∧ TwoAt w w' tb m1 m2 rb v (nextI ⟨p, t, s⟩ I Q) (nextQ ⟨p, t, s⟩ I Q) L ∧ Kept W w' := by
 have hl := hi.len
 exact (pSet_any tb m1 m2 ⟨p, t, s⟩ I Q W h.types h.tab (by omega)).mono fun _ _ ⟨e, h1, h2⟩ => ⟨e, h.setP h2 h1, kept_set h.tab h2⟩
end
section
variable {w W W' : World} {tb m1 m2 rb : Nat} {v : Value} {I Q L : List OpV}
theorem twSetR (h : TwoAt w W tb m1 m2 rb v I Q L) (p t : Int) (s : ByteArray) (hs : s.size ≤ 9223372036854775807) (hL : L.length ≤ 1000) (n : Int) (hn : errR ⟨p, t, s⟩ L = n) :
  Calls Tryz.prog 39 #[.pointer (some ⟨rb, 0, none⟩), .agg #[.int .i64 p, .int .i64 t, .string s]] W fun e w' => e = .returned (.int .i64 n) ∧ ∃ v', TwoAt w w' tb m1 m2 rb v' I Q (nextR ⟨p, t, s⟩ L) ∧ Mods (rb :: ownL v) W w' :=
 (rSet_any rb v ⟨p, t, s⟩ L W h.ref hs hL).mono fun _ _ ⟨e, v', h1, h2, h3⟩ => ⟨by rw [e, hn], v', h.setR h2 h1 h3, h2⟩
end
theorem twNews (w : World) :
  Calls Tryz.prog 32 #[] w fun e w' => ∃ tb m1 m2, e = .returned (.pointer (some ⟨tb, 0, none⟩)) ∧ Hid (w.heap.size ≤ tb ∧ w.heap.size ≤ m1 ∧ w.heap.size ≤ m2 ∧ TabAt w' tb m1 m2 initI initQ ∧ Ext w w') :=
 (pNew_any w).mono fun _ _ ⟨tb, m1, m2, e, h⟩ => ⟨tb, m1, m2, e, h⟩
theorem twNewR {w W : World} {tb m1 m2 : Nat} (hT : TypesAt 0 w) (h : Hid (w.heap.size ≤ tb ∧ w.heap.size ≤ m1 ∧ w.heap.size ≤ m2 ∧ TabAt W tb m1 m2 initI initQ ∧ Ext w W)) :
  Calls Tryz.prog 37 #[] W fun e w' => ∃ rb v, e = .returned (.pointer (some ⟨rb, 0, none⟩)) ∧ TwoAt w w' tb m1 m2 rb v initI initQ initL :=
 (rNew_any W).mono fun _ _ ⟨rb, v, e, g1, g2, g3, g4⟩ => by
  obtain ⟨h1, h2, h3, h4, h5⟩ := h.out
  have lt : tb < W.heap.size := cell_lt h4.c0
  have lg : 0 < w.heap.size := cell_lt hT.h0
  have y := h5.size
  exact ⟨rb, v, e, h5.trans g3, (hT.ext h5).ext g3, h4.ext g3, g2, lg, h2, h3, by omega, fun b hb => by have := g4 b hb; omega, by omega, fun b hb => by have := g4 b hb; omega⟩
end Go.Proofs.YtgcdhffeacdegaaGreatDoor
namespace Go.Proofs.YtgcdhffeacdegaaGreatDoor
open Go.RowKit Go.El
set_option maxRecDepth 100000 in
set_option maxHeartbeats 4000000 in
theorem refPart_any (t : Tm) (A : Option Addr) (c : Nat) (w : World) :
  Calls Tryz.prog 81 #[tmVal t A c] w fun e w' => e = .returned (.bool (partK t.k t.n t.s t.l.length)) ∧ Ext w w' := by
 have h0 := size_nil t.s
 unfold tmVal
 generalize t.l.length = m at *
 generalize t.s = s at *
 generalize t.n = n at *
 generalize t.k = k at *
 by_cases h1 : s.size = 0
 case' pos => rw [decide_eq_true h1] at h0
 case' neg => rw [decide_eq_false h1] at h0
 all_goals
  by_cases k1 : k = 1
  ·subst k1
   go_enter Tryz.func81, Tryz.ntmps81
   go_wp2_with fail
   all_goals
    go_ret
    exact ⟨ret_boolP (by first | (simp [partK, h1]; done) | (simp [partK, h1]; omega)), ext_box _ _⟩
  by_cases k2 : k = 2
  ·subst k2
   go_enter Tryz.func81, Tryz.ntmps81
   go_wp2_with fail
   all_goals
    go_ret
    exact ⟨ret_boolP (by first | (simp [partK, h1]; done) | (simp [partK, h1]; omega)), ext_box _ _⟩
  by_cases k3 : k = 3
  ·subst k3
   go_enter Tryz.func81, Tryz.ntmps81
   go_wp2_with fail
   all_goals
    go_ret
    exact ⟨ret_boolP (by first | (simp [partK]; done) | (simp [partK]; omega)), ext_box _ _⟩
  by_cases k4 : k = 4
  ·subst k4
   go_enter Tryz.func81, Tryz.ntmps81
   go_wp2_with fail
   all_goals
    go_ret
    exact ⟨ret_boolP (by first | (simp [partK]; done) | (simp [partK]; omega)), ext_box _ _⟩
  have q1 : (k == 1) = false := by simpa using k1
  have q2 : (k == 2) = false := by simpa using k2
  have q3 : (k == 3) = false := by simpa using k3
  have q4 : (k == 4) = false := by simpa using k4
  go_enter Tryz.func81, Tryz.ntmps81
  go_wp2_with fail
  go_ret
  exact ⟨ret_boolP (by simp [partK, k1, k2, k3, k4]), ext_box _ _⟩
theorem okL_no : ∀ {l : List Tm} {j : Nat} {u : Tm}, l[j]? = some u → okT u = false → okL l = false := fun {l j u} h hu => by
 cases ho : okL l
 ·rfl
 ·rw [okL_get ho h] at hu
  cases hu
set_option maxRecDepth 100000 in
set_option maxHeartbeats 4000000 in
theorem refRight_any : ∀ (N : Nat) (t : Tm), szT t ≤ N → szT t ≤ 1000000000 → ∀ (A : Option Addr) (c : Nat) (w : World) (D : Nat → Prop), TmIn D w t A c →
  Calls Tryz.prog 49 #[tmVal t A c] w fun e w' => e = .returned (.bool (okT t)) ∧ Ext w w'
 | 0, t, h => by
  have := szT_pos t
  omega
 | N + 1, .mk k n s l, hN => by
  intro hbig A c w D ht
  have IH := refRight_any N
  simp only [szT] at hN hbig
  have hlen := len_szL l
  have H := Lib.hid ht
  have hx := ext_box w (.cells #[.int .i64 k, .int .i64 n, .string s, .slice A l.length c] 32)
  have HP := Lib.hid (refPart_any (.mk k n s l) A c (w.alloc (.cells #[.int .i64 k, .int .i64 n, .string s, .slice A l.length c] 32)))
  unfold tmVal at HP ⊢
  simp only [Tm.k, Tm.n, Tm.s, Tm.l] at HP ⊢
  have hok : okT (.mk k n s l) = (partK k n s l.length && okL l) := by simp only [okT]
  rw [hok]
  clear hok ht
  cases hpk : partK k n s l.length
  ·rw [hpk] at HP
   rw [Bool.false_and]
   clear hpk
   go_enter Tryz.func49, Tryz.ntmps49
   go_wp2_with (go_at_call 81; refine HP.out.mono ?_; rintro e W1 ⟨rfl, h1⟩; have H1 := Lib.hid (hx.trans h1); clear h1)
   go_ret
   exact ⟨rfl, H1.out⟩
  ·rw [hpk] at HP
   rw [Bool.true_and]
   generalize hX : okL l = X
   have HX := Lib.hid hX
   have HB := fun (W : World) (x : Ext (w.alloc (.cells #[.int .i64 k, .int .i64 n, .string s, .slice A l.length c] 32)) W) => Lib.hid (Blk.ext (Blk.new w 32 #[.int .i64 k, .int .i64 n, .string s, .slice A l.length c]) x)
   clear hpk hX
   go_enter Tryz.func49, Tryz.ntmps49
   go_upto_region 4 with (go_at_call 81; refine HP.out.mono ?_; rintro e V ⟨rfl, h1⟩; have H1 := Lib.hid (hx.trans h1); have HB1 := HB V h1; clear h1)
   go_loopw [3] (fun i wr => ∃ j : Nat, j ≤ l.length ∧ i = .int .i64 j ∧ Hid (okL (l.take j) = true) ∧ Hid (Ext V wr)) (fun i _ => l.length - (intOf i).toNat)
   case atStart => exact ⟨0, Nat.zero_le _, rfl, Lib.hid (by simp [okL]), Lib.hid (Ext.refl _)⟩
   case round =>
    obtain ⟨j, hj, rfl, HE, HV⟩ := hrel
    have z3 : wr.cell? ⟨w.heap.size, 3, none⟩ = some (.slice A l.length c) := (HB1.out.ext HV.out).cell 3
    by_cases hlt : j < l.length
    ·have ho : l[j]? = some l[j] := List.getElem?_eq_getElem hlt
     have hsu := szL_get ho
     have HTK := Lib.hid (okL_take ho)
     have HNO : Hid (okT l[j] = false → okL l = false) := fun hh => okL_no ho hh
     generalize l[j] = u at *
     obtain ⟨ba, oa, A', c', rfl, _, hu, p0, p1, p2, p3⟩ := (H.out.ext (H1.out.trans HV.out)).child (j := j) ho
     have HC := Lib.hid (IH u (by omega) (by omega) A' c' wr D hu)
     unfold tmVal at HC
     clear ho hu
     cases he : okT u
     ·rw [he] at HC
      have HNO2 := Lib.hid (HNO.out he)
      clear he HNO HTK
      go_wp2_with (go_at_call 49; refine HC.out.mono ?_; rintro e W1 ⟨rfl, h1⟩; have H2 := Lib.hid ((H1.out.trans HV.out).trans h1); clear h1)
      go_ret
      exact ⟨ret_boolP (by rw [← HX.out, HNO2.out]), H2.out⟩
     ·rw [he] at HC
      have HEU := Lib.hid he
      clear he HNO
      go_wp2_with (go_at_call 49; refine HC.out.mono ?_; rintro e W1 ⟨rfl, h1⟩; have H2 := Lib.hid (HV.out.trans h1); clear h1)
      go_roundw
      case rel => exact ⟨j + 1, hlt, by go_num, Lib.hid (by rw [HTK.out, HE.out, HEU.out]; rfl), H2⟩
      case measure => simp [intOf]; omega
    ·obtain rfl : j = l.length := by omega
     rw [List.take_length] at HE
     go_wp2_with fail
     go_ret
     exact ⟨ret_boolP (by rw [← HX.out, HE.out]), H1.out.trans HV.out⟩
set_option maxRecDepth 100000 in
set_option maxHeartbeats 4000000 in
theorem refDepth_any : ∀ (N : Nat) (t : Tm), szT t ≤ N → szT t ≤ 1000000000 → ∀ (A : Option Addr) (c : Nat) (w : World) (D : Nat → Prop), TmIn D w t A c →
  Calls Tryz.prog 50 #[tmVal t A c] w fun e w' => e = .returned (.int .i64 (dpT t)) ∧ Ext w w'
 | 0, t, h => by
  have := szT_pos t
  omega
 | N + 1, .mk k n s l, hN => by
  intro hbig A c w D ht
  have IH := refDepth_any N
  simp only [szT] at hN hbig
  have hlen := len_szL l
  have H := Lib.hid ht
  have hx := ext_box w (.cells #[.int .i64 k, .int .i64 n, .string s, .slice A l.length c] 32)
  have hdl := dpL_le l
  unfold tmVal
  simp only [Tm.k, Tm.n, Tm.s, Tm.l]
  have hdp : dpT (.mk k n s l) = 1 + dpL l := by simp only [dpT]
  rw [hdp]
  have HB1 := Lib.hid (Blk.new w 32 #[.int .i64 k, .int .i64 n, .string s, .slice A l.length c])
  clear hdp ht
  go_enter Tryz.func50, Tryz.ntmps50
  go_upto_region 3 with fail
  refine wp_abs (fun V => Hid (Blk V w.heap.size 32 #[.int .i64 k, .int .i64 n, .string s, .slice A l.length c]) ∧ Hid (Ext w V)) ⟨HB1, hx⟩ ?_
  clear HB1 hx
  rintro V ⟨HB1, H1⟩
  go_loopw [3, 4] (fun d i wr => ∃ j : Nat, j ≤ l.length ∧ i = .int .i64 j ∧ d = .int .i64 (dpL (l.take j)) ∧ Hid (Ext V wr)) (fun _ i _ => l.length - (intOf i).toNat)
  case atStart => exact ⟨0, Nat.zero_le _, rfl, by simp [dpL], Lib.hid (Ext.refl _)⟩
  case round =>
   obtain ⟨j, hj, rfl, rfl, HV⟩ := hrel
   have z3 : wr.cell? ⟨w.heap.size, 3, none⟩ = some (.slice A l.length c) := (HB1.out.ext HV.out).cell 3
   by_cases hlt : j < l.length
   ·have ho : l[j]? = some l[j] := List.getElem?_eq_getElem hlt
    have hsu := szL_get ho
    have hdu := dpL_get ho
    have htk := dpL_take ho
    generalize l[j] = u at *
    obtain ⟨ba, oa, A', c', rfl, _, hu, p0, p1, p2, p3⟩ := (H.out.ext (H1.out.trans HV.out)).child (j := j) ho
    have HC := Lib.hid (IH u (by omega) (by omega) A' c' wr D hu)
    unfold tmVal at HC
    clear ho hu
    generalize dpT u = du at *
    generalize dpL (l.take j) = dj at *
    generalize hdn : dpL (l.take (j + 1)) = dn at *
    have HTK := Lib.hid htk
    have HDN := Lib.hid hdn
    clear htk hdn
    by_cases hg : dj < du
    ·have hg2 : (dj : Int) < (du : Int) := by omega
     go_wp2_with (go_at_call 50; refine HC.out.mono ?_; rintro e W1 ⟨rfl, h1⟩; have H2 := Lib.hid (HV.out.trans h1); clear h1)
     go_roundw
     case rel => exact ⟨j + 1, hlt, by go_num, by rw [HDN.out, HTK.out, Nat.max_eq_right (by omega)], H2⟩
     case measure => simp [intOf]; omega
    ·have hg2 : ¬ (dj : Int) < (du : Int) := by omega
     go_wp2_with (go_at_call 50; refine HC.out.mono ?_; rintro e W1 ⟨rfl, h1⟩; have H2 := Lib.hid (HV.out.trans h1); clear h1)
     go_roundw
     case rel => exact ⟨j + 1, hlt, by go_num, by rw [HDN.out, HTK.out, Nat.max_eq_left (by omega)], H2⟩
     case measure => simp [intOf]; omega
   ·obtain rfl : j = l.length := by omega
    rw [List.take_length]
    go_wp2_with fail
    go_ret
    exact ⟨ret_int (by omega), H1.out.trans HV.out⟩
set_option maxRecDepth 100000 in
set_option maxHeartbeats 4000000 in
theorem refSize_any : ∀ (N : Nat) (t : Tm), szT t ≤ N → szT t ≤ 1000000000 → ∀ (A : Option Addr) (c : Nat) (w : World) (D : Nat → Prop), TmIn D w t A c →
  Calls Tryz.prog 28 #[tmVal t A c] w fun e w' => e = .returned (.int .i64 (szT t)) ∧ Ext w w'
 | 0, t, h => by
  have := szT_pos t
  omega
 | N + 1, .mk k n s l, hN => by
  intro hbig A c w D ht
  have IH := refSize_any N
  simp only [szT] at hN hbig
  have hlen := len_szL l
  have H := Lib.hid ht
  have hx := ext_box w (.cells #[.int .i64 k, .int .i64 n, .string s, .slice A l.length c] 32)
  unfold tmVal
  simp only [Tm.k, Tm.n, Tm.s, Tm.l]
  have hsz : szT (.mk k n s l) = 1 + szL l := by simp only [szT]
  rw [hsz]
  have HB1 := Lib.hid (Blk.new w 32 #[.int .i64 k, .int .i64 n, .string s, .slice A l.length c])
  clear hsz ht
  go_enter Tryz.func28, Tryz.ntmps28
  go_upto_region 3 with fail
  refine wp_abs (fun V => Hid (Blk V w.heap.size 32 #[.int .i64 k, .int .i64 n, .string s, .slice A l.length c]) ∧ Hid (Ext w V)) ⟨HB1, hx⟩ ?_
  clear HB1 hx
  rintro V ⟨HB1, H1⟩
  go_loopw [3, 4] (fun d i wr => ∃ j : Nat, j ≤ l.length ∧ i = .int .i64 j ∧ d = .int .i64 (1 + (szL (l.take j) : Int)) ∧ Hid (Ext V wr)) (fun _ i _ => l.length - (intOf i).toNat)
  case atStart => exact ⟨0, Nat.zero_le _, rfl, by simp [szL], Lib.hid (Ext.refl _)⟩
  case round =>
   obtain ⟨j, hj, rfl, rfl, HV⟩ := hrel
   have z3 : wr.cell? ⟨w.heap.size, 3, none⟩ = some (.slice A l.length c) := (HB1.out.ext HV.out).cell 3
   by_cases hlt : j < l.length
   ·have ho : l[j]? = some l[j] := List.getElem?_eq_getElem hlt
    have hsu := szL_get ho
    have htk := szL_take ho
    have hle := szL_take_le l (j + 1)
    generalize l[j] = u at *
    obtain ⟨ba, oa, A', c', rfl, _, hu, p0, p1, p2, p3⟩ := (H.out.ext (H1.out.trans HV.out)).child (j := j) ho
    have HC := Lib.hid (IH u (by omega) (by omega) A' c' wr D hu)
    unfold tmVal at HC
    clear ho hu
    generalize szT u = du at *
    generalize szL (l.take j) = dj at *
    generalize hdn : szL (l.take (j + 1)) = dn at *
    have HTK := Lib.hid htk
    have HDN := Lib.hid hdn
    have hb : (dj : Int) + (du : Int) ≤ 1000000000 := by omega
    clear htk hdn
    go_wp2_with (go_at_call 28; refine HC.out.mono ?_; rintro e W1 ⟨rfl, h1⟩; have H2 := Lib.hid (HV.out.trans h1); clear h1)
    go_roundw
    case rel => exact ⟨j + 1, hlt, by go_num, by rw [HDN.out, HTK.out]; go_num, H2⟩
    case measure => simp [intOf]; omega
   ·obtain rfl : j = l.length := by omega
    rw [List.take_length]
    go_wp2_with fail
    go_ret
    exact ⟨ret_int (by omega), H1.out.trans HV.out⟩
set_option maxRecDepth 100000 in
theorem refCheck_any (t : Tm) (A : Option Addr) (c : Nat) (w : World) (D : Nat → Prop) (ht : TmIn D w t A c) (hsz : szT t ≤ 1000000000) :
  Calls Tryz.prog 27 #[tmVal t A c] w fun e w' => e = .returned (.int .i64 (chkT t)) ∧ Ext w w' := by
 have hx := ext_box w (.cells #[.int .i64 t.k, .int .i64 t.n, .string t.s, .slice A t.l.length c] 32)
 have HR := fun (W : World) (x : Ext w W) => Lib.hid (refRight_any (szT t) t (Nat.le_refl _) hsz A c W D (ht.ext x))
 have HD := fun (W : World) (x : Ext w W) => Lib.hid (refDepth_any (szT t) t (Nat.le_refl _) hsz A c W D (ht.ext x))
 have HS := fun (W : World) (x : Ext w W) => Lib.hid (refSize_any (szT t) t (Nat.le_refl _) hsz A c W D (ht.ext x))
 have HN := Lib.hid (show chkT t = (if okT t = false then 60 else if 200 < dpT t then 61 else if 4096 < szT t then 62 else 0) from rfl)
 have HK := fun (W : World) (x : Ext (w.alloc (.cells #[.int .i64 t.k, .int .i64 t.n, .string t.s, .slice A t.l.length c] 32)) W) => (show Hid (W.cell? ⟨w.heap.size, 0, none⟩ = some (.int .i64 t.k) ∧ W.cell? ⟨w.heap.size, 1, none⟩ = some (.int .i64 t.n) ∧ W.cell? ⟨w.heap.size, 2, none⟩ = some (.string t.s) ∧ W.cell? ⟨w.heap.size, 3, none⟩ = some (.slice A t.l.length c)) from Lib.hid ⟨new_cell x 0, new_cell x 1, new_cell x 2, new_cell x 3⟩)
 generalize chkT t = r at HN ⊢
 unfold tmVal at HR HD HS ⊢
 generalize t.k = k at *
 generalize t.n = n at *
 generalize t.s = s at *
 generalize t.l.length = m at *
 generalize okT t = ok at *
 generalize dpT t = d at *
 generalize szT t = z at *
 clear ht
 cases ok
 ·rw [if_pos rfl] at HN
  go_enter Tryz.func27, Tryz.ntmps27
  go_wp2_with (go_at_call 49; refine (HR _ hx).out.mono ?_; rintro e W1 ⟨rfl, h1⟩; have H1 := Lib.hid (hx.trans h1); clear h1)
  go_ret
  exact ⟨ret_int HN.out.symm, H1.out⟩
 ·rw [if_neg (by decide)] at HN
  by_cases h1 : 200 < d
  ·rw [if_pos h1] at HN
   have q1 : (200 : Int) < (d : Int) := by omega
   go_enter Tryz.func27, Tryz.ntmps27
   go_wp2_with (first | (go_at_call 49; refine (HR _ hx).out.mono ?_; rintro e W1 ⟨rfl, h1⟩; have H1 := Lib.hid (hx.trans h1); obtain ⟨y0, y1, y2, y3⟩ := (HK _ h1).out; clear h1) | (go_at_call 50; refine (HD _ H1.out).out.mono ?_; rintro e W2 ⟨rfl, h1⟩; have H2 := Lib.hid (H1.out.trans h1); clear h1))
   go_ret
   exact ⟨ret_int HN.out.symm, H2.out⟩
  ·rw [if_neg h1] at HN
   have q1 : ¬ (200 : Int) < (d : Int) := by omega
   by_cases h2 : 4096 < z
   case' pos =>
    rw [if_pos h2] at HN
    have q2 : (4096 : Int) < (z : Int) := by omega
   case' neg =>
    rw [if_neg h2] at HN
    have q2 : ¬ (4096 : Int) < (z : Int) := by omega
   all_goals
    go_enter Tryz.func27, Tryz.ntmps27
    go_wp2_with (first | (go_at_call 49; refine (HR _ hx).out.mono ?_; rintro e W1 ⟨rfl, h1⟩; have H1 := Lib.hid (hx.trans h1); have HY := Lib.hid h1; obtain ⟨y0, y1, y2, y3⟩ := (HK _ h1).out; clear h1) | (go_at_call 50; refine (HD _ H1.out).out.mono ?_; rintro e W2 ⟨rfl, h1⟩; have H2 := Lib.hid (H1.out.trans h1); clear y0 y1 y2 y3; obtain ⟨y0, y1, y2, y3⟩ := (HK _ (HY.out.trans h1)).out; clear h1) | (go_at_call 28; refine (HS _ H2.out).out.mono ?_; rintro e W3 ⟨rfl, h1⟩; have H3 := Lib.hid (H2.out.trans h1); clear h1))
    go_ret
    exact ⟨ret_int HN.out.symm, H3.out⟩
end Go.Proofs.YtgcdhffeacdegaaGreatDoor
namespace Go.El
open Go.RowKit Go.ChangeShapes Go.WideShapes Go.ChangeAt Go.Deep Go.Joins
section
variable {H : Type} {enc : TypeId × Value → H} {P : Program} {w : World} {base : Nat} {spare : Nat → Bool} {held : Bool}
structure OpType (P : Program) (top ti ts : TypeId) : Prop where
 shape : ∃ f0 f1 f2 : Field, P.underlying top = some (.struct #[f0, f1, f2]) ∧ f0.type = ti ∧ f1.type = ti ∧ f2.type = ts ∧ f0.offset = 0 ∧ f1.offset = 1 ∧ f2.offset = 2
 int : P.underlying ti = some (.int .i64)
 str : P.underlying ts = some .string
 c : P.cellsOf top = 3
 ci : P.cellsOf ti = 1
 cs : P.cellsOf ts = 1
variable {tl top ti ts : TypeId}
theorem op_of_trod (T : OpType P top ti ts) {fuel : Nat} {cs : List Value} {x : DataW H × List MemPlace} (h : DataW.trod enc P w base spare held fuel top cs = some x) :
  ∃ o : OpV, cs = opCells o ∧ (Lit.int .i64 o.p).wf = true ∧ (Lit.int .i64 o.t).wf = true ∧ o.s.size ≤ maxLen := by
 obtain ⟨f0, f1, f2, hu, t0, t1, t2, o0, o1, o2⟩ := T.shape
 obtain ⟨xs, n, _, _, hl, hlen, hf⟩ := DataW.trod_struct hu h
 rw [T.c] at hl
 match cs, hl with
 | [c0, c1, c2], _ =>
  have h0 := hf 0 f0 rfl
  have h1 := hf 1 f1 rfl
  have h2 := hf 2 f2 rfl
  match xs, hlen with
  | [x0, x1, x2], _ =>
   rw [t0, o0, T.ci] at h0
   rw [t1, o1, T.ci] at h1
   rw [t2, o2, T.cs] at h2
   simp only [List.drop_zero, List.drop_succ_cons, List.take_succ_cons, List.take_zero, List.getElem?_cons_zero, List.getElem?_cons_succ] at h0 h1 h2
   obtain ⟨p, e0, _, w0⟩ := DataW.trod_int T.int h0
   obtain ⟨t, e1, _, w1⟩ := DataW.trod_int T.int h1
   obtain ⟨s, e2, _, w2⟩ := DataW.trod_string T.str h2
   simp only [List.cons.injEq, and_true] at e0 e1 e2
   exact ⟨⟨p, t, s⟩, by rw [e0, e1, e2]; rfl, w0, w1, w2⟩
theorem open_rows {α : Type} {cells : α → List Value} {k : Nat} {good : α → Prop} {t e : TypeId} (ht : P.underlying t = some (.slice e)) (hce : P.cellsOf e = k) (hk : ∀ x, (cells x).length = k) (h0 : 0 < k)
  (hel : ∀ {fuel : Nat} {cs : List Value} {x : DataW H × List MemPlace}, DataW.trod enc P w base spare held fuel e cs = some x → ∃ a : α, cs = cells a ∧ good a)
  {r : Reach} {b0 : Nat} {v : Value} {d : DataW H} {ps : List MemPlace} (hv : Value.okWide P w r b0 t v) (h : DataW.Trod enc P w base spare held t v d ps) :
  ∃ (A : Option Addr) (L : List α) (c : Nat), v = .slice A L.length c ∧ Src w A L.length k (flat cells L) ∧ (∀ x ∈ L, good x) ∧ L.length ≤ maxLen := by
 obtain ⟨fuel, hf⟩ := h
 have h1 : v.cells.toList = [v] := by
  simp only [Value.okWide, ht] at hv
  cases v <;> simp_all [Cell.okWide, Cell.ok, Value.cells]
 rw [h1] at hf
 rcases open_slice ht hf with ⟨h2, _⟩ | ⟨a, len, cap, m, n, D, Pl, hcs, hb, hl, hm, hmm, hx, hi⟩
 ·simp only [List.cons.injEq, and_true] at h2
  subst h2
  exact ⟨none, [], 0, rfl, Src.none _ _ _, fun x hx => by simp at hx, Nat.zero_le _⟩
 ·simp only [List.cons.injEq, and_true] at hcs
  subst hcs
  have hml : len ≤ m := by rw [hmm]; split <;> omega
  obtain ⟨L, hL, hp⟩ := list_of_all (p := fun i x => w.cells? base (a.add (i * k)) k = some (cells x) ∧ good x) len (fun i hil => by
   obtain ⟨cs', hc, ht'⟩ := hi i (by omega)
   obtain ⟨x, e, g⟩ := hel ht'
   rw [hce, e] at hc
   exact ⟨x, hc, g⟩)
  subst hL
  refine ⟨some a, L, cap, rfl, src_of_cells hk h0 (fun i x hx j u hu => ?_), fun x hx => ?_, by omega⟩
  ·obtain ⟨_, _, hat⟩ := World.cells?_some (hp i x hx).1
   have hj : j < k := by
    have := (List.getElem?_eq_some_iff.1 hu).1
    rwa [hk] at this
   rw [← Go.Deep.add_add]
   exact (hat j hj).trans hu
  ·obtain ⟨i, hi⟩ := List.mem_iff_getElem?.1 hx
   exact (hp i x hi).2
theorem open_ops (T : OpType P top ti ts) {t : TypeId} (ht : P.underlying t = some (.slice top)) {r : Reach} {b0 : Nat} {v : Value} {d : DataW H} {ps : List MemPlace} (hv : Value.okWide P w r b0 t v) (h : DataW.Trod enc P w base spare held t v d ps) :
  ∃ (A : Option Addr) (L : List OpV) (c : Nat), v = .slice A L.length c ∧ Src w A L.length 3 (flat opCells L) ∧ (∀ o ∈ L, o.s.size ≤ maxLen) ∧ L.length ≤ maxLen :=
 open_rows ht T.c opCells_len (by omega) (fun h => (op_of_trod T h).imp fun _ h => ⟨h.1, h.2.2.2⟩) hv h
end
end Go.El
namespace Go.El
theorem act_bd {o : OpV} {found : Bool} {len : Nat} (h : actI o found len = 2) : -1000000 ≤ o.p ∧ o.p ≤ 1000000 := by
 unfold actI at h
 split at h
 ·cases h
 ·rename_i hb
  simp only [argBad, decide_eq_true_eq] at hb
  omega
theorem doO_mem {act : Nat} {o x : OpV} {l : List OpV} (h : x ∈ doO act o l) : x ∈ l ∨ (act = 2 ∧ x = o) := by
 unfold doO at h
 split at h
 ·exact .inl ((delO_sub _).subset h)
 ·split at h
  ·rename_i h2
   rcases setO_mem h with h | h
   ·exact .inr ⟨h2, h⟩
   ·exact .inl h
  ·exact .inl h
def Bd (I Q : List OpV) : Prop := ∀ p : OpV, p ∈ I ∨ p ∈ Q → -1000000 ≤ p.p ∧ p.p ≤ 1000000
theorem Bd.next {I Q : List OpV} (h : Bd I Q) (o : OpV) : Bd (nextI o I Q) (nextQ o I Q) := by
 intro p hp
 unfold nextI nextQ at hp
 rcases hp with hp | hp
 ·split at hp
  ·exact h p (.inl hp)
  ·rcases doO_mem hp with hp | ⟨h2, rfl⟩
   ·exact h p (.inl hp)
   ·exact act_bd h2
 ·split at hp
  ·rcases doO_mem hp with hp | ⟨h2, rfl⟩
   ·exact h p (.inr hp)
   ·exact act_bd h2
  ·exact h p (.inr hp)
def LgO (L : List OpV) : Prop := (∃ j o, j < 30 ∧ L[j]? = some o ∧ 200 < o.s.size) ∨ 20 < L.length
end Go.El
namespace Go.Proofs.YtgcdhffeacdegaaGreatDoor
open Go.RowKit Go.El Go.Proofs
theorem inv_init : Inv initI initQ := ⟨by decide +kernel, by decide +kernel, by decide +kernel, by decide +kernel, by decide +kernel⟩
theorem init_perm : (initI ++ initQ).Perm initL := by decide +kernel
theorem bd_init : Bd initI initQ := by
 have h : (initI ++ initQ).all (fun o => decide (-1000000 ≤ o.p ∧ o.p ≤ 1000000)) = true := by decide +kernel
 intro p hp
 have := List.all_eq_true.1 h p (List.mem_append.2 hp)
 simpa using this
theorem src_op {w : World} {A : Option Addr} {L : List OpV} (h : El.Src w A L.length 3 (flat opCells L)) {k : Nat} (hk : k < L.length) : ∃ b off, A = some ⟨b, off, none⟩ ∧ w.cell? ⟨b, off + k * 3, none⟩ = some (.int .i64 L[k].p) ∧ w.cell? ⟨b, off + k * 3 + 1, none⟩ = some (.int .i64 L[k].t) ∧ w.cell? ⟨b, off + k * 3 + 2, none⟩ = some (.string L[k].s) := by
 rcases SliceO.form ⟨A, 0, rfl, h⟩ with ⟨rfl, _⟩ | ⟨b, off, c, hv, hc⟩
 ·simp at hk
 ·injection hv with hA
  exact ⟨b, off, hA, hc k _ (List.getElem?_eq_getElem hk)⟩
theorem two_ops {w W : World} {tb m1 m2 rb : Nat} {v : Value} {I Q L : List OpV} (h : TwoAt w W tb m1 m2 rb v I Q L) (hb : Bd I Q) : OpsAt W (some (I, Q)) (.pointer (some ⟨tb, 0, none⟩)) := ⟨tb, m1, m2, rfl, h.tab, hb⟩
set_option maxRecDepth 100000 in
set_option maxHeartbeats 2000000 in
theorem opsLarge_any (A : Option Addr) (c : Nat) (L : List OpV) (w : World) (h1 : El.Src w A L.length 3 (flat opCells L)) (hL : L.length ≤ 9223372036854775807) (hg : ∀ o ∈ L, o.s.size ≤ 9223372036854775807) (b : Bool) (hb : b = true ↔ LgO L) :
  Calls Tryz.prog 24 #[.slice A L.length c] w fun e w' => e = .returned (.bool b) ∧ Ext w w' := by
 have H1 := Lib.hid h1
 have HG := Lib.hid hg
 have HB := Lib.hid hb
 clear h1 hg hb
 go_enter Tryz.func24, Tryz.ntmps24
 go_wp2_with fail
 go_loopw [3] (fun i wr => ∃ k : Nat, k ≤ L.length ∧ k ≤ 30 ∧ i = .int .i64 k ∧ Ext w wr ∧ Hid (∀ (j : Nat) (o : OpV), j < k → L[j]? = some o → ¬ 200 < o.s.size)) (fun i _ => 31 - (intOf i).toNat)
 case atStart => exact ⟨0, Nat.zero_le _, Nat.zero_le _, rfl, Ext.refl _, Lib.hid (fun j o h => by omega)⟩
 case round =>
  obtain ⟨k, hk, hk30, rfl, hx, HN⟩ := hrel
  by_cases hlt : k < L.length
  ·by_cases hlt3 : k < 30
   ·obtain ⟨b0, off, rfl, e0, e1, e2⟩ := src_op H1.out hlt
    have hs := HG.out L[k] (List.getElem_mem hlt)
    have d2 := hx.cell e2
    clear e0 e1 e2
    have hk' : L[k]? = some L[k] := List.getElem?_eq_getElem hlt
    have HK := Lib.hid hk'
    clear hk'
    generalize L[k] = x at *
    have HQ := Lib.hid (rfl : x.s = x.s)
    revert HQ
    generalize hxs : x.s = s at hs d2 ⊢
    have HXS := Lib.hid hxs
    clear hxs
    intro HQ
    clear HQ
    by_cases hz : 200 < s.size
    ·go_wp2_with fail
     go_ret
     exact ⟨ret_boolP ⟨fun _ => HB.out.2 (.inl ⟨k, x, hlt3, HK.out, by rw [HXS.out]; exact hz⟩), fun _ => rfl⟩, hx⟩
    ·go_wp2_with fail
     go_roundw
     case rel => exact ⟨k + 1, hlt, hlt3, by go_num, hx, Lib.hid (fun j o hj ho => by
      rcases Nat.lt_succ_iff_lt_or_eq.1 hj with h | rfl
      ·exact HN.out j o h ho
      ·obtain rfl := Option.some.inj (ho.symm.trans HK.out)
       rw [HXS.out]; exact hz)⟩
     case measure => simp [intOf]; omega
   ·go_wp2_with fail
    go_ret
    exact ⟨ret_boolP (by
    rw [HB.out, decide_eq_true_iff]
    unfold LgO
    constructor
    ·intro h; exact .inr (by omega)
    ·rintro (⟨j, o, h1, h2, h3⟩ | h)
     ·exact absurd h3 (HN.out j o (by have := (List.getElem?_eq_some_iff.1 h2).1; omega) h2)
     ·omega), hx⟩
  ·go_wp2_with fail
   go_ret
   exact ⟨ret_boolP (by
    rw [HB.out, decide_eq_true_iff]
    unfold LgO
    constructor
    ·intro h; exact .inr (by omega)
    ·rintro (⟨j, o, h1, h2, h3⟩ | h)
     ·exact absurd h3 (HN.out j o (by have := (List.getElem?_eq_some_iff.1 h2).1; omega) h2)
     ·omega), hx⟩
end Go.Proofs.YtgcdhffeacdegaaGreatDoor
