/- Taken out of other seats' texts by extract.py: refCheck_any. -/
import Derived.Test.YtmnnhdegoapfcaaGreatDoorP10
import Derived.Test.YtmnnhdegoapfcaaGreatDoorP11
import Derived.Test.YtmnnhdegoapfcaaGreatDoorP09
import Derived.Test.YtmnnhdegoapfcaaGreatDoorP08
import Derived.Deep.RegionLaw
import Derived.Great.Walk
import Derived.Laws.OwnMore
import Derived.OwnWalk
namespace Go.Proofs.YtmnnhdegoapfcaaGreatDoor
open Go.RowKit Go.El
set_option maxRecDepth 100000 in
set_option maxHeartbeats 4000000 in
theorem refPart_any (t : Tm) (A : Option Addr) (c : Nat) (w : World) :
  Calls Tryz.prog 90 #[tmVal t A c] w fun e w' => e = .returned (.bool (partK t.k t.n t.s t.l.length)) ∧ Ext w w' := by
 have h0 := size_nil t.s
 unfold tmVal
 generalize t.l.length = m at *
 generalize t.s = s at *
 generalize t.n = n at *
 generalize t.k = k at *
 by_cases h1 : s.size = 0
 case' pos => rw [decide_eq_true h1] at h0
 case' neg => rw [decide_eq_false h1] at h0
 all_goals
  by_cases k1 : k = 1
  ·subst k1
   go_enter Tryz.func90, Tryz.ntmps90
   go_wp2_with fail
   all_goals
    go_ret
    exact ⟨ret_boolP (by first | (simp [partK, h1]; done) | (simp [partK, h1]; omega)), ext_box _ _⟩
  by_cases k2 : k = 2
  ·subst k2
   go_enter Tryz.func90, Tryz.ntmps90
   go_wp2_with fail
   all_goals
    go_ret
    exact ⟨ret_boolP (by first | (simp [partK, h1]; done) | (simp [partK, h1]; omega)), ext_box _ _⟩
  by_cases k3 : k = 3
  ·subst k3
   go_enter Tryz.func90, Tryz.ntmps90
   go_wp2_with fail
   all_goals
    go_ret
    exact ⟨ret_boolP (by first | (simp [partK]; done) | (simp [partK]; omega)), ext_box _ _⟩
  by_cases k4 : k = 4
  ·subst k4
   go_enter Tryz.func90, Tryz.ntmps90
   go_wp2_with fail
   all_goals
    go_ret
    exact ⟨ret_boolP (by first | (simp [partK]; done) | (simp [partK]; omega)), ext_box _ _⟩
  have q1 : (k == 1) = false := by simpa using k1
  have q2 : (k == 2) = false := by simpa using k2
  have q3 : (k == 3) = false := by simpa using k3
  have q4 : (k == 4) = false := by simpa using k4
  go_enter Tryz.func90, Tryz.ntmps90
  go_wp2_with fail
  go_ret
  exact ⟨ret_boolP (by simp [partK, k1, k2, k3, k4]), ext_box _ _⟩
theorem okL_no : ∀ {l : List Tm} {j : Nat} {u : Tm}, l[j]? = some u → okT u = false → okL l = false := fun {l j u} h hu => by
 cases ho : okL l
 ·rfl
 ·rw [okL_get ho h] at hu
  cases hu
set_option maxRecDepth 100000 in
set_option maxHeartbeats 4000000 in
theorem refRight_any : ∀ (N : Nat) (t : Tm), szT t ≤ N → szT t ≤ 1000000000 → ∀ (A : Option Addr) (c : Nat) (w : World) (D : Nat → Prop), TmIn D w t A c →
  Calls Tryz.prog 48 #[tmVal t A c] w fun e w' => e = .returned (.bool (okT t)) ∧ Ext w w'
 | 0, t, h => by
  have := szT_pos t
  omega
 | N + 1, .mk k n s l, hN => by
  intro hbig A c w D ht
  have IH := refRight_any N
  simp only [szT] at hN hbig
  have hlen := len_szL l
  have H := Lib.hid ht
  have hx := ext_box w (.cells #[.int .i64 k, .int .i64 n, .string s, .slice A l.length c] 30)
  have HP := Lib.hid (refPart_any (.mk k n s l) A c (w.alloc (.cells #[.int .i64 k, .int .i64 n, .string s, .slice A l.length c] 30)))
  unfold tmVal at HP ⊢
  simp only [Tm.k, Tm.n, Tm.s, Tm.l] at HP ⊢
  have hok : okT (.mk k n s l) = (partK k n s l.length && okL l) := by simp only [okT]
  rw [hok]
  clear hok ht
  cases hpk : partK k n s l.length
  ·rw [hpk] at HP
   rw [Bool.false_and]
   clear hpk
   go_enter Tryz.func48, Tryz.ntmps48
   go_wp2_with (go_at_call 90; refine HP.out.mono ?_; rintro e W1 ⟨rfl, h1⟩; have H1 := Lib.hid (hx.trans h1); clear h1)
   go_ret
   exact ⟨rfl, H1.out⟩
  ·rw [hpk] at HP
   rw [Bool.true_and]
   generalize hX : okL l = X
   have HX := Lib.hid hX
   have HB := fun (W : World) (x : Ext (w.alloc (.cells #[.int .i64 k, .int .i64 n, .string s, .slice A l.length c] 30)) W) => Lib.hid (Blk.ext (Blk.new w 30 #[.int .i64 k, .int .i64 n, .string s, .slice A l.length c]) x)
   clear hpk hX
   go_enter Tryz.func48, Tryz.ntmps48
   go_upto_region 4 with (go_at_call 90; refine HP.out.mono ?_; rintro e V ⟨rfl, h1⟩; have H1 := Lib.hid (hx.trans h1); have HB1 := HB V h1; clear h1)
   go_loopw [3] (fun i wr => ∃ j : Nat, j ≤ l.length ∧ i = .int .i64 j ∧ Hid (okL (l.take j) = true) ∧ Hid (Ext V wr)) (fun i _ => l.length - (intOf i).toNat)
   case atStart => exact ⟨0, Nat.zero_le _, rfl, Lib.hid (by simp [okL]), Lib.hid (Ext.refl _)⟩
   case round =>
    obtain ⟨j, hj, rfl, HE, HV⟩ := hrel
    have z3 : wr.cell? ⟨w.heap.size, 3, none⟩ = some (.slice A l.length c) := (HB1.out.ext HV.out).cell 3
    by_cases hlt : j < l.length
    ·have ho : l[j]? = some l[j] := List.getElem?_eq_getElem hlt
     have hsu := szL_get ho
     have HTK := Lib.hid (okL_take ho)
     have HNO : Hid (okT l[j] = false → okL l = false) := fun hh => okL_no ho hh
     generalize l[j] = u at *
     obtain ⟨ba, oa, A', c', rfl, _, hu, p0, p1, p2, p3⟩ := (H.out.ext (H1.out.trans HV.out)).child (j := j) ho
     have HC := Lib.hid (IH u (by omega) (by omega) A' c' wr D hu)
     unfold tmVal at HC
     clear ho hu
     cases he : okT u
     ·rw [he] at HC
      have HNO2 := Lib.hid (HNO.out he)
      clear he HNO HTK
      go_wp2_with (go_at_call 48; refine HC.out.mono ?_; rintro e W1 ⟨rfl, h1⟩; have H2 := Lib.hid ((H1.out.trans HV.out).trans h1); clear h1)
      go_ret
      exact ⟨ret_boolP (by rw [← HX.out, HNO2.out]), H2.out⟩
     ·rw [he] at HC
      have HEU := Lib.hid he
      clear he HNO
      go_wp2_with (go_at_call 48; refine HC.out.mono ?_; rintro e W1 ⟨rfl, h1⟩; have H2 := Lib.hid (HV.out.trans h1); clear h1)
      go_roundw
      case rel => exact ⟨j + 1, hlt, by go_num, Lib.hid (by rw [HTK.out, HE.out, HEU.out]; rfl), H2⟩
      case measure => simp [intOf]; omega
    ·obtain rfl : j = l.length := by omega
     rw [List.take_length] at HE
     go_wp2_with fail
     go_ret
     exact ⟨ret_boolP (by rw [← HX.out, HE.out]), H1.out.trans HV.out⟩
set_option maxRecDepth 100000 in
set_option maxHeartbeats 4000000 in
theorem refDepth_any : ∀ (N : Nat) (t : Tm), szT t ≤ N → szT t ≤ 1000000000 → ∀ (A : Option Addr) (c : Nat) (w : World) (D : Nat → Prop), TmIn D w t A c →
  Calls Tryz.prog 49 #[tmVal t A c] w fun e w' => e = .returned (.int .i64 (dpT t)) ∧ Ext w w'
 | 0, t, h => by
  have := szT_pos t
  omega
 | N + 1, .mk k n s l, hN => by
  intro hbig A c w D ht
  have IH := refDepth_any N
  simp only [szT] at hN hbig
  have hlen := len_szL l
  have H := Lib.hid ht
  have hx := ext_box w (.cells #[.int .i64 k, .int .i64 n, .string s, .slice A l.length c] 30)
  have hdl := dpL_le l
  unfold tmVal
  simp only [Tm.k, Tm.n, Tm.s, Tm.l]
  have hdp : dpT (.mk k n s l) = 1 + dpL l := by simp only [dpT]
  rw [hdp]
  have HB1 := Lib.hid (Blk.new w 30 #[.int .i64 k, .int .i64 n, .string s, .slice A l.length c])
  clear hdp ht
  go_enter Tryz.func49, Tryz.ntmps49
  go_upto_region 3 with fail
  refine wp_abs (fun V => Hid (Blk V w.heap.size 30 #[.int .i64 k, .int .i64 n, .string s, .slice A l.length c]) ∧ Hid (Ext w V)) ⟨HB1, hx⟩ ?_
  clear HB1 hx
  rintro V ⟨HB1, H1⟩
  go_loopw [3, 4] (fun d i wr => ∃ j : Nat, j ≤ l.length ∧ i = .int .i64 j ∧ d = .int .i64 (dpL (l.take j)) ∧ Hid (Ext V wr)) (fun _ i _ => l.length - (intOf i).toNat)
  case atStart => exact ⟨0, Nat.zero_le _, rfl, by simp [dpL], Lib.hid (Ext.refl _)⟩
  case round =>
   obtain ⟨j, hj, rfl, rfl, HV⟩ := hrel
   have z3 : wr.cell? ⟨w.heap.size, 3, none⟩ = some (.slice A l.length c) := (HB1.out.ext HV.out).cell 3
   by_cases hlt : j < l.length
   ·have ho : l[j]? = some l[j] := List.getElem?_eq_getElem hlt
    have hsu := szL_get ho
    have hdu := dpL_get ho
    have htk := dpL_take ho
    generalize l[j] = u at *
    obtain ⟨ba, oa, A', c', rfl, _, hu, p0, p1, p2, p3⟩ := (H.out.ext (H1.out.trans HV.out)).child (j := j) ho
    have HC := Lib.hid (IH u (by omega) (by omega) A' c' wr D hu)
    unfold tmVal at HC
    clear ho hu
    generalize dpT u = du at *
    generalize dpL (l.take j) = dj at *
    generalize hdn : dpL (l.take (j + 1)) = dn at *
    have HTK := Lib.hid htk
    have HDN := Lib.hid hdn
    clear htk hdn
    by_cases hg : dj < du
    ·have hg2 : (dj : Int) < (du : Int) := by omega
     go_wp2_with (go_at_call 49; refine HC.out.mono ?_; rintro e W1 ⟨rfl, h1⟩; have H2 := Lib.hid (HV.out.trans h1); clear h1)
     go_roundw
     case rel => exact ⟨j + 1, hlt, by go_num, by rw [HDN.out, HTK.out, Nat.max_eq_right (by omega)], H2⟩
     case measure => simp [intOf]; omega
    ·have hg2 : ¬ (dj : Int) < (du : Int) := by omega
     go_wp2_with (go_at_call 49; refine HC.out.mono ?_; rintro e W1 ⟨rfl, h1⟩; have H2 := Lib.hid (HV.out.trans h1); clear h1)
     go_roundw
     case rel => exact ⟨j + 1, hlt, by go_num, by rw [HDN.out, HTK.out, Nat.max_eq_left (by omega)], H2⟩
     case measure => simp [intOf]; omega
   ·obtain rfl : j = l.length := by omega
    rw [List.take_length]
    go_wp2_with fail
    go_ret
    exact ⟨ret_int (by omega), H1.out.trans HV.out⟩
set_option maxRecDepth 100000 in
set_option maxHeartbeats 4000000 in
theorem refSize_any : ∀ (N : Nat) (t : Tm), szT t ≤ N → szT t ≤ 1000000000 → ∀ (A : Option Addr) (c : Nat) (w : World) (D : Nat → Prop), TmIn D w t A c →
  Calls Tryz.prog 50 #[tmVal t A c] w fun e w' => e = .returned (.int .i64 (szT t)) ∧ Ext w w'
 | 0, t, h => by
  have := szT_pos t
  omega
 | N + 1, .mk k n s l, hN => by
  intro hbig A c w D ht
  have IH := refSize_any N
  simp only [szT] at hN hbig
  have hlen := len_szL l
  have H := Lib.hid ht
  have hx := ext_box w (.cells #[.int .i64 k, .int .i64 n, .string s, .slice A l.length c] 30)
  unfold tmVal
  simp only [Tm.k, Tm.n, Tm.s, Tm.l]
  have hsz : szT (.mk k n s l) = 1 + szL l := by simp only [szT]
  rw [hsz]
  have HB1 := Lib.hid (Blk.new w 30 #[.int .i64 k, .int .i64 n, .string s, .slice A l.length c])
  clear hsz ht
  go_enter Tryz.func50, Tryz.ntmps50
  go_upto_region 3 with fail
  refine wp_abs (fun V => Hid (Blk V w.heap.size 30 #[.int .i64 k, .int .i64 n, .string s, .slice A l.length c]) ∧ Hid (Ext w V)) ⟨HB1, hx⟩ ?_
  clear HB1 hx
  rintro V ⟨HB1, H1⟩
  go_loopw [3, 4] (fun d i wr => ∃ j : Nat, j ≤ l.length ∧ i = .int .i64 j ∧ d = .int .i64 (1 + (szL (l.take j) : Int)) ∧ Hid (Ext V wr)) (fun _ i _ => l.length - (intOf i).toNat)
  case atStart => exact ⟨0, Nat.zero_le _, rfl, by simp [szL], Lib.hid (Ext.refl _)⟩
  case round =>
   obtain ⟨j, hj, rfl, rfl, HV⟩ := hrel
   have z3 : wr.cell? ⟨w.heap.size, 3, none⟩ = some (.slice A l.length c) := (HB1.out.ext HV.out).cell 3
   by_cases hlt : j < l.length
   ·have ho : l[j]? = some l[j] := List.getElem?_eq_getElem hlt
    have hsu := szL_get ho
    have htk := szL_take ho
    have hle := szL_take_le l (j + 1)
    generalize l[j] = u at *
    obtain ⟨ba, oa, A', c', rfl, _, hu, p0, p1, p2, p3⟩ := (H.out.ext (H1.out.trans HV.out)).child (j := j) ho
    have HC := Lib.hid (IH u (by omega) (by omega) A' c' wr D hu)
    unfold tmVal at HC
    clear ho hu
    generalize szT u = du at *
    generalize szL (l.take j) = dj at *
    generalize hdn : szL (l.take (j + 1)) = dn at *
    have HTK := Lib.hid htk
    have HDN := Lib.hid hdn
    have hb : (dj : Int) + (du : Int) ≤ 1000000000 := by omega
    clear htk hdn
    go_wp2_with (go_at_call 50; refine HC.out.mono ?_; rintro e W1 ⟨rfl, h1⟩; have H2 := Lib.hid (HV.out.trans h1); clear h1)
    go_roundw
    case rel => exact ⟨j + 1, hlt, by go_num, by rw [HDN.out, HTK.out]; go_num, H2⟩
    case measure => simp [intOf]; omega
   ·obtain rfl : j = l.length := by omega
    rw [List.take_length]
    go_wp2_with fail
    go_ret
    exact ⟨ret_int (by omega), H1.out.trans HV.out⟩
set_option maxRecDepth 100000 in
theorem refCheck_any (t : Tm) (A : Option Addr) (c : Nat) (w : World) (D : Nat → Prop) (ht : TmIn D w t A c) (hsz : szT t ≤ 1000000000) :
  Calls Tryz.prog 15 #[tmVal t A c] w fun e w' => e = .returned (.int .i64 (chkT t)) ∧ Ext w w' := by
 have hx := ext_box w (.cells #[.int .i64 t.k, .int .i64 t.n, .string t.s, .slice A t.l.length c] 30)
 have HR := fun (W : World) (x : Ext w W) => Lib.hid (refRight_any (szT t) t (Nat.le_refl _) hsz A c W D (ht.ext x))
 have HD := fun (W : World) (x : Ext w W) => Lib.hid (refDepth_any (szT t) t (Nat.le_refl _) hsz A c W D (ht.ext x))
 have HS := fun (W : World) (x : Ext w W) => Lib.hid (refSize_any (szT t) t (Nat.le_refl _) hsz A c W D (ht.ext x))
 have HN := Lib.hid (show chkT t = (if okT t = false then 60 else if 200 < dpT t then 61 else if 4096 < szT t then 62 else 0) from rfl)
 have HK := fun (W : World) (x : Ext (w.alloc (.cells #[.int .i64 t.k, .int .i64 t.n, .string t.s, .slice A t.l.length c] 30)) W) => (show Hid (W.cell? ⟨w.heap.size, 0, none⟩ = some (.int .i64 t.k) ∧ W.cell? ⟨w.heap.size, 1, none⟩ = some (.int .i64 t.n) ∧ W.cell? ⟨w.heap.size, 2, none⟩ = some (.string t.s) ∧ W.cell? ⟨w.heap.size, 3, none⟩ = some (.slice A t.l.length c)) from Lib.hid ⟨new_cell x 0, new_cell x 1, new_cell x 2, new_cell x 3⟩)
 generalize chkT t = r at HN ⊢
 unfold tmVal at HR HD HS ⊢
 generalize t.k = k at *
 generalize t.n = n at *
 generalize t.s = s at *
 generalize t.l.length = m at *
 generalize okT t = ok at *
 generalize dpT t = d at *
 generalize szT t = z at *
 clear ht
 cases ok
 ·rw [if_pos rfl] at HN
  go_enter Tryz.func15, Tryz.ntmps15
  go_wp2_with (go_at_call 48; refine (HR _ hx).out.mono ?_; rintro e W1 ⟨rfl, h1⟩; have H1 := Lib.hid (hx.trans h1); clear h1)
  go_ret
  exact ⟨ret_int HN.out.symm, H1.out⟩
 ·rw [if_neg (by decide)] at HN
  by_cases h1 : 200 < d
  ·rw [if_pos h1] at HN
   have q1 : (200 : Int) < (d : Int) := by omega
   go_enter Tryz.func15, Tryz.ntmps15
   go_wp2_with (first | (go_at_call 48; refine (HR _ hx).out.mono ?_; rintro e W1 ⟨rfl, h1⟩; have H1 := Lib.hid (hx.trans h1); obtain ⟨y0, y1, y2, y3⟩ := (HK _ h1).out; clear h1) | (go_at_call 49; refine (HD _ H1.out).out.mono ?_; rintro e W2 ⟨rfl, h1⟩; have H2 := Lib.hid (H1.out.trans h1); clear h1))
   go_ret
   exact ⟨ret_int HN.out.symm, H2.out⟩
  ·rw [if_neg h1] at HN
   have q1 : ¬ (200 : Int) < (d : Int) := by omega
   by_cases h2 : 4096 < z
   case' pos =>
    rw [if_pos h2] at HN
    have q2 : (4096 : Int) < (z : Int) := by omega
   case' neg =>
    rw [if_neg h2] at HN
    have q2 : ¬ (4096 : Int) < (z : Int) := by omega
   all_goals
    go_enter Tryz.func15, Tryz.ntmps15
    go_wp2_with (first | (go_at_call 48; refine (HR _ hx).out.mono ?_; rintro e W1 ⟨rfl, h1⟩; have H1 := Lib.hid (hx.trans h1); have HY := Lib.hid h1; obtain ⟨y0, y1, y2, y3⟩ := (HK _ h1).out; clear h1) | (go_at_call 49; refine (HD _ H1.out).out.mono ?_; rintro e W2 ⟨rfl, h1⟩; have H2 := Lib.hid (H1.out.trans h1); clear y0 y1 y2 y3; obtain ⟨y0, y1, y2, y3⟩ := (HK _ (HY.out.trans h1)).out; clear h1) | (go_at_call 50; refine (HS _ H2.out).out.mono ?_; rintro e W3 ⟨rfl, h1⟩; have H3 := Lib.hid (H2.out.trans h1); clear h1))
    go_ret
    exact ⟨ret_int HN.out.symm, H3.out⟩
end Go.Proofs.YtmnnhdegoapfcaaGreatDoor

/- Layer 14, the reference: the walks of in, Builtin, comp, goal. -/
namespace Go.El
open Go.RowKit
def biL0 : List ByteArray := [⟨#[116, 114, 117, 101]⟩, ⟨#[102, 97, 105, 108]⟩, ⟨#[33]⟩, ⟨#[104, 97, 108, 116]⟩, ⟨#[110, 108]⟩]
def biL1 : List ByteArray := [⟨#[92, 43]⟩, ⟨#[99, 97, 108, 108]⟩, ⟨#[116, 104, 114, 111, 119]⟩, ⟨#[118, 97, 114]⟩, ⟨#[110, 111, 110, 118, 97, 114]⟩, ⟨#[97, 116, 111, 109]⟩, ⟨#[105, 110, 116, 101, 103, 101, 114]⟩, ⟨#[99, 111, 109, 112, 111, 117, 110, 100]⟩, ⟨#[97, 115, 115, 101, 114, 116, 122]⟩, ⟨#[97, 115, 115, 101, 114, 116, 97]⟩, ⟨#[114, 101, 116, 114, 97, 99, 116]⟩, ⟨#[119, 114, 105, 116, 101]⟩, ⟨#[58, 45]⟩]
def biL2 : List ByteArray := [⟨#[44]⟩, ⟨#[59]⟩, ⟨#[45, 62]⟩, ⟨#[99, 97, 108, 108]⟩, ⟨#[61]⟩, ⟨#[92, 61]⟩, ⟨#[61, 61]⟩, ⟨#[92, 61, 61]⟩, ⟨#[64, 60]⟩, ⟨#[64, 62]⟩, ⟨#[64, 61, 60]⟩, ⟨#[64, 62, 61]⟩, ⟨#[61, 46, 46]⟩, ⟨#[99, 111, 112, 121, 95, 116, 101, 114, 109]⟩, ⟨#[105, 115]⟩, ⟨#[61, 58, 61]⟩, ⟨#[61, 92, 61]⟩, ⟨#[60]⟩, ⟨#[62]⟩, ⟨#[61, 60]⟩, ⟨#[62, 61]⟩, ⟨#[97, 116, 111, 109, 95, 108, 101, 110, 103, 116, 104]⟩, ⟨#[58, 45]⟩]
def biL3 : List ByteArray := [⟨#[99, 97, 108, 108]⟩, ⟨#[99, 97, 116, 99, 104]⟩, ⟨#[102, 105, 110, 100, 97, 108, 108]⟩, ⟨#[99, 111, 109, 112, 97, 114, 101]⟩, ⟨#[102, 117, 110, 99, 116, 111, 114]⟩, ⟨#[97, 114, 103]⟩]
def memB (s : ByteArray) (L : List ByteArray) : Bool := L.any fun x => decide (x = s)
def biF (s : ByteArray) (n : Int) : Bool := if n = 0 then memB s biL0 else if n = 1 then memB s biL1 else if n = 2 then memB s biL2 else if n = 3 then memB s biL3 else decide (n = 4) && decide (s = ⟨#[99, 97, 108, 108]⟩)
theorem str_lit (s : ByteArray) (l : List UInt8) : (s.toList == l) = decide (s = ⟨l.toArray⟩) := by
 rw [ByteArray.toList_eq]
 have h : s.data.toList = l ↔ s = ⟨l.toArray⟩ := by
  constructor
  ·rintro rfl
   simp
  ·rintro rfl
   simp
 by_cases hs : s = ⟨l.toArray⟩
 ·rw [decide_eq_true hs, h.2 hs]
  simp
 ·rw [decide_eq_false hs]
  simpa using fun e => hs (h.1 e)
theorem str_beq (a b : ByteArray) : (a.toList == b.toList) = decide (a = b) := by
 rw [str_lit, ByteArray.toList_eq]
end Go.El
namespace Go.Proofs.YtmnnhdegoapfcaaGreatDoor
open Go.RowKit Go.El
theorem src_str {w : World} {A : Option Addr} {L : List ByteArray} (h : El.Src w A L.length 1 (L.map Value.string)) {k : Nat} (hk : k < L.length) : ∃ b off, A = some ⟨b, off, none⟩ ∧ w.cell? ⟨b, off + k, none⟩ = some (.string L[k]) := by
 obtain ⟨b, off, rfl, hc⟩ := El.Src.form h (by omega) (by omega)
 exact ⟨b, off, rfl, hc k _ (by simp [hk])⟩
set_option maxRecDepth 100000 in
set_option maxHeartbeats 4000000 in
theorem refIn_any (s : ByteArray) (L : List ByteArray) (A : Option Addr) (c : Nat) (w : World) (hV : El.Src w A L.length 1 (L.map Value.string)) (hl : L.length ≤ 1000000000) :
  Calls Tryz.prog 77 #[.string s, .slice A L.length c] w fun e w' => e = .returned (.bool (memB s L)) ∧ w' = w := by
 have HV := Lib.hid hV
 generalize hP : memB s L = P
 have HP := Lib.hid hP
 clear hV hP
 go_enter Tryz.func77, Tryz.ntmps77
 go_wp2_with fail
 go_loopw [5] (fun i wr => ∃ j : Nat, j ≤ L.length ∧ i = .int .i64 j ∧ wr = w ∧ Hid (∀ (q : Nat) (x : ByteArray), q < j → L[q]? = some x → ¬ x = s)) (fun i _ => L.length - (intOf i).toNat)
 case atStart => exact ⟨0, Nat.zero_le _, rfl, rfl, Lib.hid (fun q x h => by omega)⟩
 case round =>
  obtain ⟨j, hj, rfl, rfl, HN⟩ := hrel
  by_cases hlt : j < L.length
  ·obtain ⟨b, off, rfl, e0⟩ := src_str HV.out hlt
   have HJ := Lib.hid (List.getElem?_eq_getElem hlt)
   generalize L[j] = x at e0 HJ
   by_cases hq : x = s
   ·have hpl : P = true := by
     rw [← HP.out]
     exact List.any_eq_true.2 ⟨x, List.mem_of_getElem? HJ.out, decide_eq_true hq⟩
    have q1 : (x.toList == s.toList) = true := by rw [str_beq]; exact decide_eq_true hq
    subst hpl
    clear hq
    go_wp2_with fail
    go_ret
    exact ⟨rfl, rfl⟩
   ·have q1 : (x.toList == s.toList) = false := by rw [str_beq]; exact decide_eq_false hq
    have HQ := Lib.hid hq
    clear hq
    go_wp2_with fail
    go_roundw
    case rel =>
     exact ⟨j + 1, hlt, by go_num, trivial, Lib.hid (fun q z hq hz => by
      rcases Nat.lt_succ_iff_lt_or_eq.1 hq with h | rfl
      ·exact HN.out q z h hz
      ·obtain rfl := Option.some.inj (hz.symm.trans HJ.out)
       exact HQ.out)⟩
    case measure => simp [intOf]; omega
  ·obtain rfl : j = L.length := by omega
   have hpl : P = false := by
    rw [← HP.out]
    refine List.any_eq_false.2 (fun x hm => ?_)
    obtain ⟨q, hq⟩ := List.mem_iff_getElem?.1 hm
    simpa using HN.out q x (List.getElem?_eq_some_iff.1 hq).1 hq
   subst hpl
   go_wp2_with fail
   go_ret
   exact ⟨rfl, rfl⟩
set_option maxRecDepth 100000 in
set_option maxHeartbeats 4000000 in
theorem refBuiltin_any (s : ByteArray) (n : Int) (w : World) :
  Calls Tryz.prog 38 #[.string s, .int .i64 n] w fun e w' => e = .returned (.bool (biF s n)) ∧ Ext w w' := by
 by_cases h0 : n = 0
 ·subst h0
  have HR : Hid (biF s 0 = memB s biL0) := Lib.hid rfl
  have HI := Lib.hid (refIn_any s biL0 (some ⟨w.heap.size, 0, none⟩) 5 (w.alloc (.cells #[.string ⟨#[116, 114, 117, 101]⟩, .string ⟨#[102, 97, 105, 108]⟩, .string ⟨#[33]⟩, .string ⟨#[104, 97, 108, 116]⟩, .string ⟨#[110, 108]⟩] 9)) (El.Src.new w #[.string ⟨#[116, 114, 117, 101]⟩, .string ⟨#[102, 97, 105, 108]⟩, .string ⟨#[33]⟩, .string ⟨#[104, 97, 108, 116]⟩, .string ⟨#[110, 108]⟩] 9 5 1 rfl) (by decide))
  have hlen : biL0.length = 5 := rfl
  rw [hlen] at HI
  generalize memB s biL0 = P at HR HI
  clear hlen
  go_enter Tryz.func38, Tryz.ntmps38
  go_wp2_with (go_at_call 77; refine HI.out.mono ?_; rintro e W1 ⟨rfl, rfl⟩)
  go_ret
  exact ⟨by rw [HR.out]; rfl, ext_box _ _⟩
 have q0 : (n == 0) = false := by simpa using h0
 by_cases h1 : n = 1
 ·subst h1
  have HR : Hid (biF s 1 = memB s biL1) := Lib.hid rfl
  have HI := Lib.hid (refIn_any s biL1 (some ⟨w.heap.size, 0, none⟩) 13 (w.alloc (.cells #[.string ⟨#[92, 43]⟩, .string ⟨#[99, 97, 108, 108]⟩, .string ⟨#[116, 104, 114, 111, 119]⟩, .string ⟨#[118, 97, 114]⟩, .string ⟨#[110, 111, 110, 118, 97, 114]⟩, .string ⟨#[97, 116, 111, 109]⟩, .string ⟨#[105, 110, 116, 101, 103, 101, 114]⟩, .string ⟨#[99, 111, 109, 112, 111, 117, 110, 100]⟩, .string ⟨#[97, 115, 115, 101, 114, 116, 122]⟩, .string ⟨#[97, 115, 115, 101, 114, 116, 97]⟩, .string ⟨#[114, 101, 116, 114, 97, 99, 116]⟩, .string ⟨#[119, 114, 105, 116, 101]⟩, .string ⟨#[58, 45]⟩] 9)) (El.Src.new w #[.string ⟨#[92, 43]⟩, .string ⟨#[99, 97, 108, 108]⟩, .string ⟨#[116, 104, 114, 111, 119]⟩, .string ⟨#[118, 97, 114]⟩, .string ⟨#[110, 111, 110, 118, 97, 114]⟩, .string ⟨#[97, 116, 111, 109]⟩, .string ⟨#[105, 110, 116, 101, 103, 101, 114]⟩, .string ⟨#[99, 111, 109, 112, 111, 117, 110, 100]⟩, .string ⟨#[97, 115, 115, 101, 114, 116, 122]⟩, .string ⟨#[97, 115, 115, 101, 114, 116, 97]⟩, .string ⟨#[114, 101, 116, 114, 97, 99, 116]⟩, .string ⟨#[119, 114, 105, 116, 101]⟩, .string ⟨#[58, 45]⟩] 9 13 1 rfl) (by decide))
  have hlen : biL1.length = 13 := rfl
  rw [hlen] at HI
  generalize memB s biL1 = P at HR HI
  clear hlen
  go_enter Tryz.func38, Tryz.ntmps38
  go_wp2_with (go_at_call 77; refine HI.out.mono ?_; rintro e W1 ⟨rfl, rfl⟩)
  go_ret
  exact ⟨by rw [HR.out]; rfl, ext_box _ _⟩
 have q1 : (n == 1) = false := by simpa using h1
 by_cases h2 : n = 2
 ·subst h2
  have HR : Hid (biF s 2 = memB s biL2) := Lib.hid rfl
  have HI := Lib.hid (refIn_any s biL2 (some ⟨w.heap.size, 0, none⟩) 23 (w.alloc (.cells #[.string ⟨#[44]⟩, .string ⟨#[59]⟩, .string ⟨#[45, 62]⟩, .string ⟨#[99, 97, 108, 108]⟩, .string ⟨#[61]⟩, .string ⟨#[92, 61]⟩, .string ⟨#[61, 61]⟩, .string ⟨#[92, 61, 61]⟩, .string ⟨#[64, 60]⟩, .string ⟨#[64, 62]⟩, .string ⟨#[64, 61, 60]⟩, .string ⟨#[64, 62, 61]⟩, .string ⟨#[61, 46, 46]⟩, .string ⟨#[99, 111, 112, 121, 95, 116, 101, 114, 109]⟩, .string ⟨#[105, 115]⟩, .string ⟨#[61, 58, 61]⟩, .string ⟨#[61, 92, 61]⟩, .string ⟨#[60]⟩, .string ⟨#[62]⟩, .string ⟨#[61, 60]⟩, .string ⟨#[62, 61]⟩, .string ⟨#[97, 116, 111, 109, 95, 108, 101, 110, 103, 116, 104]⟩, .string ⟨#[58, 45]⟩] 9)) (El.Src.new w #[.string ⟨#[44]⟩, .string ⟨#[59]⟩, .string ⟨#[45, 62]⟩, .string ⟨#[99, 97, 108, 108]⟩, .string ⟨#[61]⟩, .string ⟨#[92, 61]⟩, .string ⟨#[61, 61]⟩, .string ⟨#[92, 61, 61]⟩, .string ⟨#[64, 60]⟩, .string ⟨#[64, 62]⟩, .string ⟨#[64, 61, 60]⟩, .string ⟨#[64, 62, 61]⟩, .string ⟨#[61, 46, 46]⟩, .string ⟨#[99, 111, 112, 121, 95, 116, 101, 114, 109]⟩, .string ⟨#[105, 115]⟩, .string ⟨#[61, 58, 61]⟩, .string ⟨#[61, 92, 61]⟩, .string ⟨#[60]⟩, .string ⟨#[62]⟩, .string ⟨#[61, 60]⟩, .string ⟨#[62, 61]⟩, .string ⟨#[97, 116, 111, 109, 95, 108, 101, 110, 103, 116, 104]⟩, .string ⟨#[58, 45]⟩] 9 23 1 rfl) (by decide))
  have hlen : biL2.length = 23 := rfl
  rw [hlen] at HI
  generalize memB s biL2 = P at HR HI
  clear hlen
  go_enter Tryz.func38, Tryz.ntmps38
  go_wp2_with (go_at_call 77; refine HI.out.mono ?_; rintro e W1 ⟨rfl, rfl⟩)
  go_ret
  exact ⟨by rw [HR.out]; rfl, ext_box _ _⟩
 have q2 : (n == 2) = false := by simpa using h2
 by_cases h3 : n = 3
 ·subst h3
  have HR : Hid (biF s 3 = memB s biL3) := Lib.hid rfl
  have HI := Lib.hid (refIn_any s biL3 (some ⟨w.heap.size, 0, none⟩) 6 (w.alloc (.cells #[.string ⟨#[99, 97, 108, 108]⟩, .string ⟨#[99, 97, 116, 99, 104]⟩, .string ⟨#[102, 105, 110, 100, 97, 108, 108]⟩, .string ⟨#[99, 111, 109, 112, 97, 114, 101]⟩, .string ⟨#[102, 117, 110, 99, 116, 111, 114]⟩, .string ⟨#[97, 114, 103]⟩] 9)) (El.Src.new w #[.string ⟨#[99, 97, 108, 108]⟩, .string ⟨#[99, 97, 116, 99, 104]⟩, .string ⟨#[102, 105, 110, 100, 97, 108, 108]⟩, .string ⟨#[99, 111, 109, 112, 97, 114, 101]⟩, .string ⟨#[102, 117, 110, 99, 116, 111, 114]⟩, .string ⟨#[97, 114, 103]⟩] 9 6 1 rfl) (by decide))
  have hlen : biL3.length = 6 := rfl
  rw [hlen] at HI
  generalize memB s biL3 = P at HR HI
  clear hlen
  go_enter Tryz.func38, Tryz.ntmps38
  go_wp2_with (go_at_call 77; refine HI.out.mono ?_; rintro e W1 ⟨rfl, rfl⟩)
  go_ret
  exact ⟨by rw [HR.out]; rfl, ext_box _ _⟩
 have q3 : (n == 3) = false := by simpa using h3
 have HR : Hid (biF s n = (decide (n = 4) && decide (s = ⟨#[99, 97, 108, 108]⟩))) := Lib.hid (by unfold biF; rw [if_neg h0, if_neg h1, if_neg h2, if_neg h3])
 clear h0 h1 h2 h3
 by_cases h4 : n = 4
 ·subst h4
  clear q0 q1 q2 q3
  by_cases hs : s = ⟨#[99, 97, 108, 108]⟩
  ·have qs : (s.toList == [99, 97, 108, 108]) = true := by rw [str_lit]; exact decide_eq_true hs
   have HS := Lib.hid hs
   clear hs
   go_enter Tryz.func38, Tryz.ntmps38
   go_wp2_with fail
   go_ret
   exact ⟨by rw [HR.out, HS.out]; rfl, Ext.refl _⟩
  ·have qs : (s.toList == [99, 97, 108, 108]) = false := by rw [str_lit]; exact decide_eq_false hs
   have HS := Lib.hid hs
   clear hs
   go_enter Tryz.func38, Tryz.ntmps38
   go_wp2_with fail
   go_ret
   exact ⟨by rw [HR.out, decide_eq_false HS.out]; rfl, Ext.refl _⟩
 ·have q4 : (n == 4) = false := by simpa using h4
  go_enter Tryz.func38, Tryz.ntmps38
  go_wp2_with fail
  go_ret
  exact ⟨by rw [HR.out, decide_eq_false h4]; rfl, Ext.refl _⟩
set_option maxRecDepth 100000 in
set_option maxHeartbeats 4000000 in
theorem refCompI_any (t : Tm) (A : Option Addr) (c : Nat) (s : ByteArray) (n : Int) (w : World) :
  Calls Tryz.prog 34 #[tmVal t A c, .string s, .int .i64 n] w fun e w' => e = .returned (.bool (isC t s n)) ∧ Ext w w' := by
 have HR := Lib.hid (show isC t s n = (decide (t.k = 4) && (decide (t.s = s) && decide ((t.l.length : Int) = n))) from rfl)
 unfold tmVal
 generalize t.l.length = m at *
 generalize t.s = ts at *
 generalize t.n = tn at *
 generalize t.k = k at *
 by_cases h4 : k = 4
 ·subst h4
  by_cases hs : ts = s
  ·have q1 : (ts.toList == s.toList) = true := by rw [str_beq]; exact decide_eq_true hs
   have HS := Lib.hid hs
   clear hs
   by_cases hm : (m : Int) = n
   ·have q2 : ((m : Int) == n) = true := by simpa using hm
    have HM := Lib.hid hm
    clear hm
    go_enter Tryz.func34, Tryz.ntmps34
    go_wp2_with fail
    go_ret
    exact ⟨by rw [HR.out, decide_eq_true HS.out, decide_eq_true HM.out]; rfl, ext_box _ _⟩
   ·have q2 : ((m : Int) == n) = false := by simpa using hm
    have HM := Lib.hid hm
    clear hm
    go_enter Tryz.func34, Tryz.ntmps34
    go_wp2_with fail
    go_ret
    exact ⟨by rw [HR.out, decide_eq_false HM.out, Bool.and_false, Bool.and_false]; rfl, ext_box _ _⟩
  ·have q1 : (ts.toList == s.toList) = false := by rw [str_beq]; exact decide_eq_false hs
   have HS := Lib.hid hs
   clear hs
   go_enter Tryz.func34, Tryz.ntmps34
   go_wp2_with fail
   go_ret
   exact ⟨by rw [HR.out, decide_eq_false HS.out, Bool.false_and, Bool.and_false]; rfl, ext_box _ _⟩
 ·have q4 : (k == 4) = false := by simpa using h4
  go_enter Tryz.func34, Tryz.ntmps34
  go_wp2_with fail
  go_ret
  exact ⟨by rw [HR.out, decide_eq_false h4, Bool.false_and]; rfl, ext_box _ _⟩
end Go.Proofs.YtmnnhdegoapfcaaGreatDoor
