/- Layer 6, the reference: the walks of part, right, Depth, Size, Check. -/
import Derived.Test.YtnedihbffiddpaaGreatDoorW5
import Derived.Test.YtnedihbffiddpaaGreatDoorWO
import Derived.Test.YtnedihbffiddpaaGreatDoorW8
import Derived.Test.YtnedihbffiddpaaGreatDoorW10
import Derived.Test.YtnedihbffiddpaaGreatDoorW13
import Derived.Test.YtnedihbffiddpaaGreatDoorW35
import Derived.Test.YtnedihbffiddpaaGreatDoorV2
import Derived.Test.YtnedihbffiddpaaGreatDoorWQ
import Derived.Deep.RegionLaw
import Derived.Laws.OwnMore
import Derived.OwnWalk
namespace Go.Proofs.YtnedihbffiddpaaGreatDoor
open Go.RowKit Go.El

set_option maxRecDepth 100000 in
set_option maxHeartbeats 4000000 in
theorem refPart_any (t : Tm) (A : Option Addr) (c : Nat) (w : World) :
    Calls Tryz.prog 79 #[tmVal t A c] w fun e w' => e = .returned (.bool (partK t.k t.n t.s t.l.length)) ∧ Ext w w' := by
  have h0 := size_nil t.s
  unfold tmVal
  generalize t.l.length = m at *
  generalize t.s = s at *
  generalize t.n = n at *
  generalize t.k = k at *
  by_cases h1 : s.size = 0
  case' pos => rw [decide_eq_true h1] at h0
  case' neg => rw [decide_eq_false h1] at h0
  all_goals
    by_cases k1 : k = 1
    · subst k1
      go_enter Tryz.func79, Tryz.ntmps79
      go_wp2_with fail
      all_goals
        go_ret
        exact ⟨ret_boolP (by first | (simp [partK, h1]; done) | (simp [partK, h1]; omega)), ext_box _ _⟩
    by_cases k2 : k = 2
    · subst k2
      go_enter Tryz.func79, Tryz.ntmps79
      go_wp2_with fail
      all_goals
        go_ret
        exact ⟨ret_boolP (by first | (simp [partK, h1]; done) | (simp [partK, h1]; omega)), ext_box _ _⟩
    by_cases k3 : k = 3
    · subst k3
      go_enter Tryz.func79, Tryz.ntmps79
      go_wp2_with fail
      all_goals
        go_ret
        exact ⟨ret_boolP (by first | (simp [partK]; done) | (simp [partK]; omega)), ext_box _ _⟩
    by_cases k4 : k = 4
    · subst k4
      go_enter Tryz.func79, Tryz.ntmps79
      go_wp2_with fail
      all_goals
        go_ret
        exact ⟨ret_boolP (by first | (simp [partK]; done) | (simp [partK]; omega)), ext_box _ _⟩
    have q1 : (k == 1) = false := by simpa using k1
    have q2 : (k == 2) = false := by simpa using k2
    have q3 : (k == 3) = false := by simpa using k3
    have q4 : (k == 4) = false := by simpa using k4
    go_enter Tryz.func79, Tryz.ntmps79
    go_wp2_with fail
    go_ret
    exact ⟨ret_boolP (by simp [partK, k1, k2, k3, k4]), ext_box _ _⟩

theorem okL_no : ∀ {l : List Tm} {j : Nat} {u : Tm}, l[j]? = some u → okT u = false → okL l = false := fun {l j u} h hu => by
  cases ho : okL l
  · rfl
  · rw [okL_get ho h] at hu
    cases hu

set_option maxRecDepth 100000 in
set_option maxHeartbeats 4000000 in
theorem refRight_any : ∀ (N : Nat) (t : Tm), szT t ≤ N → szT t ≤ 1000000000 → ∀ (A : Option Addr) (c : Nat) (w : World) (D : Nat → Prop), TmIn D w t A c →
    Calls Tryz.prog 51 #[tmVal t A c] w fun e w' => e = .returned (.bool (okT t)) ∧ Ext w w'
  | 0, t, h => by
    have := szT_pos t
    omega
  | N + 1, .mk k n s l, hN => by
    intro hbig A c w D ht
    have IH := refRight_any N
    simp only [szT] at hN hbig
    have hlen := len_szL l
    have H := Lib.hid ht
    have hx := ext_box w (.cells #[.int .i64 k, .int .i64 n, .string s, .slice A l.length c] 27)
    have HP := Lib.hid (refPart_any (.mk k n s l) A c (w.alloc (.cells #[.int .i64 k, .int .i64 n, .string s, .slice A l.length c] 27)))
    unfold tmVal at HP ⊢
    simp only [Tm.k, Tm.n, Tm.s, Tm.l] at HP ⊢
    have hok : okT (.mk k n s l) = (partK k n s l.length && okL l) := by simp only [okT]
    rw [hok]
    clear hok ht
    cases hpk : partK k n s l.length
    · rw [hpk] at HP
      rw [Bool.false_and]
      clear hpk
      go_enter Tryz.func51, Tryz.ntmps51
      go_wp2_with (go_at_call 79; refine HP.out.mono ?_; rintro e W1 ⟨rfl, h1⟩; have H1 := Lib.hid (hx.trans h1); clear h1)
      go_ret
      exact ⟨rfl, H1.out⟩
    · rw [hpk] at HP
      rw [Bool.true_and]
      generalize hX : okL l = X
      have HX := Lib.hid hX
      have HB := fun (W : World) (x : Ext (w.alloc (.cells #[.int .i64 k, .int .i64 n, .string s, .slice A l.length c] 27)) W) => Lib.hid (Blk.ext (Blk.new w 27 #[.int .i64 k, .int .i64 n, .string s, .slice A l.length c]) x)
      clear hpk hX
      go_enter Tryz.func51, Tryz.ntmps51
      go_upto_region 4 with (go_at_call 79; refine HP.out.mono ?_; rintro e V ⟨rfl, h1⟩; have H1 := Lib.hid (hx.trans h1); have HB1 := HB V h1; clear h1)
      go_loopw [3] (fun i wr => ∃ j : Nat, j ≤ l.length ∧ i = .int .i64 j ∧ Hid (okL (l.take j) = true) ∧ Hid (Ext V wr)) (fun i _ => l.length - (intOf i).toNat)
      case atStart => exact ⟨0, Nat.zero_le _, rfl, Lib.hid (by simp [okL]), Lib.hid (Ext.refl _)⟩
      case round =>
        obtain ⟨j, hj, rfl, HE, HV⟩ := hrel
        have z3 : wr.cell? ⟨w.heap.size, 3, none⟩ = some (.slice A l.length c) := (HB1.out.ext HV.out).cell 3
        by_cases hlt : j < l.length
        · have ho : l[j]? = some l[j] := List.getElem?_eq_getElem hlt
          have hsu := szL_get ho
          have HTK := Lib.hid (okL_take ho)
          have HNO : Hid (okT l[j] = false → okL l = false) := fun hh => okL_no ho hh
          generalize l[j] = u at *
          obtain ⟨ba, oa, A', c', rfl, _, hu, p0, p1, p2, p3⟩ := (H.out.ext (H1.out.trans HV.out)).child (j := j) ho
          have HC := Lib.hid (IH u (by omega) (by omega) A' c' wr D hu)
          unfold tmVal at HC
          clear ho hu
          cases he : okT u
          · rw [he] at HC
            have HNO2 := Lib.hid (HNO.out he)
            clear he HNO HTK
            go_wp2_with (go_at_call 51; refine HC.out.mono ?_; rintro e W1 ⟨rfl, h1⟩; have H2 := Lib.hid ((H1.out.trans HV.out).trans h1); clear h1)
            go_ret
            exact ⟨ret_boolP (by rw [← HX.out, HNO2.out]), H2.out⟩
          · rw [he] at HC
            have HEU := Lib.hid he
            clear he HNO
            go_wp2_with (go_at_call 51; refine HC.out.mono ?_; rintro e W1 ⟨rfl, h1⟩; have H2 := Lib.hid (HV.out.trans h1); clear h1)
            go_roundw
            case rel => exact ⟨j + 1, hlt, by go_num, Lib.hid (by rw [HTK.out, HE.out, HEU.out]; rfl), H2⟩
            case measure => simp [intOf]; omega
        · obtain rfl : j = l.length := by omega
          rw [List.take_length] at HE
          go_wp2_with fail
          go_ret
          exact ⟨ret_boolP (by rw [← HX.out, HE.out]), H1.out.trans HV.out⟩

set_option maxRecDepth 100000 in
set_option maxHeartbeats 4000000 in
theorem refDepth_any : ∀ (N : Nat) (t : Tm), szT t ≤ N → szT t ≤ 1000000000 → ∀ (A : Option Addr) (c : Nat) (w : World) (D : Nat → Prop), TmIn D w t A c →
    Calls Tryz.prog 52 #[tmVal t A c] w fun e w' => e = .returned (.int .i64 (dpT t)) ∧ Ext w w'
  | 0, t, h => by
    have := szT_pos t
    omega
  | N + 1, .mk k n s l, hN => by
    intro hbig A c w D ht
    have IH := refDepth_any N
    simp only [szT] at hN hbig
    have hlen := len_szL l
    have H := Lib.hid ht
    have hx := ext_box w (.cells #[.int .i64 k, .int .i64 n, .string s, .slice A l.length c] 27)
    have hdl := dpL_le l
    unfold tmVal
    simp only [Tm.k, Tm.n, Tm.s, Tm.l]
    have hdp : dpT (.mk k n s l) = 1 + dpL l := by simp only [dpT]
    rw [hdp]
    have HB1 := Lib.hid (Blk.new w 27 #[.int .i64 k, .int .i64 n, .string s, .slice A l.length c])
    clear hdp ht
    go_enter Tryz.func52, Tryz.ntmps52
    go_upto_region 3 with fail
    refine wp_abs (fun V => Hid (Blk V w.heap.size 27 #[.int .i64 k, .int .i64 n, .string s, .slice A l.length c]) ∧ Hid (Ext w V)) ⟨HB1, hx⟩ ?_
    clear HB1 hx
    rintro V ⟨HB1, H1⟩
    go_loopw [3, 4] (fun d i wr => ∃ j : Nat, j ≤ l.length ∧ i = .int .i64 j ∧ d = .int .i64 (dpL (l.take j)) ∧ Hid (Ext V wr)) (fun _ i _ => l.length - (intOf i).toNat)
    case atStart => exact ⟨0, Nat.zero_le _, rfl, by simp [dpL], Lib.hid (Ext.refl _)⟩
    case round =>
      obtain ⟨j, hj, rfl, rfl, HV⟩ := hrel
      have z3 : wr.cell? ⟨w.heap.size, 3, none⟩ = some (.slice A l.length c) := (HB1.out.ext HV.out).cell 3
      by_cases hlt : j < l.length
      · have ho : l[j]? = some l[j] := List.getElem?_eq_getElem hlt
        have hsu := szL_get ho
        have hdu := dpL_get ho
        have htk := dpL_take ho
        generalize l[j] = u at *
        obtain ⟨ba, oa, A', c', rfl, _, hu, p0, p1, p2, p3⟩ := (H.out.ext (H1.out.trans HV.out)).child (j := j) ho
        have HC := Lib.hid (IH u (by omega) (by omega) A' c' wr D hu)
        unfold tmVal at HC
        clear ho hu
        generalize dpT u = du at *
        generalize dpL (l.take j) = dj at *
        generalize hdn : dpL (l.take (j + 1)) = dn at *
        have HTK := Lib.hid htk
        have HDN := Lib.hid hdn
        clear htk hdn
        by_cases hg : dj < du
        · have hg2 : (dj : Int) < (du : Int) := by omega
          go_wp2_with (go_at_call 52; refine HC.out.mono ?_; rintro e W1 ⟨rfl, h1⟩; have H2 := Lib.hid (HV.out.trans h1); clear h1)
          go_roundw
          case rel => exact ⟨j + 1, hlt, by go_num, by rw [HDN.out, HTK.out, Nat.max_eq_right (by omega)], H2⟩
          case measure => simp [intOf]; omega
        · have hg2 : ¬ (dj : Int) < (du : Int) := by omega
          go_wp2_with (go_at_call 52; refine HC.out.mono ?_; rintro e W1 ⟨rfl, h1⟩; have H2 := Lib.hid (HV.out.trans h1); clear h1)
          go_roundw
          case rel => exact ⟨j + 1, hlt, by go_num, by rw [HDN.out, HTK.out, Nat.max_eq_left (by omega)], H2⟩
          case measure => simp [intOf]; omega
      · obtain rfl : j = l.length := by omega
        rw [List.take_length]
        go_wp2_with fail
        go_ret
        exact ⟨ret_int (by omega), H1.out.trans HV.out⟩

set_option maxRecDepth 100000 in
set_option maxHeartbeats 4000000 in
theorem refSize_any : ∀ (N : Nat) (t : Tm), szT t ≤ N → szT t ≤ 1000000000 → ∀ (A : Option Addr) (c : Nat) (w : World) (D : Nat → Prop), TmIn D w t A c →
    Calls Tryz.prog 7 #[tmVal t A c] w fun e w' => e = .returned (.int .i64 (szT t)) ∧ Ext w w'
  | 0, t, h => by
    have := szT_pos t
    omega
  | N + 1, .mk k n s l, hN => by
    intro hbig A c w D ht
    have IH := refSize_any N
    simp only [szT] at hN hbig
    have hlen := len_szL l
    have H := Lib.hid ht
    have hx := ext_box w (.cells #[.int .i64 k, .int .i64 n, .string s, .slice A l.length c] 27)
    unfold tmVal
    simp only [Tm.k, Tm.n, Tm.s, Tm.l]
    have hsz : szT (.mk k n s l) = 1 + szL l := by simp only [szT]
    rw [hsz]
    have HB1 := Lib.hid (Blk.new w 27 #[.int .i64 k, .int .i64 n, .string s, .slice A l.length c])
    clear hsz ht
    go_enter Tryz.func7, Tryz.ntmps7
    go_upto_region 3 with fail
    refine wp_abs (fun V => Hid (Blk V w.heap.size 27 #[.int .i64 k, .int .i64 n, .string s, .slice A l.length c]) ∧ Hid (Ext w V)) ⟨HB1, hx⟩ ?_
    clear HB1 hx
    rintro V ⟨HB1, H1⟩
    go_loopw [3, 4] (fun d i wr => ∃ j : Nat, j ≤ l.length ∧ i = .int .i64 j ∧ d = .int .i64 (1 + (szL (l.take j) : Int)) ∧ Hid (Ext V wr)) (fun _ i _ => l.length - (intOf i).toNat)
    case atStart => exact ⟨0, Nat.zero_le _, rfl, by simp [szL], Lib.hid (Ext.refl _)⟩
    case round =>
      obtain ⟨j, hj, rfl, rfl, HV⟩ := hrel
      have z3 : wr.cell? ⟨w.heap.size, 3, none⟩ = some (.slice A l.length c) := (HB1.out.ext HV.out).cell 3
      by_cases hlt : j < l.length
      · have ho : l[j]? = some l[j] := List.getElem?_eq_getElem hlt
        have hsu := szL_get ho
        have htk := szL_take ho
        have hle := szL_take_le l (j + 1)
        generalize l[j] = u at *
        obtain ⟨ba, oa, A', c', rfl, _, hu, p0, p1, p2, p3⟩ := (H.out.ext (H1.out.trans HV.out)).child (j := j) ho
        have HC := Lib.hid (IH u (by omega) (by omega) A' c' wr D hu)
        unfold tmVal at HC
        clear ho hu
        generalize szT u = du at *
        generalize szL (l.take j) = dj at *
        generalize hdn : szL (l.take (j + 1)) = dn at *
        have HTK := Lib.hid htk
        have HDN := Lib.hid hdn
        have hb : (dj : Int) + (du : Int) ≤ 1000000000 := by omega
        clear htk hdn
        go_wp2_with (go_at_call 7; refine HC.out.mono ?_; rintro e W1 ⟨rfl, h1⟩; have H2 := Lib.hid (HV.out.trans h1); clear h1)
        go_roundw
        case rel => exact ⟨j + 1, hlt, by go_num, by rw [HDN.out, HTK.out]; go_num, H2⟩
        case measure => simp [intOf]; omega
      · obtain rfl : j = l.length := by omega
        rw [List.take_length]
        go_wp2_with fail
        go_ret
        exact ⟨ret_int (by omega), H1.out.trans HV.out⟩

set_option maxRecDepth 100000 in
theorem refCheck_any (t : Tm) (A : Option Addr) (c : Nat) (w : World) (D : Nat → Prop) (ht : TmIn D w t A c) (hsz : szT t ≤ 1000000000) :
    Calls Tryz.prog 29 #[tmVal t A c] w fun e w' => e = .returned (.int .i64 (chkT t)) ∧ Ext w w' := by
  have hx := ext_box w (.cells #[.int .i64 t.k, .int .i64 t.n, .string t.s, .slice A t.l.length c] 27)
  have HR := fun (W : World) (x : Ext w W) => Lib.hid (refRight_any (szT t) t (Nat.le_refl _) hsz A c W D (ht.ext x))
  have HD := fun (W : World) (x : Ext w W) => Lib.hid (refDepth_any (szT t) t (Nat.le_refl _) hsz A c W D (ht.ext x))
  have HS := fun (W : World) (x : Ext w W) => Lib.hid (refSize_any (szT t) t (Nat.le_refl _) hsz A c W D (ht.ext x))
  have HN := Lib.hid (show chkT t = (if okT t = false then 60 else if 200 < dpT t then 61 else if 4096 < szT t then 62 else 0) from rfl)
  have HK := fun (W : World) (x : Ext (w.alloc (.cells #[.int .i64 t.k, .int .i64 t.n, .string t.s, .slice A t.l.length c] 27)) W) => (show Hid (W.cell? ⟨w.heap.size, 0, none⟩ = some (.int .i64 t.k) ∧ W.cell? ⟨w.heap.size, 1, none⟩ = some (.int .i64 t.n) ∧ W.cell? ⟨w.heap.size, 2, none⟩ = some (.string t.s) ∧ W.cell? ⟨w.heap.size, 3, none⟩ = some (.slice A t.l.length c)) from Lib.hid ⟨new_cell x 0, new_cell x 1, new_cell x 2, new_cell x 3⟩)
  generalize chkT t = r at HN ⊢
  unfold tmVal at HR HD HS ⊢
  generalize t.k = k at *
  generalize t.n = n at *
  generalize t.s = s at *
  generalize t.l.length = m at *
  generalize okT t = ok at *
  generalize dpT t = d at *
  generalize szT t = z at *
  clear ht
  cases ok
  · rw [if_pos rfl] at HN
    go_enter Tryz.func29, Tryz.ntmps29
    go_wp2_with (go_at_call 51; refine (HR _ hx).out.mono ?_; rintro e W1 ⟨rfl, h1⟩; have H1 := Lib.hid (hx.trans h1); clear h1)
    go_ret
    exact ⟨ret_int HN.out.symm, H1.out⟩
  · rw [if_neg (by decide)] at HN
    by_cases h1 : 200 < d
    · rw [if_pos h1] at HN
      have q1 : (200 : Int) < (d : Int) := by omega
      go_enter Tryz.func29, Tryz.ntmps29
      go_wp2_with (first | (go_at_call 51; refine (HR _ hx).out.mono ?_; rintro e W1 ⟨rfl, h1⟩; have H1 := Lib.hid (hx.trans h1); obtain ⟨y0, y1, y2, y3⟩ := (HK _ h1).out; clear h1) | (go_at_call 52; refine (HD _ H1.out).out.mono ?_; rintro e W2 ⟨rfl, h1⟩; have H2 := Lib.hid (H1.out.trans h1); clear h1))
      go_ret
      exact ⟨ret_int HN.out.symm, H2.out⟩
    · rw [if_neg h1] at HN
      have q1 : ¬ (200 : Int) < (d : Int) := by omega
      by_cases h2 : 4096 < z
      case' pos =>
        rw [if_pos h2] at HN
        have q2 : (4096 : Int) < (z : Int) := by omega
      case' neg =>
        rw [if_neg h2] at HN
        have q2 : ¬ (4096 : Int) < (z : Int) := by omega
      all_goals
        go_enter Tryz.func29, Tryz.ntmps29
        go_wp2_with (first | (go_at_call 51; refine (HR _ hx).out.mono ?_; rintro e W1 ⟨rfl, h1⟩; have H1 := Lib.hid (hx.trans h1); have HY := Lib.hid h1; obtain ⟨y0, y1, y2, y3⟩ := (HK _ h1).out; clear h1) | (go_at_call 52; refine (HD _ H1.out).out.mono ?_; rintro e W2 ⟨rfl, h1⟩; have H2 := Lib.hid (H1.out.trans h1); clear y0 y1 y2 y3; obtain ⟨y0, y1, y2, y3⟩ := (HK _ (HY.out.trans h1)).out; clear h1) | (go_at_call 7; refine (HS _ H2.out).out.mono ?_; rintro e W3 ⟨rfl, h1⟩; have H3 := Lib.hid (H2.out.trans h1); clear h1))
        go_ret
        exact ⟨ret_int HN.out.symm, H3.out⟩

end Go.Proofs.YtnedihbffiddpaaGreatDoor

/- Layer 6, the reference: the walk of Items. -/
namespace Go.Proofs.YtnedihbffiddpaaGreatDoor
open Go.RowKit Go.El

/-- A row that a call gathers of terms that were there. -/
structure RowO (D : Nat → Prop) (w wr : World) (v : Value) (M : List TmP) : Prop where
  own : wr.ownsRow 0 27 4 v M.length (flat tmC M)
  far : ∀ k, v.ownBlock = some k → w.heap.size + 2 ≤ k
  kid : ∀ p ∈ M, TmIn D w p.1 p.2.1 p.2.2
  ext : Ext w wr
  low : w.heap.size + 2 ≤ wr.heap.size
theorem RowO.go {D : Nat → Prop} {w wr w' : World} {v : Value} {M : List TmP} (h : RowO D w wr v M) (x : Ext wr w') : RowO D w w' v M :=
  ⟨own_ext h.own x, h.far, h.kid, h.ext.trans x, Nat.le_trans h.low x.size⟩
theorem RowO.no {D : Nat → Prop} {w wr : World} {v : Value} {M : List TmP} (h : RowO D w wr v M) {g : Nat} (hg : g < w.heap.size + 2) : g ∉ ownL v := fun e => by
  have := h.far g (by simpa [ownL] using e)
  omega
theorem RowO.set_ {D : Nat → Prop} {w wr : World} {v : Value} {M : List TmP} (h : RowO D w wr v M) {g : Nat} (h0 : w.heap.size ≤ g) (hg : g < w.heap.size + 2) (i : Nat) (u : Value) : RowO D w (wr.setCell ⟨g, i, none⟩ u) v M :=
  ⟨ownsRow_setCell_other h.own (fun e => by have := h.far g e; omega) u, h.far, h.kid, h.ext.setCell (p := ⟨g, i, none⟩) h0 u, by simpa using h.low⟩
theorem RowO.step {D : Nat → Prop} {w wr V w' : World} {v v' : Value} {M : List TmP} {p : TmP} (h : RowO D w wr v M) (x : Ext wr V) (hp : TmIn D w p.1 p.2.1 p.2.2)
    (ho : w'.ownsRow 0 27 4 v' (M.length + 1) (flat tmC M ++ tmC p)) (hm : Mods (ownL v) V w') (hb : v'.ownBlock = v.ownBlock ∨ v'.ownBlock = some V.heap.size) : RowO D w w' v' (M ++ [p]) := by
  have hV := h.go x
  refine ⟨?_, fun k e => ?_, fun q hq => ?_, ext_mods hV.ext hm (fun k hk => ?_), Nat.le_trans hV.low hm.size⟩
  · rw [List.length_append, flat_append]
    simpa [flat] using ho
  · rcases hb with hb | hb
    · exact h.far k (hb.symm.trans e)
    · have e1 := hb.symm.trans e
      injection e1 with e1
      have := hV.low
      omega
  · rcases List.mem_append.1 hq with hq | hq
    · exact h.kid q hq
    · simp at hq
      subst hq
      exact hp
  · have := h.far k (by simpa [ownL] using hk)
    omega
theorem ls_ways (k : Int) (s : ByteArray) (m : Nat) (h : isLs k s m = false) : (k == 4) = false ∨ ((k == 4) = true ∧ (s.toList == [46]) = false) ∨ ((k == 4) = true ∧ (s.toList == [46]) = true ∧ ((m : Int) == 2) = false) := by
  have hd := of_decide_eq_false h
  by_cases hk : k = 4
  · have h1 : (k == 4) = true := by simpa using hk
    by_cases hs : s.data.toList = [46]
    · have h2 : (s.toList == [46]) = true := by rw [ByteArray.toList_eq]; simpa using hs
      refine .inr (.inr ⟨h1, h2, ?_⟩)
      simpa using (show ¬ (m : Int) = 2 from fun e => hd ⟨hk, hs, by omega⟩)
    · exact .inr (.inl ⟨h1, lit_ne hs⟩)
  · exact .inl (by simpa using hk)
theorem ls_yes (k : Int) (s : ByteArray) (m : Nat) (h : isLs k s m = true) : (k == 4) = true ∧ (s.toList == [46]) = true ∧ ((m : Int) == 2) = true := by
  obtain ⟨hk, hs, hm⟩ := of_decide_eq_true h
  exact ⟨by simpa using hk, by rw [ByteArray.toList_eq]; simpa using hs, by simpa using (show (m : Int) = 2 by omega)⟩

set_option maxRecDepth 100000 in
set_option maxHeartbeats 8000000 in
theorem refItems_any (t : Tm) (hsz : szT t ≤ 1000000000) (A : Option Addr) (c : Nat) (w : World) (D : Nat → Prop) (ht : TmIn D w t A c) :
    Calls Tryz.prog 81 #[tmVal t A c] w fun e w' => ∃ v M A' c', e = .returned (.tuple #[v, tmVal (tlT t) A' c']) ∧ RowO D w w' v M ∧ M.map (·.1) = itT t ∧ TmIn D w (tlT t) A' c' := by
  obtain ⟨i1, hi1, hz0, hz1, hz2⟩ := infoP tmInfo4
  have hlen := itT_len t
  have H0 := Lib.hid ht
  unfold tmVal
  clear ht
  go_enter Tryz.func81, Tryz.ntmps81
  go_upto_region 2 with fail
  refine wp_abs (fun V => Hid (Blk V (w.heap.size + 1) 27 #[.int .i64 0, .int .i64 0, .string ⟨#[]⟩, .slice none 0 0]) ∧ Hid (Blk V w.heap.size 27 #[.int .i64 t.k, .int .i64 t.n, .string t.s, .slice A t.l.length c]) ∧ Hid (Ext w V)) ⟨blk2b, (Blk.new w _ _).alloc _, ((Ext.refl w).alloc _).alloc _⟩ ?_
  rintro V ⟨HZ0, HX0, HE0⟩
  go_loopw [4] (fun sl wr => ∃ (M : List TmP) (u : Tm) (Au : Option Addr) (cu : Nat), Hid (RowO D w wr sl M) ∧ Hid (TmIn D w u Au cu) ∧ Hid (M.map (·.1) ++ itT u = itT t) ∧ Hid (tlT u = tlT t) ∧ Hid (Blk wr w.heap.size 27 #[.int .i64 u.k, .int .i64 u.n, .string u.s, .slice Au u.l.length cu]) ∧ Hid (Blk wr (w.heap.size + 1) 27 #[.int .i64 0, .int .i64 0, .string ⟨#[]⟩, .slice none 0 0])) (fun sl _ => szT t - slLen sl)
  case atStart => exact ⟨[], t, A, c, ⟨World.ownsRow_nil _ _ _ _, fun k hk => by simp [Value.ownBlock] at hk, fun p hp => by simp at hp, HE0.out, HZ0.out.lt⟩, H0, rfl, rfl, HX0, HZ0⟩
  case round =>
    obtain ⟨M, u, Au, cu, HR, HU, HI, HT, HB, HZ⟩ := hrel
    have b0 : wr.cell? ⟨w.heap.size, 0, none⟩ = some (.int .i64 u.k) := HB.out.cell 0
    have b1 : wr.cell? ⟨w.heap.size, 1, none⟩ = some (.int .i64 u.n) := HB.out.cell 1
    have b2 : wr.cell? ⟨w.heap.size, 2, none⟩ = some (.string u.s) := HB.out.cell 2
    have b3 : wr.cell? ⟨w.heap.size, 3, none⟩ = some (.slice Au u.l.length cu) := HB.out.cell 3
    cases hls : isLs u.k u.s u.l.length
    · have hw := ls_ways u.k u.s u.l.length hls
      obtain ⟨hi, htl⟩ := ls_none hls
      have h0 := HI.out
      rw [hi, List.append_nil] at h0
      have h1 := HT.out
      rw [htl] at h1
      have HI0 := Lib.hid h0
      have HT1 := Lib.hid h1
      have z0 : wr.cell? ⟨w.heap.size + 1, 0, none⟩ = some (.int .i64 0) := HZ.out.cell 0
      have z1 : wr.cell? ⟨w.heap.size + 1, 1, none⟩ = some (.int .i64 0) := HZ.out.cell 1
      have z2 : wr.cell? ⟨w.heap.size + 1, 2, none⟩ = some (.string ⟨#[]⟩) := HZ.out.cell 2
      have z3 : wr.cell? ⟨w.heap.size + 1, 3, none⟩ = some (.slice none 0 0) := HZ.out.cell 3
      have g0 := HZ.out.frozen 0
      have g1 := HZ.out.frozen 1
      have g2 := HZ.out.frozen 2
      have g3 := HZ.out.frozen 3
      have HRd := Lib.hid (((((HR.out.set_ (g := w.heap.size + 1) (by omega) (by omega) 0 (.int .i64 u.k)).set_ (g := w.heap.size + 1) (by omega) (by omega) 1 (.int .i64 u.n)).set_ (g := w.heap.size + 1) (by omega) (by omega) 2 (.string u.s)).set_ (g := w.heap.size + 1) (by omega) (by omega) 3 (.slice Au u.l.length cu)).go ((Ext.refl _).drew))
      have hbf := Lib.hid (((((HZ.out.set_ 0 (.int .i64 u.k)).set_ 1 (.int .i64 u.n)).set_ 2 (.string u.s)).set_ 3 (.slice Au u.l.length cu)).ext ((Ext.refl _).drew))
      clear h0 h1 HB HZ HR HI HT hls hi htl
      rcases hw with q1 | ⟨q1, q2⟩ | ⟨q1, q2, q3⟩
      all_goals
        go_upto_region 5 with fail
        go_region
        all_goals
          go_wp2_with fail
          generalize ((((wr.setCell ⟨w.heap.size + 1, 0, none⟩ (.int .i64 u.k)).setCell ⟨w.heap.size + 1, 1, none⟩ (.int .i64 u.n)).setCell ⟨w.heap.size + 1, 2, none⟩ (.string u.s)).setCell ⟨w.heap.size + 1, 3, none⟩ (.slice Au u.l.length cu)).drew = VF at HRd hbf ⊢
          have r0 : VF.cell? ⟨w.heap.size + 1, 0, none⟩ = some (.int .i64 u.k) := hbf.out.cell 0
          have r1 : VF.cell? ⟨w.heap.size + 1, 1, none⟩ = some (.int .i64 u.n) := hbf.out.cell 1
          have r2 : VF.cell? ⟨w.heap.size + 1, 2, none⟩ = some (.string u.s) := hbf.out.cell 2
          have r3 : VF.cell? ⟨w.heap.size + 1, 3, none⟩ = some (.slice Au u.l.length cu) := hbf.out.cell 3
          refine bodyPost_ret (v := .tuple #[u4, tmVal u Au cu]) (by simp [results, Tryz.results81, go_sem, r0, r1, r2, r3, tmVal]) rfl ⟨u4, M, Au, cu, ?_, HRd.out, HI0.out, ?_⟩
          · rw [← HT1.out]
            rfl
          · rw [← HT1.out]
            exact HU.out
    · obtain ⟨q1, q2, q3⟩ := ls_yes u.k u.s u.l.length hls
      obtain ⟨a, b, hul, hia, hta⟩ := ls_split hls
      obtain ⟨bb, off, Aa, ca, hAu, hbD, ta, p0, p1, p2, p3⟩ := HU.out.child (j := 0) (u := a) (by rw [hul]; rfl)
      obtain ⟨bb', off', Ab, cb, hAu', _, tb, r0, r1, r2, r3⟩ := HU.out.child (j := 1) (u := b) (by rw [hul]; rfl)
      rw [hAu] at hAu'
      injection hAu' with hAu'
      injection hAu' with e1 e2
      subst e1 e2
      subst hAu
      have hbw : bb < w.heap.size := cell_lt p0
      rw [Nat.zero_mul, Nat.add_zero] at p0 p1 p2 p3
      rw [Nat.one_mul] at r0 r1 r2 r3
      have hIn := Lib.hid (show ∀ q : TmP, q.1 = a → (M ++ [q]).map (·.1) ++ itT b = itT t from fun q hq => by rw [← HI.out, hia, List.map_append, ← hq]; simp)
      have hTn := Lib.hid (show tlT b = tlT t from by rw [← HT.out, hta])
      have hMl : M.length + 1 ≤ (itT t).length := by rw [← HI.out, hia]; simp
      obtain ⟨Av, cv, rfl⟩ := own_value HR.out.own
      have HTA := Lib.hid ta
      have HTB := Lib.hid tb
      have x0 := HR.out.ext.cell p0
      have x1 := HR.out.ext.cell p1
      have x2 := HR.out.ext.cell p2
      have x3 := HR.out.ext.cell p3
      have hbn : bb ∉ ownL (.slice Av M.length cv) := HR.out.no (by omega)
      have hul2 : u.l.length = 2 := by rw [hul]; rfl
      have s0 := HR.out.ext.cell r0
      have s1 := HR.out.ext.cell r1
      have s2 := HR.out.ext.cell r2
      have s3 := HR.out.ext.cell r3
      rw [hul2] at b3 HB q3
      clear ta tb hul hia hta HI HT hls p0 p1 p2 p3 r0 r1 r2 r3 hul2
      go_wp2_with (at_builtin; refine wpList_append_src (P := Tryz.prog) rfl _ _ 23 rfl 27 i1 _ 4 56 Tryz.underlying23 hi1 hz0 hz1 hz2 rfl (by omega) (.slice Av M.length cv) rfl _ _ _ rfl M.length (flat tmC M) (own_ext HR.out.own ((Ext.refl wr).alloc _)) (tmC (a, Aa, ca)) (El.Src.new _ #[.int .i64 a.k, .int .i64 a.n, .string a.s, .slice Aa a.l.length ca] _ 1 4 rfl) (tmC_one _) (by unfold maxLen; omega) (by omega) ?_; intro v3 w3 ho3 hm3 hb3; obtain ⟨A3, c3, rfl⟩ := own_value ho3; have hR3 := RowO.step (p := (a, Aa, ca)) HR.out ((Ext.refl wr).alloc _) HTA.out ho3 hm3 hb3; have hB3 := (HB.out.alloc _).mods hm3 (HR.out.no (by omega)); have hZ3 := (HZ.out.alloc _).mods hm3 (HR.out.no (by omega)); have hq0 := hm3.cell ((ext_box wr _).cell s0) hbn; have hq1 := hm3.cell ((ext_box wr _).cell s1) hbn; have hq2 := hm3.cell ((ext_box wr _).cell s2) hbn; have hq3 := hm3.cell ((ext_box wr _).cell s3) hbn; have e0 : w3.cell? ⟨w.heap.size, 0, none⟩ = some (.int .i64 u.k) := hB3.cell 0; have e1 : w3.cell? ⟨w.heap.size, 1, none⟩ = some (.int .i64 u.n) := hB3.cell 1; have e2 : w3.cell? ⟨w.heap.size, 2, none⟩ = some (.string u.s) := hB3.cell 2; have e3 : w3.cell? ⟨w.heap.size, 3, none⟩ = some (.slice (some ⟨bb, off, none⟩) 2 cu) := hB3.cell 3; have f0 := hB3.frozen 0; have f1 := hB3.frozen 1; have f2 := hB3.frozen 2; have f3 := hB3.frozen 3; have HR3 := Lib.hid hR3; have HB3 := Lib.hid hB3; have HZ3 := Lib.hid hZ3; clear hR3 hB3 hZ3 ho3 hm3 hb3)
      go_roundw
      case rel =>
        exact ⟨M ++ [(a, Aa, ca)], b, Ab, cb, (((HR3.out.set_ (g := w.heap.size) (Nat.le_refl _) (by omega) 0 _).set_ (g := w.heap.size) (Nat.le_refl _) (by omega) 1 _).set_ (g := w.heap.size) (Nat.le_refl _) (by omega) 2 _).set_ (g := w.heap.size) (Nat.le_refl _) (by omega) 3 _, HTB, hIn.out _ rfl, hTn.out, (((HB3.out.set_ 0 _).set_ 1 _).set_ 2 _).set_ 3 _, (((HZ3.out.far (p := ⟨w.heap.size, 0, none⟩) (by simp) _).far (p := ⟨w.heap.size, 1, none⟩) (by simp) _).far (p := ⟨w.heap.size, 2, none⟩) (by simp) _).far (p := ⟨w.heap.size, 3, none⟩) (by simp) _⟩
      case measure => simp [slLen]; omega

end Go.Proofs.YtnedihbffiddpaaGreatDoor

/- Taken out of other seats' texts by extract.py: rQuote_any. -/
namespace Go.Proofs.YtnedihbffiddpaaGreatDoor
open Go.RowKit Go.El
theorem hexL_lenR (c : UInt8) : (hexL c).length ≤ 2 := by
  unfold hexL
  split <;> simp
theorem sgnF_lenR (c : UInt8) : (sgnF c).length ≤ 5 := by
  have h1 := hexL_lenR c
  unfold sgnF
  split
  · simp only [List.length_append, List.length_cons, List.length_nil]; omega
  · unfold El.sgnS
    split
    · decide
    · split
      · decide
      · split <;> simp
theorem sgnW_lenR : ∀ l : List UInt8, (sgnW l).length ≤ 5 * l.length
  | [] => Nat.le_refl _
  | c :: l => by
    have := sgnW_lenR l
    have := sgnF_lenR c
    simp only [sgnW, List.flatMap_cons, List.length_append, List.length_cons] at *
    omega
theorem sgnW_stepR (l : List UInt8) (k : Nat) (c : UInt8) (h : l[k]? = some c) : sgnW (l.take (k + 1)) = sgnW (l.take k) ++ sgnF c := by
  rw [List.take_add_one, h]
  simp [sgnW]
theorem dig16 (m : Nat) (hm : m < 16) (h : m < (⟨#[48, 49, 50, 51, 52, 53, 54, 55, 56, 57, 97, 98, 99, 100, 101, 102]⟩ : ByteArray).size) : (⟨#[48, 49, 50, 51, 52, 53, 54, 55, 56, 57, 97, 98, 99, 100, 101, 102]⟩ : ByteArray)[m]'h = hexD m := by
  have key : ∀ i : Fin 16, ((#[48, 49, 50, 51, 52, 53, 54, 55, 56, 57, 97, 98, 99, 100, 101, 102] : Array UInt8)[i.val]'i.isLt) = hexD i.val := by decide +kernel
  exact key ⟨m, hm⟩
theorem sgnF_ctl {c : UInt8} (h : El.isCtl c = true) : sgnF c = [92, 120] ++ hexL c ++ [92] := by unfold sgnF; rw [if_pos h]
theorem sgnF_no {c : UInt8} (h : El.isCtl c = false) : sgnF c = El.sgnS c := by unfold sgnF; rw [h]; rfl
theorem ctl_hi {c : UInt8} (h : (16 ≤ c.toNat ∧ c.toNat < 32) ∨ c = 127) : El.isCtl c = true ∧ hexL c = [hexD (c.toNat / 16), hexD (c.toNat % 16)] ∧ c ≠ 39 ∧ c ≠ 92 ∧ c ≠ 10 ∧ c ≠ 9 := by
  have := all_bytes (p := fun c => (!((decide (16 ≤ c.toNat) && decide (c.toNat < 32)) || c == 127) || (El.isCtl c && hexL c == [hexD (c.toNat / 16), hexD (c.toNat % 16)] && c != 39 && c != 92 && c != 10 && c != 9)) = true) (by decide +kernel) c
  have hb : ((decide (16 ≤ c.toNat) && decide (c.toNat < 32)) || c == 127) = true := by simpa using h
  rw [hb] at this
  simpa [and_assoc] using this
theorem ctl_lo {c : UInt8} (h : c.toNat < 16) (h10 : c ≠ 10) (h9 : c ≠ 9) : El.isCtl c = true ∧ hexL c = [hexD c.toNat] ∧ c ≠ 39 ∧ c ≠ 92 := by
  have := all_bytes (p := fun c => (!(decide (c.toNat < 16) && c != 10 && c != 9) || (El.isCtl c && hexL c == [hexD c.toNat] && c != 39 && c != 92)) = true) (by decide +kernel) c
  have hb : (decide (c.toNat < 16) && c != 10 && c != 9) = true := by simp [h, h10, h9]
  rw [hb] at this
  simpa [and_assoc] using this
theorem ctl_no {c : UInt8} (h : ¬ c.toNat < 16) (h2 : ¬ ((16 ≤ c.toNat ∧ c.toNat < 32) ∨ c = 127)) : El.isCtl c = false := by
  have := all_bytes (p := fun c => (decide (c.toNat < 16) || (decide (16 ≤ c.toNat) && decide (c.toNat < 32)) || c == 127 || !El.isCtl c) = true) (by decide +kernel) c
  have hb : ((decide (16 ≤ c.toNat) && decide (c.toNat < 32)) || c == 127) = false := by
    rw [Bool.eq_false_iff]
    intro e
    exact h2 (by simpa using e)
  have ha : decide (c.toNat < 16) = false := by simp [h]
  rw [ha, Bool.false_or, hb] at this
  simpa using this
theorem GathB.one (X : World) (c : UInt8) : GathB X (X.alloc (.cells #[.int .u8 (c.toNat : Int)] 5)) (.slice (some ⟨X.heap.size, 0, none⟩) 1 1) [c] := by
  refine ⟨World.ownsRow_lit X #[.int .u8 (c.toNat : Int)] 1 (Nat.zero_le _) (by unfold maxLen; omega) rfl, fun b hb => ?_, (Ext.refl X).alloc _⟩
  have e1 : X.heap.size = b := by simpa [Value.ownBlock] using hb
  omega
set_option maxRecDepth 100000 in
set_option maxHeartbeats 8000000 in
theorem rQuote_any (l : List UInt8) (w : World) (hl : l.length ≤ 1000) :
    Calls Tryz.prog 59 #[.string (strB l)] w fun e w' => e = .returned (.string (strB (quoF l))) ∧ Ext w w' := by
  obtain ⟨i1, hi1, hz0, hz1, hz2⟩ := infoP u8Info
  have hsz := strB_size l
  have hpl : plainB (strB l) = plainL l := by unfold plainB; rw [strB_toList]
  have hP := rPlain_any (strB l) w (by omega)
  rw [hpl] at hP
  cases hp : plainL l
  · rw [hp] at hP
    have HN := Lib.hid (show quoF l = [39] ++ sgnW l ++ [39] from by unfold quoF; rw [hp]; rfl)
    have hidx : ∀ (k : Nat) (h : k < (strB l).size) (c : UInt8), l[k]? = some c → (strB l)[k]'h = c := fun k h c hk => by
      obtain ⟨h1, h2⟩ := List.getElem?_eq_some_iff.1 hk
      rw [← h2]
      show (l.toArray)[k] = _
      simp
    generalize hgs : strB l = s at *
    have HI := Lib.hid hidx
    have HP := Lib.hid hP
    clear hidx hP hgs hp hpl
    go_enter Tryz.func59, Tryz.ntmps59
    go_upto_region 3 with (go_at_call 65; refine HP.out.mono ?_; rintro e w1 ⟨rfl, rfl⟩)
    have HG0 := Lib.hid (GathB.one w 39)
    go_wp2_with fail
    go_loopw [3, 4] (fun v i wr => ∃ k : Nat, k ≤ l.length ∧ i = .int .i64 k ∧ Hid (GathB w wr v ([39] ++ sgnW (l.take k)))) (fun _ i _ => l.length - (intOf i).toNat)
    case atStart => exact ⟨0, Nat.zero_le _, rfl, HG0.out⟩
    case round =>
      obtain ⟨k, hk, rfl, HG⟩ := hrel
      have hs3 := sgnW_lenR (l.take k)
      have hs4 : (l.take k).length ≤ 1000 := by rw [List.length_take]; omega
      have hs6 : ([39] ++ sgnW (l.take k)).length ≤ 5001 := by simp; omega
      by_cases hlt : k < l.length
      · have ho : l[k]? = some l[k] := List.getElem?_eq_getElem hlt
        generalize l[k] = c at ho
        have hks : k < s.size := by omega
        have hc := HI.out k hks c ho
        have HST := Lib.hid (sgnW_stepR l k c ho)
        clear ho hs3 hs4
        generalize hF : [39] ++ sgnW (l.take k) = F at *
        have HF := Lib.hid hF
        clear hF
        have hcl := c.toNat_lt
        obtain ⟨A1, c1, rfl, hb1⟩ := HG.out.slice
        clear hb1
        by_cases h39 : c = 39
        · subst h39
          have HSG := Lib.hid (show sgnF 39 = [92, 39] from rfl)
          go_wp2_with (at_builtin; refine wpList_append_src (P := Tryz.prog) rfl _ _ 51 rfl 5 i1 _ 1 1 Tryz.underlying51 hi1 hz0 hz1 hz2 rfl (by omega) _ rfl _ _ _ rfl F.length (F.map u8V) (own_ext HG.out.own ((Ext.refl wr).alloc _)) [.int .u8 92, .int .u8 39] (El.Src.new _ #[.int .u8 92, .int .u8 39] _ 2 1 rfl) (u8_one [92, 39]) (by unfold maxLen; omega) (by omega) ?_; intro v3 w3 ho3 hm3 hb3; have hG3 := Lib.hid (GathB.step (G := [92, 39]) HG.out ((Ext.refl wr).alloc _) ho3 hm3 hb3); clear ho3 hm3 hb3)
          go_roundw
          case rel =>
            refine ⟨k + 1, hlt, by go_num, ?_⟩
            rw [HST.out, ← List.append_assoc, HF.out, HSG.out]
            exact hG3
          case measure => simp [intOf]; omega
        by_cases h92 : c = 92
        · subst h92
          have HSG := Lib.hid (show sgnF 92 = [92, 92] from rfl)
          go_wp2_with (at_builtin; refine wpList_append_src (P := Tryz.prog) rfl _ _ 51 rfl 5 i1 _ 1 1 Tryz.underlying51 hi1 hz0 hz1 hz2 rfl (by omega) _ rfl _ _ _ rfl F.length (F.map u8V) (own_ext HG.out.own ((Ext.refl wr).alloc _)) [.int .u8 92, .int .u8 92] (El.Src.new _ #[.int .u8 92, .int .u8 92] _ 2 1 rfl) (u8_one [92, 92]) (by unfold maxLen; omega) (by omega) ?_; intro v3 w3 ho3 hm3 hb3; have hG3 := Lib.hid (GathB.step (G := [92, 92]) HG.out ((Ext.refl wr).alloc _) ho3 hm3 hb3); clear ho3 hm3 hb3)
          go_roundw
          case rel =>
            refine ⟨k + 1, hlt, by go_num, ?_⟩
            rw [HST.out, ← List.append_assoc, HF.out, HSG.out]
            exact hG3
          case measure => simp [intOf]; omega
        have q39 := u8_ne' (c := c) (n := 39) (z := 39) rfl (by omega) h39
        have q92 := u8_ne' (c := c) (n := 92) (z := 92) rfl (by omega) h92
        by_cases h10 : c = 10
        · subst h10
          have HSG := Lib.hid (show sgnF 10 = [92, 110] from rfl)
          go_wp2_with (at_builtin; refine wpList_append_src (P := Tryz.prog) rfl _ _ 51 rfl 5 i1 _ 1 1 Tryz.underlying51 hi1 hz0 hz1 hz2 rfl (by omega) _ rfl _ _ _ rfl F.length (F.map u8V) (own_ext HG.out.own ((Ext.refl wr).alloc _)) [.int .u8 92, .int .u8 110] (El.Src.new _ #[.int .u8 92, .int .u8 110] _ 2 1 rfl) (u8_one [92, 110]) (by unfold maxLen; omega) (by omega) ?_; intro v3 w3 ho3 hm3 hb3; have hG3 := Lib.hid (GathB.step (G := [92, 110]) HG.out ((Ext.refl wr).alloc _) ho3 hm3 hb3); clear ho3 hm3 hb3)
          go_roundw
          case rel =>
            refine ⟨k + 1, hlt, by go_num, ?_⟩
            rw [HST.out, ← List.append_assoc, HF.out, HSG.out]
            exact hG3
          case measure => simp [intOf]; omega
        by_cases h9 : c = 9
        · subst h9
          have HSG := Lib.hid (show sgnF 9 = [92, 116] from rfl)
          go_wp2_with (at_builtin; refine wpList_append_src (P := Tryz.prog) rfl _ _ 51 rfl 5 i1 _ 1 1 Tryz.underlying51 hi1 hz0 hz1 hz2 rfl (by omega) _ rfl _ _ _ rfl F.length (F.map u8V) (own_ext HG.out.own ((Ext.refl wr).alloc _)) [.int .u8 92, .int .u8 116] (El.Src.new _ #[.int .u8 92, .int .u8 116] _ 2 1 rfl) (u8_one [92, 116]) (by unfold maxLen; omega) (by omega) ?_; intro v3 w3 ho3 hm3 hb3; have hG3 := Lib.hid (GathB.step (G := [92, 116]) HG.out ((Ext.refl wr).alloc _) ho3 hm3 hb3); clear ho3 hm3 hb3)
          go_roundw
          case rel =>
            refine ⟨k + 1, hlt, by go_num, ?_⟩
            rw [HST.out, ← List.append_assoc, HF.out, HSG.out]
            exact hG3
          case measure => simp [intOf]; omega
        have q10 := u8_ne' (c := c) (n := 10) (z := 10) rfl (by omega) h10
        have q9 := u8_ne' (c := c) (n := 9) (z := 9) rfl (by omega) h9
        by_cases hhi : (16 ≤ c.toNat ∧ c.toNat < 32) ∨ c = 127
        · obtain ⟨e1, e2, _⟩ := ctl_hi hhi
          have HSG := Lib.hid (show sgnF c = [92, 120, hexD (c.toNat / 16), hexD (c.toNat % 16), 92] from by rw [sgnF_ctl e1, e2]; rfl)
          have d1 := dig16 (c.toNat / 16) (by omega)
          have w16 : IntKind.u8.wrap ((c.toNat : Int) / 16) = (c.toNat : Int) / 16 := IntWalk.u8_in _ (by omega)
          have b0 : 0 ≤ (c.toNat : Int) / 16 := by omega
          have b16 : (c.toNat : Int) / 16 < 16 := by omega
          have t16 : ((c.toNat : Int) / 16).toNat = c.toNat / 16 := by omega
          have tm0 : ((c.toNat : Int)).tmod 16 = (c.toNat : Int) % 16 := Int.tmod_eq_emod_of_nonneg (by omega)
          have b1 : 0 ≤ (c.toNat : Int) % 16 := by omega
          have bm : (c.toNat : Int) % 16 < 16 := by omega
          have tm : ((c.toNat : Int) % 16).toNat = c.toNat % 16 := by omega
          have d2 := dig16 (c.toNat % 16) (by omega)
          have hd : (16 ≤ (c.toNat : Int) ∧ (c.toNat : Int) < 32) ∨ (¬ ((c.toNat : Int) < 32) ∧ ((c.toNat : Int) == (127 : Int)) = true) := by
            rcases hhi with h | rfl
            · exact .inl (by omega)
            · exact .inr ⟨by decide, rfl⟩
          clear hhi e1 e2 h39 h92 h10 h9
          rcases hd with ⟨g1, g2⟩ | ⟨g1, g2⟩
          · go_upto_region 16 with fail
            go_region_law ((refine step_append_src (P := Tryz.prog) rfl _ _ 51 rfl 5 i1 _ 1 1 Tryz.underlying51 hi1 hz0 hz1 hz2 rfl (by omega) _ rfl _ _ _ rfl F.length (F.map u8V) (own_ext HG.out.own ((Ext.refl wr).drew.alloc _)) [.int .u8 92, .int .u8 120, .int .u8 ((hexD (c.toNat / 16)).toNat : Int), .int .u8 ((hexD (c.toNat % 16)).toNat : Int), .int .u8 92] (El.Src.new _ #[.int .u8 92, .int .u8 120, .int .u8 ((hexD (c.toNat / 16)).toNat : Int), .int .u8 ((hexD (c.toNat % 16)).toNat : Int), .int .u8 92] _ 5 1 rfl) (u8_one [92, 120, hexD (c.toNat / 16), hexD (c.toNat % 16), 92]) (by unfold maxLen; omega) (by omega) ?_; intro v3 w3 ho3 hm3 hb3; have hG3 := Lib.hid (GathB.step (G := [92, 120, hexD (c.toNat / 16), hexD (c.toNat % 16), 92]) HG.out ((Ext.refl wr).drew.alloc _) ho3 hm3 hb3); clear ho3 hm3 hb3))
            all_goals
              go_wp2_with fail
              go_roundw
              case rel =>
                refine ⟨k + 1, hlt, by go_num, ?_⟩
                rw [HST.out, ← List.append_assoc, HF.out, HSG.out]
                exact hG3
              case measure => simp [intOf]; omega
          · go_upto_region 16 with fail
            go_region_law ((refine step_append_src (P := Tryz.prog) rfl _ _ 51 rfl 5 i1 _ 1 1 Tryz.underlying51 hi1 hz0 hz1 hz2 rfl (by omega) _ rfl _ _ _ rfl F.length (F.map u8V) (own_ext HG.out.own ((Ext.refl wr).drew.alloc _)) [.int .u8 92, .int .u8 120, .int .u8 ((hexD (c.toNat / 16)).toNat : Int), .int .u8 ((hexD (c.toNat % 16)).toNat : Int), .int .u8 92] (El.Src.new _ #[.int .u8 92, .int .u8 120, .int .u8 ((hexD (c.toNat / 16)).toNat : Int), .int .u8 ((hexD (c.toNat % 16)).toNat : Int), .int .u8 92] _ 5 1 rfl) (u8_one [92, 120, hexD (c.toNat / 16), hexD (c.toNat % 16), 92]) (by unfold maxLen; omega) (by omega) ?_; intro v3 w3 ho3 hm3 hb3; have hG3 := Lib.hid (GathB.step (G := [92, 120, hexD (c.toNat / 16), hexD (c.toNat % 16), 92]) HG.out ((Ext.refl wr).drew.alloc _) ho3 hm3 hb3); clear ho3 hm3 hb3))
            all_goals
              go_wp2_with fail
              go_roundw
              case rel =>
                refine ⟨k + 1, hlt, by go_num, ?_⟩
                rw [HST.out, ← List.append_assoc, HF.out, HSG.out]
                exact hG3
              case measure => simp [intOf]; omega
        have q127 := u8_ne' (c := c) (n := 127) (z := 127) rfl (by omega) (fun e => hhi (.inr e))
        by_cases hlo : c.toNat < 16
        · obtain ⟨e1, e2, _⟩ := ctl_lo hlo h10 h9
          have HSG := Lib.hid (show sgnF c = [92, 120, hexD c.toNat, 92] from by rw [sgnF_ctl e1, e2]; rfl)
          have d1 := dig16 c.toNat hlo
          clear hhi e1 e2 h39 h92 h10 h9
          go_wp2_with (at_builtin; refine wpList_append_src (P := Tryz.prog) rfl _ _ 51 rfl 5 i1 _ 1 1 Tryz.underlying51 hi1 hz0 hz1 hz2 rfl (by omega) _ rfl _ _ _ rfl F.length (F.map u8V) (own_ext HG.out.own ((Ext.refl wr).alloc _)) [.int .u8 92, .int .u8 120, .int .u8 ((hexD c.toNat).toNat : Int), .int .u8 92] (El.Src.new _ #[.int .u8 92, .int .u8 120, .int .u8 ((hexD c.toNat).toNat : Int), .int .u8 92] _ 4 1 rfl) (u8_one [92, 120, hexD c.toNat, 92]) (by unfold maxLen; omega) (by omega) ?_; intro v3 w3 ho3 hm3 hb3; have hG3 := Lib.hid (GathB.step (G := [92, 120, hexD c.toNat, 92]) HG.out ((Ext.refl wr).alloc _) ho3 hm3 hb3); clear ho3 hm3 hb3)
          go_roundw
          case rel =>
            refine ⟨k + 1, hlt, by go_num, ?_⟩
            rw [HST.out, ← List.append_assoc, HF.out, HSG.out]
            exact hG3
          case measure => simp [intOf]; omega
        have e1 := ctl_no hlo hhi
        have HSG := Lib.hid (show sgnF c = [c] from by rw [sgnF_no e1]; unfold El.sgnS; rw [if_neg h10, if_neg h9, if_neg (fun h => h.elim h39 h92)])
        have g1 : ¬ (c.toNat : Int) < 16 := by omega
        have g2 : ¬ (c.toNat : Int) < 32 := by
          intro h
          exact hhi (.inl ⟨by omega, by omega⟩)
        clear hhi hlo e1 h39 h92 h10 h9
        go_wp2_with (at_builtin; refine wpList_append_src (P := Tryz.prog) rfl _ _ 51 rfl 5 i1 _ 1 1 Tryz.underlying51 hi1 hz0 hz1 hz2 rfl (by omega) _ rfl _ _ _ rfl F.length (F.map u8V) (own_ext HG.out.own ((Ext.refl wr).alloc _)) [.int .u8 ((c).toNat : Int)] (El.Src.new _ #[.int .u8 ((c).toNat : Int)] _ 1 1 rfl) (u8_one [c]) (by unfold maxLen; omega) (by omega) ?_; intro v3 w3 ho3 hm3 hb3; have hG3 := Lib.hid (GathB.step (G := [c]) HG.out ((Ext.refl wr).alloc _) ho3 hm3 hb3); clear ho3 hm3 hb3)
        go_roundw
        case rel =>
          refine ⟨k + 1, hlt, by go_num, ?_⟩
          rw [HST.out, ← List.append_assoc, HF.out, HSG.out]
          exact hG3
        case measure => simp [intOf]; omega
      · obtain rfl : k = l.length := by omega
        rw [List.take_length] at HG hs6
        clear hs3 hs4
        generalize hF : [39] ++ sgnW l = F at *
        have HF := Lib.hid hF
        clear hF
        obtain ⟨A1, c1, rfl, hb1⟩ := HG.out.slice
        clear hb1
        go_wp2_with (at_builtin; refine wpList_append_src (P := Tryz.prog) rfl _ _ 51 rfl 5 i1 _ 1 1 Tryz.underlying51 hi1 hz0 hz1 hz2 rfl (by omega) _ rfl _ _ _ rfl F.length (F.map u8V) (own_ext HG.out.own ((Ext.refl wr).alloc _)) [.int .u8 39] (El.Src.new _ #[.int .u8 39] _ 1 1 rfl) (u8_one [39]) (by unfold maxLen; omega) (by omega) ?_; intro v3 w3 ho3 hm3 hb3; have hG3 := Lib.hid (GathB.step (G := [39]) HG.out ((Ext.refl wr).alloc _) ho3 hm3 hb3); clear ho3 hm3 hb3; obtain ⟨A3, c3, rfl, hb3⟩ := hG3.out.slice; have hr : quoF l = F ++ [39] := (by rw [HN.out]); have hx := hG3.out.ext; generalize hF2 : F ++ [39] = F2 at *; have hcv := conv_str c3 hb3; have HR := Lib.hid hr; clear hb3 hF2 hr HN)
        go_ret
        exact ⟨by rw [HR.out]; rfl, hx⟩
  · rw [hp] at hP
    have HN := Lib.hid (show quoF l = l from by unfold quoF; rw [hp]; rfl)
    generalize hgs : strB l = s at *
    have HGS := Lib.hid hgs
    have HP := Lib.hid hP
    clear hP hgs hp hpl
    go_enter Tryz.func59, Tryz.ntmps59
    go_wp2_with (go_at_call 65; refine HP.out.mono ?_; rintro e w1 ⟨rfl, rfl⟩)
    go_ret
    exact ⟨by rw [HN.out, HGS.out]; rfl, Ext.refl _⟩
end Go.Proofs.YtnedihbffiddpaaGreatDoor
