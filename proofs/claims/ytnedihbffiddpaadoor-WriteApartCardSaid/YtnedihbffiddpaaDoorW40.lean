/- WriteApart: its walk. -/
import Derived.Test.YtnedihbffiddpaaDoorW36
import Derived.Test.YtnedihbffiddpaaDoorW38
namespace Go.Proofs.YtnedihbffiddpaaDoor
open Go.RowKit Go.El

theorem wrtE_ok {t : Tm} (h : wrtE none t [] = 0) : okT t = true ∧ wrtS none t [] = strB (txT none t 1200) := by
  unfold wrtE at h
  by_cases hc : chkT t = 0
  · rw [if_pos hc] at h
    unfold txtE at h
    split at h
    · cases h
    · rename_i hl
      refine ⟨(mayT_iff.1 (show mayT t = true by unfold mayT; simp [hc])).1, ?_⟩
      unfold wrtS
      rw [if_pos hc]
      unfold txtS
      rw [if_neg hl, List.append_nil]
  · rw [if_neg hc] at h
    exact absurd h hc
/-- P11.1: two terms have one canonical text just if they are the same. -/
theorem wrt_apart {a b : Tm} (ha : wrtE none a [] = 0) (hb : wrtE none b [] = 0) : ((wrtS none a []).toList == (wrtS none b []).toList) = exT a b := by
  obtain ⟨h1, h2⟩ := wrtE_ok ha
  obtain ⟨h3, h4⟩ := wrtE_ok hb
  rw [h2, h4, ByteArray.toList_eq, ByteArray.toList_eq, strB_toList, strB_toList]
  exact apart rfl h1 h3

set_option maxRecDepth 100000 in
set_option maxHeartbeats 8000000 in
theorem writeApart_any (a b : Tm) (A B : Option Addr) (c d : Nat) (w : World) (D E : Nat → Prop) (ha : TmIn D w a A c) (hb : TmIn E w b B d) (hfa : fitT a = true) (hfb : fitT b = true) (he : Env w) :
    Calls Tryd.prog 3 #[tmVal a A c, tmVal b B d] w fun e w' => e = .returned (.bool true) ∧ Ext w w' := by
  have HA := Lib.hid ha
  have HB := Lib.hid hb
  have HFA := Lib.hid hfa
  have HFB := Lib.hid hfb
  have HE := Lib.hid he
  clear ha hb hfa hfb he
  have x0 : Ext w ((w.alloc (.cells #[.int .i64 a.k, .int .i64 a.n, .string a.s, .slice A a.l.length c] 24)).alloc (.cells #[.int .i64 b.k, .int .i64 b.n, .string b.s, .slice B b.l.length d] 24)) := ((Ext.refl w).alloc _).alloc _
  unfold tmVal
  go_enter Tryd.func3, Tryd.ntmps3
  go_upto_region 1 with fail
  refine wp_abs (fun V => Hid (Blk V (w.heap.size + 1) 24 #[.int .i64 b.k, .int .i64 b.n, .string b.s, .slice B b.l.length d]) ∧ Hid (Blk V w.heap.size 24 #[.int .i64 a.k, .int .i64 a.n, .string a.s, .slice A a.l.length c]) ∧ Hid (Ext w V)) ⟨blk2b, (Blk.new w _ _).alloc _, ((Ext.refl w).alloc _).alloc _⟩ ?_
  clear x0
  rintro V ⟨HB0, HA0, HX⟩
  have HAV := Lib.hid (HA.out.ext HX.out)
  have HBV := Lib.hid (HB.out.ext HX.out)
  have HEV := Lib.hid (HE.out.ext HX.out)
  have key := fun (W : World) (x : Ext V W) => (show Hid ((W.cell? ⟨w.heap.size, 0, none⟩ = some (.int .i64 a.k) ∧ W.cell? ⟨w.heap.size, 1, none⟩ = some (.int .i64 a.n) ∧ W.cell? ⟨w.heap.size, 2, none⟩ = some (.string a.s) ∧ W.cell? ⟨w.heap.size, 3, none⟩ = some (.slice A a.l.length c)) ∧ (W.cell? ⟨w.heap.size + 1, 0, none⟩ = some (.int .i64 b.k) ∧ W.cell? ⟨w.heap.size + 1, 1, none⟩ = some (.int .i64 b.n) ∧ W.cell? ⟨w.heap.size + 1, 2, none⟩ = some (.string b.s) ∧ W.cell? ⟨w.heap.size + 1, 3, none⟩ = some (.slice B b.l.length d))) from Lib.hid ⟨⟨(HA0.out.ext x).cell 0, (HA0.out.ext x).cell 1, (HA0.out.ext x).cell 2, (HA0.out.ext x).cell 3⟩, ⟨(HB0.out.ext x).cell 0, (HB0.out.ext x).cell 1, (HB0.out.ext x).cell 2, (HB0.out.ext x).cell 3⟩⟩)
  have HLA := fun (W : World) (x : Ext V W) => Lib.hid (refLarge_any a A c W D (HAV.out.ext x) HFA.out)
  have HLB := fun (W : World) (x : Ext V W) => Lib.hid (refLarge_any b B d W E (HBV.out.ext x) HFB.out)
  have HLV := fun (W : World) (x : Ext V W) => Lib.hid (lives_any W (HEV.out.ext x))
  unfold tmVal at HLA HLB
  obtain ⟨⟨y0, y1, y2, y3⟩, _⟩ := (key V (Ext.refl V)).out
  have hza := bigT_no (t := a)
  have hzb := bigT_no (t := b)
  cases hba : bigT a
  · rw [hba] at HLA hza
    have hza := hza rfl
    have K0 := fun (W : World) (x : Ext V W) => key W x
    cases hbb : bigT b
    · rw [hbb] at HLB hzb
      have hzb := hzb rfl
      have HCA := fun (W : World) (x : Ext V W) => Lib.hid (canon_any a A c W D (HAV.out.ext x) (HEV.out.ext x) (by omega))
      have HCB := fun (W : World) (x : Ext V W) => Lib.hid (canon_any b B d W E (HBV.out.ext x) (HEV.out.ext x) (by omega))
      have HEX := fun (W : World) (x : Ext V W) => Lib.hid (exact_any (szT a) a b (Nat.le_refl _) (by omega) A B c d W D E (HAV.out.ext x) (HBV.out.ext x))
      have HAP := Lib.hid (fun h1 h2 => wrt_apart (a := a) (b := b) h1 h2)
      unfold tmVal at HCA HCB HEX
      generalize wrtS none a [] = sa at *
      generalize wrtS none b [] = sb at *
      generalize wrtE none a [] = ea at *
      generalize wrtE none b [] = eb at *
      generalize exT a b = ex at *
      clear hba hbb hza hzb
      go_upto_region 3 with (first | (go_at_call 4; with_reducible refine (HLA V (Ext.refl V)).out.mono ?_; rintro e W1 ⟨rfl, hx⟩; have X1 := Lib.hid hx; clear hx; obtain ⟨_, ⟨b0, b1, b2, b3⟩⟩ := (key _ X1.out).out) | (go_at_call 4; refine (HLB _ X1.out).out.mono ?_; rintro e W2 ⟨rfl, hx⟩; have X2 := Lib.hid (X1.out.trans hx); clear hx))
      clear y0 y1 y2 y3 b0 b1 b2 b3 X1
      obtain ⟨⟨y0, y1, y2, y3⟩, _⟩ := (key _ X2.out).out
      go_upto_region 4 with (go_at_call 6; refine (HCA _ X2.out).out.mono ?_; rintro e W3 ⟨rfl, hx⟩; have X3 := Lib.hid (X2.out.trans hx); clear hx)
      clear y0 y1 y2 y3 X2
      obtain ⟨_, ⟨y0, y1, y2, y3⟩⟩ := (key _ X3.out).out
      go_upto_region 5 with (go_at_call 6; refine (HCB _ X3.out).out.mono ?_; rintro e W4 ⟨rfl, hx⟩; have X4 := Lib.hid (X3.out.trans hx); clear hx)
      clear y0 y1 y2 y3 X3
      by_cases hea : ea = 0
      · by_cases heb : eb = 0
        · have HAQ := Lib.hid (HAP.out hea heb)
          subst hea heb
          clear HAP
          go_upto_region 7 with (go_at_call 5; refine (HLV _ X4.out).out.mono ?_; rintro e W5 ⟨rfl, hx⟩; have X5 := Lib.hid (X4.out.trans hx); clear hx)
          obtain ⟨⟨y0, y1, y2, y3⟩, ⟨z0, z1, z2, z3⟩⟩ := (key _ X5.out).out
          go_wp2_with (go_at_call 7; refine (HEX _ X5.out).out.mono ?_; rintro e W6 ⟨rfl, hx⟩; have X6 := Lib.hid (X5.out.trans hx); clear hx)
          go_ret
          exact ⟨ret_boolP (by rw [HAQ.out]; cases ex <;> rfl), HX.out.trans X6.out⟩
        · have q1 : (eb == 0) = false := by simpa using heb
          have q2 : (eb != 0) = true := by simpa using heb
          subst hea
          clear HAP heb
          go_wp2_with (first | (go_at_call 5; with_reducible refine (HLV W4 X4.out).out.mono ?_; rintro e W5 ⟨rfl, hx⟩; have X5 := Lib.hid (X4.out.trans hx); clear hx) | (go_at_call 5; refine (HLV _ X5.out).out.mono ?_; rintro e W6 ⟨rfl, hx⟩; have X6 := Lib.hid (X5.out.trans hx); clear hx))
          go_ret
          exact ⟨rfl, HX.out.trans X6.out⟩
      · have q1 : (ea == 0) = false := by simpa using hea
        have q2 : (ea != 0) = true := by simpa using hea
        clear HAP hea
        go_wp2_with (first | (go_at_call 5; with_reducible refine (HLV W4 X4.out).out.mono ?_; rintro e W5 ⟨rfl, hx⟩; have X5 := Lib.hid (X4.out.trans hx); clear hx) | (go_at_call 5; refine (HLV _ X5.out).out.mono ?_; rintro e W6 ⟨rfl, hx⟩; have X6 := Lib.hid (X5.out.trans hx); clear hx))
        go_ret
        exact ⟨rfl, HX.out.trans X6.out⟩
    · rw [hbb] at HLB
      clear hba hbb hza hzb
      go_wp2_with (first | (go_at_call 4; with_reducible refine (HLA V (Ext.refl V)).out.mono ?_; rintro e W1 ⟨rfl, hx⟩; have X1 := Lib.hid hx; clear hx; obtain ⟨_, ⟨b0, b1, b2, b3⟩⟩ := (key _ X1.out).out) | (go_at_call 4; refine (HLB _ X1.out).out.mono ?_; rintro e W2 ⟨rfl, hx⟩; have X2 := Lib.hid (X1.out.trans hx); clear hx) | (go_at_call 5; refine (HLV _ X2.out).out.mono ?_; rintro e W6 ⟨rfl, hx⟩; have X6 := Lib.hid (X2.out.trans hx); clear hx))
      go_ret
      exact ⟨rfl, HX.out.trans X6.out⟩
  · rw [hba] at HLA
    clear hba hza hzb
    go_wp2_with (first | (go_at_call 4; refine (HLA _ (Ext.refl V)).out.mono ?_; rintro e W1 ⟨rfl, hx⟩; have X1 := Lib.hid hx; clear hx) | (go_at_call 5; refine (HLV _ X1.out).out.mono ?_; rintro e W6 ⟨rfl, hx⟩; have X6 := Lib.hid (X1.out.trans hx); clear hx))
    go_ret
    exact ⟨rfl, HX.out.trans X6.out⟩

end Go.Proofs.YtnedihbffiddpaaDoor
