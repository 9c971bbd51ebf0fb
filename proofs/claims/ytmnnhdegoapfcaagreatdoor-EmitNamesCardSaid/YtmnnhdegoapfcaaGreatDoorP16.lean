/- Layer 17, the program: the walk of put, of a compound. -/
import Derived.Test.YtmnnhdegoapfcaaGreatDoorP15
import Derived.OwnWalk
namespace Go.Proofs.YtmnnhdegoapfcaaGreatDoor
open Go.RowKit Go.El
structure PutAt (f : MF) (w : World) (nv0 : Value) (t : Tm) (At : Option Addr) (ct g : Nat) (wr : World) (m : Mk) (nv : Value) (R : List Int) : Prop where
 at_ : MkAt f wr m nv
 st : PStep f.S nv0 w nv wr
 tb : Blk wr w.heap.size 30 #[.int .i64 t.k, .int .i64 t.n, .string t.s, .slice At t.l.length ct]
 rb : Blk wr g 3 (R.map (Value.int .i64)).toArray
 tc : Clr2 f.S nv wr w.heap.size
 gc : Clr2 f.S nv wr g
 no : MkNo f g
 gw : w.heap.size < g
 tm : TmIn (fun k => Clr2 f.S nv wr k ∧ k ≠ g) wr t At ct
theorem PutAt.go {f : MF} {w : World} {nv0 : Value} {t : Tm} {At : Option Addr} {ct g : Nat} {wr w' : World} {m m' : Mk} {nv nv' : Value} {R : List Int} (h : PutAt f w nv0 t At ct g wr m nv R) (hm : MkAt f w' m' nv') (s : PStep f.S nv wr nv' w') : PutAt f w nv0 t At ct g w' m' nv' R :=
 ⟨hm, h.st.trans s, h.tb.mods s.mods h.tc.no, h.rb.mods s.mods h.gc.no, s.clr h.tc, s.clr h.gc, h.no, h.gw, TmIn.mods s.mods (fun _ hk => hk.1.no) (fun _ hk => ⟨s.clr hk.1, hk.2⟩) h.tm⟩
theorem PutAt.ext {f : MF} {w : World} {nv0 : Value} {t : Tm} {At : Option Addr} {ct g : Nat} {wr w' : World} {m : Mk} {nv : Value} {R : List Int} (h : PutAt f w nv0 t At ct g wr m nv R) (x : Ext wr w') : PutAt f w nv0 t At ct g w' m nv R :=
 h.go (h.at_.ext x) (PStep.ext x)
theorem PutAt.reg {f : MF} {w : World} {nv0 : Value} {t : Tm} {At : Option Addr} {ct g : Nat} {wr : World} {m : Mk} {nv : Value} {R : List Int} (h : PutAt f w nv0 t At ct g wr m nv R) (j : Nat) (v : Int) :
  PutAt f w nv0 t At ct g (wr.setCell ⟨g, j, none⟩ (.int .i64 v)) m nv (R.set j v) := by
 have hg := h.gw
 have hd : Mods [g] wr (wr.setCell ⟨g, j, none⟩ (.int .i64 v)) := (Mods.refl _ wr).setCell (p := ⟨g, j, none⟩) (.inl (by simp)) _
 have hc : ∀ k, Clr2 f.S nv wr k → Clr2 f.S nv (wr.setCell ⟨g, j, none⟩ (.int .i64 v)) k := fun k hk => ⟨hk.1, hk.2.1, by simpa using hk.2.2⟩
 refine ⟨h.at_.set1 h.no h.gc.2.1 j _, h.st.new1 (by omega) j _, h.tb.mods hd (by simp; omega), ?_, hc _ h.tc, hc _ h.gc, h.no, hg, TmIn.mods hd (fun k hk => by simpa using hk.2) (fun k hk => ⟨hc k hk.1, hk.2⟩) h.tm⟩
 have := h.rb.set_ j (.int .i64 v)
 rwa [show (R.map (Value.int .i64)).toArray.setIfInBounds j (.int .i64 v) = ((R.set j v).map (Value.int .i64)).toArray by simp [List.map_set]] at this
theorem rep_at {R : List Int} {n : Nat} (h : R.length < n) : ((R ++ List.replicate (n - R.length) 0).map (Value.int .i64)).toArray[R.length]? = some (.int .i64 0) := by
 rw [List.getElem?_toArray, List.getElem?_map, List.getElem?_append_right (Nat.le_refl _), Nat.sub_self, List.getElem?_replicate_of_lt (by omega)]
 rfl
theorem rep_set {R : List Int} {n : Nat} (h : R.length < n) (v : Int) : (R ++ List.replicate (n - R.length) 0).set R.length v = (R ++ [v]) ++ List.replicate (n - (R.length + 1)) 0 := by
 obtain ⟨k, hk⟩ : ∃ k, n - R.length = k + 1 := ⟨n - R.length - 1, by omega⟩
 have e : n - (R.length + 1) = k := by omega
 rw [hk, e]
 simp [List.replicate_succ]
theorem rep_zero {R : List Int} {n : Nat} (h : R.length < n) : R ++ List.replicate (n - R.length) 0 = (R ++ [0]) ++ List.replicate (n - (R.length + 1)) 0 := by
 obtain ⟨k, hk⟩ : ∃ k, n - R.length = k + 1 := ⟨n - R.length - 1, by omega⟩
 have e : n - (R.length + 1) = k := by omega
 rw [hk, e]
 simp [List.replicate_succ]
set_option maxRecDepth 100000 in
set_option maxHeartbeats 8000000 in
theorem mPut1 {f : MF} (N : Nat) (IH : ∀ u : Tm, szT u ≤ N → MPutC f u) (k n : Int) (s : ByteArray) (l : List Tm) (hN : szL l ≤ N) (a : Int) (At : Option Addr) (ct : Nat) (w : World) (m : Mk) (nv : Value) (h : MkAt f w m nv) (hr : Rm m (4 * szT (.mk k n s l))) (ht : TmIn (Clr2 f.S nv w) w (.mk k n s l) At ct)
  (hs : m.simple f.p.slots (.mk k n s l) 10 a = none) (hfu : m.full = false) :
  Calls Tryz.prog 163 #[.pointer (some ⟨f.mb, 0, none⟩), tmVal (.mk k n s l) At ct, .int .i64 a] w fun e w' => e = .returned (.tuple #[]) ∧ MkTo f w nv (putT f.p.slots (.mk k n s l) a m) w' := by
 have hpt : putT f.p.slots (.mk k n s l) a m = setS f.p.slots ((putL f.p.slots l m).1.add ⟨14, s, l.length, 0, a⟩) (l.zip (putL f.p.slots l m).2) := by
  simp only [putT, hs]
  rw [if_neg (by simp [hfu])]
 rw [hpt]
 clear hpt
 obtain ⟨i0, hi0, hz0, hz1, hz2⟩ := infoP mIntInfo
 have hz := szT_l (.mk k n s l)
 simp only [Tm.l] at hz
 have hll := len_szL l
 have hrb := hr.2.1
 have hrb0 := hr.1
 have HM := fun W (x : Ext w W) => Lib.hid (mSimple (.mk k n s l) At ct 10 a (h.ext x) (hr.mono (by omega)))
 rw [hs] at HM
 have HPU := fun W => Lib.hid (mPuts W)
 have HFF := Lib.hid hfu
 have HR := Lib.hid hr
 have H := Lib.hid h
 have HT0 := Lib.hid ht
 unfold tmVal opsV at *
 simp only [Tm.k, Tm.n, Tm.s, Tm.l, Option.isSome_none, Option.getD_none] at *
 clear h hr ht hs hfu
 go_enter Tryz.func163, Tryz.ntmps163
 go_upto_region 1 with fail
 refine wp_abs (fun V => Hid (Blk V w.heap.size 30 #[.int .i64 k, .int .i64 n, .string s, .slice At l.length ct]) ∧ Hid (Ext w V)) ⟨Blk.new _ _ _, ext_box _ _⟩ ?_
 rintro V ⟨HT, HX⟩
 have t9 := HT.out.cell
 have t8 := (HT.out.ext ((Ext.refl V).drew)).cell
 (first | (go_region_law ((first
  | (go_simp; go_at_call 197; refine (HPU _).out.mono ?_; rintro e V1 ⟨rfl, x1⟩; have X1 := Lib.hid ((Ext.refl _).drew.trans x1); have v9 := (HT.out.ext X1.out).cell; clear x1)
  | (go_simp; go_at_call 85; refine (HM _ (HX.out.trans X1.out)).out.mono ?_; rintro e V2 ⟨rfl, nv2, h2, s2⟩; have H2 := Lib.hid h2; have S2 := Lib.hid s2; clear h2 s2)
  | (go_simp; go_at_call 46; refine (mFull H2.out).mono ?_; rintro e V3 ⟨rfl, rfl⟩; rw [HFF.out])))) | fail "region")
 all_goals
  have hno := (H.out.no (k := w.heap.size) (Nat.le_refl _))
  have hwV : w.heap.size < V.heap.size := HT.out.lt
  have C1 : Clr2 f.S nv V1 w.heap.size := ⟨hno.1.s, hno.2, Nat.lt_of_lt_of_le hwV X1.out.size⟩
  have HT2 := Lib.hid ((HT.out.ext X1.out).mods S2.out.mods C1.no)
  have C2 := Lib.hid (S2.out.clr C1)
  have S02 := Lib.hid ((PStep.ext (S := f.S) (nv := nv) (HX.out.trans X1.out)).trans S2.out)
  have T2 := Lib.hid (S02.out.tm HT0.out)
  have hw2 : w.heap.size < V3.heap.size := HT2.out.lt
  have u9 := HT2.out.cell
  clear t9 t8 v9 hno C1
  go_upto_region 3 with (at_make; refine wpList_make_ints _ rfl _ _ 81 rfl 3 i0 Tryz.underlying81 hi0 hz0 hz1 hz2 l.length rfl rfl (by omega) ?_)
  have hpa : PutAt f w nv (.mk k n s l) At ct V3.heap.size (V3.alloc (.cells (Array.replicate l.length (Value.int .i64 0)) 3)) m nv2 (List.replicate l.length 0) := by
   have xa := ext_box V3 (.cells (Array.replicate l.length (Value.int .i64 0)) 3)
   have hn2 := H2.out.no (k := V3.heap.size) (Nat.le_refl _)
   refine ⟨H2.out.ext xa, S02.out.trans (PStep.ext xa), HT2.out.ext xa, ?_, (PStep.ext xa).clr C2.out, ⟨hn2.1.s, hn2.2, by simp⟩, hn2.1, hw2, ?_⟩
   ·have := Blk.new V3 3 (Array.replicate l.length (Value.int .i64 0))
    rwa [show Array.replicate l.length (Value.int .i64 0) = ((List.replicate l.length (0 : Int)).map (Value.int .i64)).toArray by simp] at this ⊢
   ·refine TmIn.mods (Mods.ext (S := []) xa) (fun _ _ => by simp) (fun j hj => ⟨(PStep.ext xa).clr hj, ?_⟩) T2.out
    have := hj.2.2
    omega
  generalize V3.alloc (.cells (Array.replicate l.length (Value.int .i64 0)) 3) = V4 at hpa ⊢
  have HPA := Lib.hid hpa
  have hg3 : w.heap.size < V3.heap.size := hw2
  have t3 : V4.cell? ⟨w.heap.size, 3, none⟩ = some (.slice At l.length ct) := hpa.tb.cell 3
  clear hpa u9 HT2 C2 S02 T2 H2 S2 X1 HT HX HM HPU HT0 H
  generalize V3.heap.size = g at *
  clear hw2
  go_upto_region 4 with fail
  go_loopw [27] (fun i wr => ∃ (j : Nat) (nj : Value), j ≤ l.length ∧ i = .int .i64 j ∧ Hid (PutAt f w nv (.mk k n s l) At ct g wr (putL f.p.slots (l.take j) m).1 nj ((putL f.p.slots (l.take j) m).2 ++ List.replicate (l.length - j) 0))) (fun i _ => l.length - (intOf i).toNat)
  case atStart => exact ⟨0, nv2, Nat.zero_le _, rfl, by simpa [putL] using HPA⟩
  case round =>
   obtain ⟨j, nj, hj, rfl, HP⟩ := hrel
   by_cases hlt : j < l.length
   ·have ho : l[j]? = some l[j] := List.getElem?_eq_getElem hlt
    have hsu := szL_get ho
    have hst := szL_take ho
    have hsl := szL_take_le l (j + 1)
    have hpl := Lib.hid (putL_take f.p.slots m ho)
    have hbd := bd_putL f.p.slots (l.take j) m
    have hcs := szCS (l.take j)
    have hln : (putL f.p.slots (l.take j) m).2.length = j := by rw [putL_len]; simp; omega
    generalize l[j] = u at ho hsu hst hpl
    generalize (putL f.p.slots (l.take j) m).1 = mj at *
    generalize (putL f.p.slots (l.take j) m).2 = Rj at *
    obtain ⟨bb, off, A', c', rfl, _, hu, q0, q1, q2, q3⟩ := HP.out.tm.child ho
    go_upto_region 6 with fail
    refine wp_abs (fun W => Hid (Ext wr W) ∧ Hid (Blk W wr.heap.size 30 #[.int .i64 u.k, .int .i64 u.n, .string u.s, .slice A' u.l.length c'])) ⟨ext_box _ _, Blk.new _ _ _⟩ ?_
    rintro W ⟨HE, HU⟩
    have PW := Lib.hid (HP.out.ext HE.out)
    have hxn := HP.out.at_.no (k := wr.heap.size) (Nat.le_refl _)
    have hxW := HU.out.lt
    have CX := Lib.hid (show Clr2 f.S nj W wr.heap.size from ⟨hxn.1.s, hxn.2, hxW⟩)
    have hgx : g < wr.heap.size := HP.out.rb.lt
    have HU1 := Lib.hid (TmIn.mods (D' := fun k => Clr2 f.S nj W k ∧ k ≠ g) (Mods.ext (S := []) HE.out) (fun _ _ => by simp) (fun k hk => ⟨(PStep.ext HE.out).clr hk.1, hk.2⟩) hu)
    have x0 : W.cell? ⟨wr.heap.size, 0, none⟩ = some (.int .i64 u.k) := HU.out.cell 0
    clear hu q0 q1 q2 q3 hxn
    generalize wr.heap.size = bx at *
    subst hln
    by_cases hk : u.k = 4
    ·have hk2 : (u.k == 4) = true := by simpa using hk
     have HPL := Lib.hid (hpl.out.trans (if_pos hk))
     have RMT := Lib.hid (show Rm mj 1 from ⟨by have := hbd.lo; omega, by have := hbd.hi; omega, by have := hbd.oh; have := HR.out.2.2; omega⟩)
     have RMU := Lib.hid (show Rm mj.take (4 * szT u) from ⟨by have := hbd.lo; show 0 ≤ mj.next + 1; omega, by have := hbd.hi; show mj.next + 1 + _ ≤ _; omega, by have := hbd.oh; have := HR.out.2.2; show mj.out.length + _ ≤ _; omega⟩)
     clear hpl hk hbd
     go_upto_region 8 with (go_at_call 133; refine (mTake PW.out.at_ RMT.out).mono ?_; rintro e W2 ⟨rfl, h2, s2⟩; have P2 := Lib.hid (PW.out.go h2 s2); have HU2 := Lib.hid (HU.out.mods s2.mods CX.out.no); have CX2 := Lib.hid (s2.clr CX.out); have HT2 := Lib.hid (TmIn.mods (D' := fun k => Clr2 f.S nj W2 k ∧ k ≠ g) s2.mods (fun k hk => hk.1.no) (fun k hk => ⟨s2.clr hk.1, hk.2⟩) HU1.out); have r2 : W2.cell? ⟨g, Rj.length, none⟩ = some (.int .i64 0) := (P2.out.rb.cell _).trans (rep_at hlt); have fz2 := P2.out.rb.frozen Rj.length; clear h2 s2)
     have p3 := P2.out.reg Rj.length (mj.next + 1)
     rw [rep_set hlt] at p3
     have P3 := Lib.hid p3
     have HU3 := Lib.hid (HU2.out.far (p := ⟨g, Rj.length, none⟩) (by simp; omega) (.int .i64 (mj.next + 1)))
     have HT3 := Lib.hid (TmIn.mods (S := [g]) (D' := fun k => Clr2 f.S nj (W2.setCell ⟨g, Rj.length, none⟩ (.int .i64 (mj.next + 1))) k) ((Mods.refl _ W2).setCell (p := ⟨g, Rj.length, none⟩) (.inl (by simp)) (.int .i64 (mj.next + 1))) (fun k hk => by simpa using hk.2) (fun k hk => ⟨hk.1.1, hk.1.2.1, by simpa using hk.1.2.2⟩) HT2.out)
     clear p3 r2 fz2 HU2 HT2 CX2 x0
     generalize W2.setCell ⟨g, Rj.length, none⟩ (.int .i64 (mj.next + 1)) = W3 at P3 HU3 HT3 ⊢
     have x0 : W3.cell? ⟨bx, 0, none⟩ = some (.int .i64 u.k) := HU3.out.cell 0
     have x1 : W3.cell? ⟨bx, 1, none⟩ = some (.int .i64 u.n) := HU3.out.cell 1
     have x2 : W3.cell? ⟨bx, 2, none⟩ = some (.string u.s) := HU3.out.cell 2
     have x3 : W3.cell? ⟨bx, 3, none⟩ = some (.slice A' u.l.length c') := HU3.out.cell 3
     have x4 : W3.cell? ⟨g, Rj.length, none⟩ = some (.int .i64 (mj.next + 1)) := (P3.out.rb.cell _).trans (by simp)
     have HC := Lib.hid (IH u (by omega) (mj.next + 1) A' c' W3.drew mj.take nj (P3.out.at_.ext ((Ext.refl _).drew)) RMU.out (TmIn.mods (Mods.ext (S := []) ((Ext.refl W3).drew)) (fun _ _ => by simp) (fun k hk => (PStep.ext ((Ext.refl W3).drew)).clr hk) HT3.out))
     unfold tmVal at HC
     (first | (go_region_law ((go_simp; go_at_call 163; refine HC.out.mono ?_; rintro e W4 ⟨rfl, n4, h4, s4⟩; have P4 := Lib.hid (P3.out.go h4 ((PStep.ext ((Ext.refl W3).drew)).trans s4)); clear h4 s4))) | fail "region 8")
     all_goals
      go_wp2_with fail
      go_roundw
      case rel => exact ⟨Rj.length + 1, n4, hlt, by go_num, Lib.hid (by rw [HPL.out]; exact P4.out)⟩
      case measure => simp [intOf]; omega
    ·have hk2 : (u.k == 4) = false := by simpa using hk
     have HPL := Lib.hid (hpl.out.trans (if_neg hk))
     have PZ := PW.out
     rw [rep_zero hlt] at PZ
     have PZ := Lib.hid PZ
     clear hpl hk hbd PW
     go_wp2_with fail
     go_roundw
     case rel => exact ⟨Rj.length + 1, nj, hlt, by go_num, Lib.hid (by rw [HPL.out]; exact PZ.out)⟩
     case measure => simp [intOf]; omega
   ·have hje : j = l.length := by omega
    subst hje
    rw [List.take_length, Nat.sub_self, List.replicate_zero, List.append_nil] at HP
    have hbd := bd_putL f.p.slots l m
    have hcs := szCS l
    have hln := putL_len f.p.slots l m
    generalize hmj : (putL f.p.slots l m).1 = mj at *
    generalize hRR : (putL f.p.slots l m).2 = R at *
    have HMJ := Lib.hid hmj
    have HRR := Lib.hid hRR
    clear hmj hRR
    have y3 : wr.cell? ⟨w.heap.size, 3, none⟩ = some (.slice At l.length ct) := HP.out.tb.cell 3
    have y2 : wr.cell? ⟨w.heap.size, 2, none⟩ = some (.string s) := HP.out.tb.cell 2
    have HA := Lib.hid (mAdd ⟨14, s, l.length, 0, a⟩ HP.out.at_ ⟨by have := hbd.lo; omega, by have := hbd.hi; omega, by have := hbd.oh; have := HR.out.2.2; omega⟩)
    unfold insV at HA
    go_upto_region 11 with (go_at_call 43; refine HA.out.mono ?_; rintro e W5 ⟨rfl, n5, h5, s5⟩; have P5 := Lib.hid (HP.out.go h5 s5); have z3 : W5.cell? ⟨w.heap.size, 3, none⟩ = some (.slice At l.length ct) := P5.out.tb.cell 3; clear h5 s5)
    have B5 := Lib.hid (show Bd m (mj.add ⟨14, s, l.length, 0, a⟩) (szC l) (2 * szL l - l.length + 1) from hbd.trans (bd_add _ _))
    generalize hm5 : mj.add ⟨14, s, l.length, 0, a⟩ = m5 at *
    have HM5 := Lib.hid hm5
    clear hm5
    clear HA HP y3 y2 hbd t3 HPA hj hlt
    go_upto_region 12 with fail
    go_loopw [60] (fun i wr => ∃ (j : Nat) (nj : Value), j ≤ l.length ∧ i = .int .i64 j ∧ Hid (PutAt f w nv (.mk k n s l) At ct g wr (setS f.p.slots m5 ((l.zip R).take j)) nj R)) (fun i _ => l.length - (intOf i).toNat)
    case atStart => exact ⟨0, n5, Nat.zero_le _, rfl, by simpa [setS] using P5⟩
    case round =>
     obtain ⟨j, nj, hj, rfl, HP⟩ := hrel
     by_cases hlt : j < l.length
     ·have ho : l[j]? = some l[j] := List.getElem?_eq_getElem hlt
      have hRj : R[j]? = some (R[j]'(by omega)) := List.getElem?_eq_getElem (by omega)
      have hL : (l.zip R)[j]? = some (l[j], R[j]'(by omega)) := by rw [List.getElem?_zip_eq_some]; exact ⟨ho, hRj⟩
      have HST := Lib.hid (setS_take f.p.slots m5 hL)
      have hbd := bd_setS f.p.slots ((l.zip R).take j) m5
      have hfl := List.length_filter_le (fun x : Tm × Int => decide (x.1.k ≠ 4)) ((l.zip R).take j)
      have htl : ((l.zip R).take j).length ≤ j := by rw [List.length_take]; omega
      generalize l[j] = u at ho HST
      generalize (R[j]'(by omega)) = rj at hRj HST
      generalize setS f.p.slots m5 ((l.zip R).take j) = mj at *
      have RM2 := Lib.hid (show Rm mj 2 from ⟨by have := hbd.lo; have := B5.out.lo; omega, by have := hbd.hi; have := B5.out.hi; omega, by have := hbd.oh; have := B5.out.oh; have := HR.out.2.2; omega⟩)
      clear hL hbd hfl htl
      obtain ⟨bb, off, A', c', rfl, _, hu, q0, q1, q2, q3⟩ := HP.out.tm.child ho
      clear hu
      go_upto_region 14 with fail
      refine wp_abs (fun W => Hid (Ext wr W) ∧ Hid (Blk W wr.heap.size 30 #[.int .i64 u.k, .int .i64 u.n, .string u.s, .slice A' u.l.length c'])) ⟨ext_box _ _, Blk.new _ _ _⟩ ?_
      rintro W ⟨HE, HU⟩
      have PW := Lib.hid (HP.out.ext HE.out)
      have hxn := HP.out.at_.no (k := wr.heap.size) (Nat.le_refl _)
      have hxW := HU.out.lt
      clear q0 q1 q2 q3
      have x9 := HU.out.cell
      have x8 := (HU.out.ext ((Ext.refl W).drew)).cell
      have HM2 := fun V (x : Ext W V) => Lib.hid (mSimple u A' c' 15 0 (PW.out.at_.ext x) RM2.out)
      have HSE := fun V => Lib.hid (mSets V)
      generalize wr.heap.size = bx at *
      unfold tmVal opsV at HM2
      unfold opsV at HSE
      cases hq : mj.simple f.p.slots u 15 0 with
      | some m' =>
       rw [hq] at HM2 HST
       simp only [Option.isSome_some, Option.getD_some] at HM2 HST
       clear hq
       (first | (go_region_law ((first
        | (go_simp; go_at_call 198; refine (HSE _).out.mono ?_; rintro e V1 ⟨rfl, x1⟩; have X1 := Lib.hid ((Ext.refl _).drew.trans x1); have v9 := (HU.out.ext X1.out).cell; clear x1)
        | (go_simp; go_at_call 85; refine (HM2 _ X1.out).out.mono ?_; rintro e V2 ⟨rfl, n2, h2, s2⟩; have P2 := Lib.hid ((PW.out.ext X1.out).go h2 s2); clear h2 s2)))) | fail "region 14")
       all_goals
        go_wp2_with fail
        go_roundw
        case rel => exact ⟨j + 1, n2, hlt, by go_num, Lib.hid (by rw [HST.out]; exact P2.out)⟩
        case measure => simp [intOf]; omega
      | none =>
       rw [hq] at HM2 HST
       simp only [Option.isSome_none, Option.getD_none] at HM2 HST
       clear hq
       (first | (go_region_law ((first
        | (go_simp; go_at_call 198; refine (HSE _).out.mono ?_; rintro e V1 ⟨rfl, x1⟩; have X1 := Lib.hid ((Ext.refl _).drew.trans x1); have v9 := (HU.out.ext X1.out).cell; clear x1)
        | (go_simp; go_at_call 85; refine (HM2 _ X1.out).out.mono ?_; rintro e V2 ⟨rfl, n2, h2, s2⟩; have P2 := Lib.hid ((PW.out.ext X1.out).go h2 s2); clear h2 s2)))) | fail "region 14")
       all_goals
        have z4 : V2.cell? ⟨g, j, none⟩ = some (.int .i64 rj) := (P2.out.rb.cell _).trans (by rw [List.getElem?_toArray, List.getElem?_map, hRj]; rfl)
        have HA := Lib.hid (mAdd ⟨16, ⟨#[]⟩, 0, rj, 0⟩ P2.out.at_ (RM2.out.mono (by omega)))
        unfold insV at HA
        go_wp2_with (go_at_call 43; refine HA.out.mono ?_; rintro e W6 ⟨rfl, n6, h6, s6⟩; have P6 := Lib.hid (P2.out.go h6 s6); clear h6 s6)
        go_roundw
        case rel => exact ⟨j + 1, n6, hlt, by go_num, Lib.hid (by rw [HST.out]; exact P6.out)⟩
        case measure => simp [intOf]; omega
     ·have hje : j = l.length := by omega
      subst hje
      rw [List.take_of_length_le (by rw [List.length_zip]; omega)] at HP
      go_wp2_with fail
      go_end0
      exact ⟨rfl, nj, by rw [HMJ.out, HRR.out, HM5.out]; exact HP.out.at_, HP.out.st⟩
theorem mPut {f : MF} : ∀ (N : Nat) (t : Tm), szT t ≤ N → MPutC f t
 | 0, t, h => by
  have := szT_pos t
  omega
 | N + 1, .mk k n s l, hN => by
  intro a At ct w m nv h hr ht
  simp only [szT] at hN
  cases hs : m.simple f.p.slots (.mk k n s l) 10 a with
  | some m' => exact mPut0 _ a At ct h hr (.inl (by rw [hs]; rfl))
  | none =>
   cases hfu : m.full with
   | true => exact mPut0 _ a At ct h hr (.inr hfu)
   | false => exact mPut1 N (fun u hu => mPut N u hu) k n s l (by omega) a At ct w m nv h hr ht hs hfu
end Go.Proofs.YtmnnhdegoapfcaaGreatDoor

/- Layer 17, the program: the walks of leave, args. -/
namespace Go.Proofs.YtmnnhdegoapfcaaGreatDoor
open Go.RowKit Go.El
set_option maxRecDepth 100000 in
set_option maxHeartbeats 1000000 in
theorem mLeave {f : MF} {w : World} {m : Mk} {nv : Value} (h : MkAt f w m nv) (hr : Rm m 1) :
  Calls Tryz.prog 89 #[.pointer (some ⟨f.mb, 0, none⟩)] w fun e w' => e = .returned (.tuple #[]) ∧ MkTo f w nv (leaveF f.p m) w' := by
 have k0 := h.cells.c0
 unfold leaveF
 cases he : f.p.env with
 | false =>
  rw [he] at k0
  have H := Lib.hid h
  simp only [Bool.false_eq_true, if_false]
  clear h he hr
  go_enter Tryz.func89, Tryz.ntmps89
  go_wp2_with fail
  go_end0
  exact ⟨rfl, nv, H.out, .refl _ _ _⟩
 | true =>
  rw [he] at k0
  have HA := Lib.hid (mAdd ⟨20, ⟨#[]⟩, 0, 0, 0⟩ h hr)
  unfold insV at HA
  simp only [if_true]
  clear h he hr
  go_enter Tryz.func89, Tryz.ntmps89
  go_wp2_with (go_at_call 43; refine HA.out.mono ?_; rintro e W6 ⟨rfl, n6, h6, s6⟩; have H6 := Lib.hid h6; have S6 := Lib.hid s6; clear h6 s6)
  go_end0
  exact ⟨rfl, n6, H6.out, S6.out⟩
def goalV (g : Int × Tm) (At : Option Addr) (ct : Nat) : Value := .agg #[.int .i64 g.1, .int .i64 g.2.k, .int .i64 g.2.n, .string g.2.s, .slice At g.2.l.length ct]
structure ArgAt (f : MF) (w : World) (nv0 : Value) (k : Int) (t : Tm) (At : Option Addr) (ct : Nat) (wr : World) (m : Mk) (nv : Value) : Prop where
 at_ : MkAt f wr m nv
 st : PStep f.S nv0 w nv wr
 gb : Blk wr w.heap.size 42 #[.int .i64 k, .int .i64 t.k, .int .i64 t.n, .string t.s, .slice At t.l.length ct]
 tc : Clr2 f.S nv wr w.heap.size
 tm : TmIn (Clr2 f.S nv wr) wr t At ct
theorem ArgAt.go {f : MF} {w : World} {nv0 : Value} {k : Int} {t : Tm} {At : Option Addr} {ct : Nat} {wr w' : World} {m m' : Mk} {nv nv' : Value} (h : ArgAt f w nv0 k t At ct wr m nv) (hm : MkAt f w' m' nv') (s : PStep f.S nv wr nv' w') : ArgAt f w nv0 k t At ct w' m' nv' :=
 ⟨hm, h.st.trans s, h.gb.mods s.mods h.tc.no, s.clr h.tc, s.tm h.tm⟩
theorem ArgAt.ext {f : MF} {w : World} {nv0 : Value} {k : Int} {t : Tm} {At : Option Addr} {ct : Nat} {wr w' : World} {m : Mk} {nv : Value} (h : ArgAt f w nv0 k t At ct wr m nv) (x : Ext wr w') : ArgAt f w nv0 k t At ct w' m nv :=
 h.go (h.at_.ext x) (PStep.ext x)
theorem ArgAt.start {f : MF} {w : World} {m : Mk} {nv : Value} (h : MkAt f w m nv) (k : Int) (t : Tm) (At : Option Addr) (ct : Nat) (ht : TmIn (Clr2 f.S nv w) w t At ct) : ArgAt f w nv k t At ct (w.alloc (.cells #[.int .i64 k, .int .i64 t.k, .int .i64 t.n, .string t.s, .slice At t.l.length ct] 42)) m nv := by
 have x := ext_box w (.cells #[.int .i64 k, .int .i64 t.k, .int .i64 t.n, .string t.s, .slice At t.l.length ct] 42)
 have hn := h.no (k := w.heap.size) (Nat.le_refl _)
 exact ⟨h.ext x, PStep.ext x, Blk.new _ _ _, ⟨hn.1.s, hn.2, by simp⟩, (PStep.ext x).tm ht⟩
set_option maxRecDepth 100000 in
set_option maxHeartbeats 1000000 in
theorem mArgs (g : Int × Tm) (At : Option Addr) (ct : Nat) {f : MF} {w : World} {m : Mk} {nv : Value} (h : MkAt f w m nv) (hr : Rm m (4 * szT g.2 + 4)) (ht : TmIn (Clr2 f.S nv w) w g.2 At ct) (hlv : 0 ≤ f.p.level ∧ f.p.level ≤ 1000) :
  Calls Tryz.prog 134 #[.pointer (some ⟨f.mb, 0, none⟩), goalV g At ct] w fun e w' => e = .returned (.tuple #[]) ∧ MkTo f w nv (argsF f.p m g) w' := by
 obtain ⟨k, t⟩ := g
 unfold goalV
 simp only at hr ht ⊢
 have HS := Lib.hid (ArgAt.start h k t At ct ht)
 have HR := Lib.hid hr
 have hll := len_szL t.l
 have hzt := szT_l t
 have hpb := bd_put f.p.slots t 1 m
 have HRP := Lib.hid (show Rm (putT f.p.slots t 1 m) 1 from ⟨by have := hpb.lo; have := hr.1; omega, by have := hpb.hi; have := hr.2.1; omega, by have := hpb.oh; have := hr.2.2; omega⟩)
 have HRT := Lib.hid (hr.mono (show 4 * szT t ≤ 4 * szT t + 4 by omega))
 have hrb := hr.2.1
 have hrb0 := hr.1
 clear h ht hpb hr
 unfold argsF
 simp only
 by_cases h4 : k = 4
 ·subst h4
  simp only [if_true]
  go_enter Tryz.func134, Tryz.ntmps134
  go_upto_region 1 with fail
  generalize w.alloc (.cells #[.int .i64 4, .int .i64 t.k, .int .i64 t.n, .string t.s, .slice At t.l.length ct] 42) = V at HS ⊢
  have c0 : V.cell? ⟨w.heap.size, 0, none⟩ = some (.int .i64 4) := HS.out.gb.cell 0
  have c1 : V.cell? ⟨w.heap.size, 1, none⟩ = some (.int .i64 t.k) := HS.out.gb.cell 1
  have c2 : V.cell? ⟨w.heap.size, 2, none⟩ = some (.int .i64 t.n) := HS.out.gb.cell 2
  have c3 : V.cell? ⟨w.heap.size, 3, none⟩ = some (.string t.s) := HS.out.gb.cell 3
  have c4 : V.cell? ⟨w.heap.size, 4, none⟩ = some (.slice At t.l.length ct) := HS.out.gb.cell 4
  have HP := Lib.hid (mPut (f := f) (szT t) t (Nat.le_refl _) 1 At ct V m nv HS.out.at_ HRT.out HS.out.tm)
  unfold tmVal at HP
  go_upto_region 9 with (go_at_call 163; refine HP.out.mono ?_; rintro e W1 ⟨rfl, n1, h1, s1⟩; have P1 := Lib.hid (HS.out.go h1 s1); clear h1 s1)
  have HA := Lib.hid (mAdd ⟨27, ⟨#[]⟩, 0, 2, 0⟩ P1.out.at_ HRP.out)
  unfold insV at HA
  go_wp2_with (go_at_call 43; refine HA.out.mono ?_; rintro e W6 ⟨rfl, n6, h6, s6⟩; have P6 := Lib.hid (P1.out.go h6 s6); clear h6 s6)
  go_end0
  exact ⟨rfl, n6, P6.out.at_, P6.out.st⟩
 ·have q4 : (k == 4) = false := by simpa using h4
  rw [if_neg h4]
  by_cases h3 : k = 3
  ·subst h3
   simp only [if_true]
   go_enter Tryz.func134, Tryz.ntmps134
   go_upto_region 1 with fail
   generalize w.alloc (.cells #[.int .i64 3, .int .i64 t.k, .int .i64 t.n, .string t.s, .slice At t.l.length ct] 42) = V at HS ⊢
   have c0 : V.cell? ⟨w.heap.size, 0, none⟩ = some (.int .i64 3) := HS.out.gb.cell 0
   have c1 : V.cell? ⟨w.heap.size, 1, none⟩ = some (.int .i64 t.k) := HS.out.gb.cell 1
   have c2 : V.cell? ⟨w.heap.size, 2, none⟩ = some (.int .i64 t.n) := HS.out.gb.cell 2
   have c3 : V.cell? ⟨w.heap.size, 3, none⟩ = some (.string t.s) := HS.out.gb.cell 3
   have c4 : V.cell? ⟨w.heap.size, 4, none⟩ = some (.slice At t.l.length ct) := HS.out.gb.cell 4
   have HP := Lib.hid (mPut (f := f) (szT t) t (Nat.le_refl _) 1 At ct V m nv HS.out.at_ HRT.out HS.out.tm)
   unfold tmVal at HP
   go_upto_region 12 with (go_at_call 163; refine HP.out.mono ?_; rintro e W1 ⟨rfl, n1, h1, s1⟩; have P1 := Lib.hid (HS.out.go h1 s1); have l2 := h1.cells.c2; clear h1 s1)
   have HA := Lib.hid (mAdd ⟨11, ⟨#[]⟩, 0, -f.p.level, 2⟩ P1.out.at_ HRP.out)
   unfold insV at HA
   go_wp2_with (go_at_call 43; refine HA.out.mono ?_; rintro e W6 ⟨rfl, n6, h6, s6⟩; have P6 := Lib.hid (P1.out.go h6 s6); clear h6 s6)
   go_end0
   exact ⟨rfl, n6, P6.out.at_, P6.out.st⟩
  ·have q3 : (k == 3) = false := by simpa using h3
   rw [if_neg h3]
   clear HRP HRT
   go_enter Tryz.func134, Tryz.ntmps134
   go_upto_region 1 with fail
   generalize w.alloc (.cells #[.int .i64 k, .int .i64 t.k, .int .i64 t.n, .string t.s, .slice At t.l.length ct] 42) = V at HS ⊢
   have c0 : V.cell? ⟨w.heap.size, 0, none⟩ = some (.int .i64 k) := HS.out.gb.cell 0
   have c1 : V.cell? ⟨w.heap.size, 1, none⟩ = some (.int .i64 t.k) := HS.out.gb.cell 1
   have c2 : V.cell? ⟨w.heap.size, 2, none⟩ = some (.int .i64 t.n) := HS.out.gb.cell 2
   have c3 : V.cell? ⟨w.heap.size, 3, none⟩ = some (.string t.s) := HS.out.gb.cell 3
   have c4 : V.cell? ⟨w.heap.size, 4, none⟩ = some (.slice At t.l.length ct) := HS.out.gb.cell 4
   go_upto_region 3 with fail
   go_loopw [12] (fun i wr => ∃ (j : Nat) (nj : Value), j ≤ t.l.length ∧ i = .int .i64 j ∧ Hid (ArgAt f w nv k t At ct wr (putR f.p.slots (t.l.take j) 1 m) nj)) (fun i _ => t.l.length - (intOf i).toNat)
   case atStart => exact ⟨0, nv, Nat.zero_le _, rfl, by simpa [putR] using HS⟩
   case round =>
    obtain ⟨j, nj, hj, rfl, HP⟩ := hrel
    by_cases hlt : j < t.l.length
    ·have ho : t.l[j]? = some t.l[j] := List.getElem?_eq_getElem hlt
     have hsu := szL_get ho
     have hst := szL_take ho
     have hsl := szL_take_le t.l (j + 1)
     have hpr := putR_take f.p.slots 1 m ho
     have hbd := bd_putR f.p.slots (t.l.take j) 1 m
     generalize t.l[j] = u at ho hsu hst hpr
     rw [Int.add_comm] at hpr
     generalize putR f.p.slots (t.l.take j) 1 m = mj at *
     have HPR := Lib.hid hpr
     obtain ⟨bb, off, A', c', rfl, _, hu, q0, q1, q2, q5⟩ := HP.out.tm.child ho
     have RMU := Lib.hid (show Rm mj (4 * szT u) from ⟨by have := hbd.lo; have := HR.out.1; omega, by have := hbd.hi; omega, by have := hbd.oh; have := HR.out.2.2; omega⟩)
     clear hpr hbd
     go_upto_region 5 with fail
     refine wp_abs (fun W => Hid (Ext wr W) ∧ Hid (Blk W wr.heap.size 30 #[.int .i64 u.k, .int .i64 u.n, .string u.s, .slice A' u.l.length c'])) ⟨ext_box _ _, Blk.new _ _ _⟩ ?_
     rintro W ⟨HE, HU⟩
     have PW := Lib.hid (HP.out.ext HE.out)
     have HC := Lib.hid (mPut (f := f) (szT u) u (Nat.le_refl _) (j + 1) A' c' W mj nj PW.out.at_ RMU.out ((PStep.ext HE.out).tm hu))
     unfold tmVal at HC
     have x0 : W.cell? ⟨wr.heap.size, 0, none⟩ = some (.int .i64 u.k) := HU.out.cell 0
     have x1 : W.cell? ⟨wr.heap.size, 1, none⟩ = some (.int .i64 u.n) := HU.out.cell 1
     have x2 : W.cell? ⟨wr.heap.size, 2, none⟩ = some (.string u.s) := HU.out.cell 2
     have x3 : W.cell? ⟨wr.heap.size, 3, none⟩ = some (.slice A' u.l.length c') := HU.out.cell 3
     clear q0 q1 q2 q5 hu
     go_wp2_with (go_at_call 163; refine HC.out.mono ?_; rintro e W4 ⟨rfl, n4, h4, s4⟩; have P4 := Lib.hid (PW.out.go h4 s4); clear h4 s4)
     go_roundw
     case rel => exact ⟨j + 1, n4, hlt, by go_num, by rw [HPR.out]; exact P4⟩
     case measure => simp [intOf]; omega
    ·have hje : t.l.length ≤ j := by omega
     rw [List.take_of_length_le hje] at HP
     go_wp2_with fail
     go_end0
     exact ⟨rfl, nj, HP.out.at_, HP.out.st⟩
end Go.Proofs.YtmnnhdegoapfcaaGreatDoor
