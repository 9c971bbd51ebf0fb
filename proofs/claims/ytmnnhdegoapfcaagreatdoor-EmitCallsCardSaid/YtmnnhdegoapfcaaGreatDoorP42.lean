/- Law 17: the walk of EmitCalls. -/
import Derived.Test.YtmnnhdegoapfcaaGreatDoorP41
import Derived.Test.YtmnnhdegoapfcaaGreatDoorP30
import Derived.Test.YtmnnhdegoapfcaaGreatDoorP11
namespace Go.El
open Go.Proofs.YtmnnhdegoapfcaaGreatDoor
theorem nm_is (o : Int) (k : Nat) (l : List UInt8) (hk : ∀ n : Fin 31, decide (mkB (nameF (n.val : Int)) = ⟨l.toArray⟩) = decide (n.val = k)) (hl : l ≠ []) (h31 : k < 31) : ((mkB (nameF o)).toList == l) = decide (o = (k : Int)) := by
 rw [str_lit]
 by_cases h : o < 0 ∨ 31 ≤ o
 ·have e : nameF o = [] := by unfold nameF; rw [if_pos h]
  rw [e, decide_eq_false (show ¬ o = (k : Int) by omega)]
  refine decide_eq_false (fun he => hl ?_)
  have h2 := congrArg (fun b => b.data.toList) he
  simpa [mkB] using h2.symm
 ·obtain ⟨n, rfl⟩ : ∃ n : Nat, o = (n : Int) := ⟨o.toNat, by omega⟩
  rw [hk ⟨n, by omega⟩]
  by_cases hn : n = k
  ·rw [decide_eq_true hn, decide_eq_true (by omega)]
  ·rw [decide_eq_false hn, decide_eq_false (by omega)]
theorem nm_21 (o : Int) : ((mkB (nameF o)).toList == [99, 97, 108, 108]) = decide (o = 21) := nm_is o 21 _ (by decide +kernel) (by simp) (by omega)
theorem nm_22 (o : Int) : ((mkB (nameF o)).toList == [101, 120, 101, 99]) = decide (o = 22) := nm_is o 22 _ (by decide +kernel) (by simp) (by omega)
theorem nm_23 (o : Int) : ((mkB (nameF o)).toList == [98, 111, 100, 121]) = decide (o = 23) := nm_is o 23 _ (by decide +kernel) (by simp) (by omega)
theorem nm_24 (o : Int) : ((mkB (nameF o)).toList == [103, 111, 97, 108]) = decide (o = 24) := nm_is o 24 _ (by decide +kernel) (by simp) (by omega)
theorem nm_28 (o : Int) : ((mkB (nameF o)).toList == [110, 101, 99, 107]) = decide (o = 28) := nm_is o 28 _ (by decide +kernel) (by simp) (by omega)
theorem nm_29 (o : Int) : ((mkB (nameF o)).toList == [99, 117, 116]) = decide (o = 29) := nm_is o 29 _ (by decide +kernel) (by simp) (by omega)
theorem comp_len' (c : Cls) : (compF c).1.length ≤ 4096 := by
 unfold compF
 split
 ·simp
 ·split
  ·simp
  ·next h =>
   unfold Mk.full at h
   simp only [Bool.or_eq_true, decide_eq_true_eq, not_or] at h
   simp only
   omega
theorem call_six {i : Ins} (h : isCall i = true) : i.op = 21 ∨ i.op = 22 ∨ i.op = 23 ∨ i.op = 24 ∨ i.op = 28 ∨ i.op = 29 := by
 unfold isCall at h
 simp only [Bool.or_eq_true, beq_iff_eq] at h
 omega
theorem call_not {i : Ins} (h : isCall i = false) : i.op ≠ 21 ∧ i.op ≠ 22 ∧ i.op ≠ 23 ∧ i.op ≠ 24 ∧ i.op ≠ 28 ∧ i.op ≠ 29 := by
 unfold isCall at h
 simp only [Bool.or_eq_false_iff, beq_eq_false_iff_ne] at h
 omega
theorem drop_step {L : List Ins} {j : Nat} {i : Ins} (h : L[j]? = some i) : L.drop j = i :: L.drop (j + 1) := by
 obtain ⟨hj, he⟩ := List.getElem?_eq_some_iff.1 h
 rw [List.drop_eq_getElem_cons hj, he]
theorem mat_skip {gs : List (Int × Tm)} {L : List Ins} {j : Nat} {i : Ins} (h : L[j]? = some i) (hc : isCall i = false) (hm : matchG gs ((L.drop j).filter isCall) = true) : matchG gs ((L.drop (j + 1)).filter isCall) = true := by
 rw [drop_step h, List.filter_cons, hc] at hm
 simpa using hm
theorem mat_take {gs : List (Int × Tm)} {a : Nat} {L : List Ins} {j : Nat} {i : Ins} (h : L[j]? = some i) (hc : isCall i = true) (hm : matchG (gs.drop a) ((L.drop j).filter isCall) = true) : ∃ g, gs[a]? = some g ∧ forG g i = true ∧ matchG (gs.drop (a + 1)) ((L.drop (j + 1)).filter isCall) = true := by
 rw [drop_step h, List.filter_cons, hc, if_pos rfl] at hm
 by_cases ha : a < gs.length
 ·rw [List.drop_eq_getElem_cons ha] at hm
  simp only [matchG, Bool.and_eq_true] at hm
  exact ⟨gs[a], List.getElem?_eq_getElem ha, hm.1.2, hm.2⟩
 ·rw [List.drop_eq_nil_of_le (by omega)] at hm
  simp [matchG] at hm
theorem mat_end {gs : List (Int × Tm)} {a : Nat} (ha : a ≤ gs.length) (hm : matchG (gs.drop a) [] = true) : a = gs.length := by
 by_cases h : a < gs.length
 ·rw [List.drop_eq_getElem_cons h] at hm
  simp [matchG] at hm
 ·omega
end Go.El
namespace Go.Proofs.YtmnnhdegoapfcaaGreatDoor
open Go.RowKit Go.El
set_option maxRecDepth 100000 in
set_option maxHeartbeats 8000000 in
theorem emitCalls_any (HFC : FromC) (t : Tm) (A : Option Addr) (c : Nat) (w : World) (D : Nat → Prop) (ht0 : TmIn D w t A c) (hf : fitT t = true) (g : EnvT w) :
  Calls Tryz.prog 4 #[tmVal t A c] w fun e w' => e = .returned (.bool true) ∧ Ext w w' := by
 have ht := ht0.lt
 have HLV := fun W (x : Ext w W) => Lib.hid (lives17_any W (g.ext x))
 have HLG := fun W (x : Ext w W) => Lib.hid (refLarge_any t A c W _ (ht.ext x) hf)
 have HFR := fun W (x : Ext w W) (hs : szT t ≤ 100000) => Lib.hid (HFC t A c W _ (fun k hk => Nat.lt_of_lt_of_le hk x.size) (ht.ext x) hs)
 have HG := Lib.hid g
 have HSZ : Hid (bigT t = false → szT t ≤ 100000) := Lib.hid (fun h => Nat.le_trans (bigT_no h) (by omega))
 have HMAY : ∀ cl, fromF biF t = some cl → Hid (mayC cl = 0) := fun cl h => Lib.hid (from_may h)
 unfold tmVal at *
 generalize bigT t = bg at *
 generalize fromF biF t = FF at *
 generalize szT t = sz at *
 generalize t.l.length = m at *
 generalize t.s = s at *
 generalize t.n = n at *
 generalize t.k = k at *
 clear ht ht0 g hf
 go_enter Tryz.func4, Tryz.ntmps4
 go_upto_region 1 with fail
 refine wp_abs (fun V => Hid (Blk V w.heap.size 30 #[.int .i64 k, .int .i64 n, .string s, .slice A m c]) ∧ Hid (Ext w V)) ⟨Lib.hid (Blk.new w _ _), Lib.hid ((Ext.refl w).alloc _)⟩ ?_
 rintro V ⟨HB, XR⟩
 have x9 := HB.out.cell
 have HL1 := HLG V XR.out
 clear HLG
 cases bg with
 | true =>
  clear HFR HMAY HSZ
  go_wp2_with (first
   | (go_at_call 11; refine HL1.out.mono ?_; rintro e W1 ⟨rfl, x⟩; have XS := Lib.hid (XR.out.trans x); clear XR x; have XR := XS; clear XS)
   | (go_at_call 8; refine (HLV _ XR.out).out.mono ?_; rintro e W2 ⟨rfl, x⟩; have XS := Lib.hid (XR.out.trans x); clear XR x; have XR := XS; clear XS))
  go_ret
  exact ⟨rfl, XR.out⟩
 | false =>
  have hsz := HSZ.out rfl
  go_upto_region 3 with (go_at_call 11; refine HL1.out.mono ?_; rintro e W1 ⟨rfl, x⟩; have X1 := Lib.hid (XR.out.trans x); have B1 := Lib.hid (HB.out.ext x); clear x)
  clear x9 HB XR HL1 HSZ
  have x9 := B1.out.cell
  have HF1 := HFR W1 X1.out hsz
  clear HFR hsz
  unfold FrPost clC at HF1
  go_upto_region 4 with (go_at_call 12; refine HF1.out.mono ?_; rintro e W2 hfr; (obtain ⟨ef, ⟨k9, n9, s9, A9, m9, c9, rfl⟩, x⟩ | ⟨cl, hA, hc, gA, gc, ef, rfl, hci, x⟩ := hfr))
  ·have XR := Lib.hid (((X1.out.trans x).alloc (.cells zC 34)).alloc (.cells #[.int .i64 k9, .int .i64 n9, .string s9, .slice A9 m9 c9] 30))
   clear ef x HMAY x9 B1 X1 HF1
   go_wp2_with (go_at_call 8; refine (HLV _ XR.out).out.mono ?_; rintro e W3 ⟨rfl, x⟩; have XS := Lib.hid (XR.out.trans x); clear XR x; have XR := XS; clear XS)
   go_ret
   exact ⟨rfl, XR.out⟩
  ·have HM := HMAY cl ef
   have HB2 := Lib.hid (blk2c W2 (clC cl hA hc gA gc) zT)
   have HCI := Lib.hid ((hci.ext ((Ext.refl _).alloc (.cells (clC cl hA hc gA gc) 34))).ext ((Ext.refl _).alloc (.cells zT 30)))
   have HX2 := Lib.hid (((X1.out.trans x).alloc (.cells (clC cl hA hc gA gc) 34)).alloc (.cells zT 30))
   unfold clC at HB2 HCI HX2
   refine wp_abs (fun V => Hid (Blk V W2.heap.size 34 #[.int .i64 cl.h.k, .int .i64 cl.h.n, .string cl.h.s, .slice hA cl.h.l.length hc, .slice gA cl.gs.length gc, .int .i64 cl.vars]) ∧ Hid (ClIn (fun b => b < W2.heap.size) V cl hA hc gA gc) ∧ Hid (Ext w V)) ⟨HB2, HCI, HX2⟩ ?_
   generalize W2.heap.size = gb at *
   clear HB2 HCI HX2 hci x ef HMAY x9 B1 X1 HF1
   rintro V2 ⟨HB, HC, XR⟩
   have HCM := fun W (x : Ext V2 W) => Lib.hid (mCompile cl hA hc gA gc _ W (HC.out.ext x) (cls_sz HM.out))
   have hcr := @comp_calls cl
   have hcl := comp_len' cl
   have hct := comp_two HM.out
   unfold CmPost clC at HCM
   generalize (compF cl).1 = code at *
   generalize (compF cl).2 = er at *
   have HCR := Lib.hid hcr
   clear hcr
   have XV := Lib.hid (Ext.refl V2)
   go_upto_region 6 with (go_at_call 8; refine (HLV _ XR.out).out.mono ?_; rintro e W3 ⟨rfl, x⟩; have XW := Lib.hid (XV.out.trans x); have XS := Lib.hid (XR.out.trans x); clear XR XV x; have XR := XS; clear XS)
   have x9 := (HB.out.ext XW.out).cell
   rcases hct with hct | hct
   ·subst hct
    have hcr := HCR.out rfl
    go_upto_region 9 with (go_at_call 13; refine (HCM _ XW.out).out.mono ?_; rintro e W4 ⟨Al, kl, rfl, ho, _, x⟩; have O4 := Lib.hid (El.Src.of_own ho); have X4 := Lib.hid (XR.out.trans x); have XW4 := Lib.hid (XW.out.trans x); clear ho x)
    clear x9 HCM HLV HCR
    have HGS := Lib.hid (HC.out.gs.ext XW4.out)
    have HB4 := Lib.hid (HB.out.ext XW4.out)
    have hgl := (may_parts HM.out).2.2
    go_wp2_with fail
    go_loopw [8, 9] (fun av iv wr => ∃ (j a : Nat), j ≤ code.length ∧ a ≤ cl.gs.length ∧ iv = .int .i64 j ∧ av = .int .i64 a ∧ Hid (matchG (cl.gs.drop a) ((code.drop j).filter isCall) = true) ∧ Hid (Ext W4 wr)) (fun _ iv _ => code.length - (intOf iv).toNat)
    case atStart => exact ⟨0, 0, Nat.zero_le _, Nat.zero_le _, rfl, rfl, Lib.hid hcr, Lib.hid (Ext.refl _)⟩
    case round =>
     obtain ⟨j, a, hj, ha, rfl, rfl, HMT, HX⟩ := hrel
     have x9 := (HB4.out.ext HX.out).cell
     by_cases hlt : j < code.length
     ·have ho : code[j]? = some code[j] := List.getElem?_eq_getElem hlt
      obtain ⟨b, off, hA1, d0, d1, d2, d3, d4⟩ := src_ins (O4.out.ext HX.out) hlt
      generalize code[j] = i at *
      have HNM := fun W => Lib.hid (rName_any i.op W)
      have N21 := Lib.hid (nm_21 i.op)
      have N22 := Lib.hid (nm_22 i.op)
      have N23 := Lib.hid (nm_23 i.op)
      have N24 := Lib.hid (nm_24 i.op)
      have N28 := Lib.hid (nm_28 i.op)
      have N29 := Lib.hid (nm_29 i.op)
      generalize mkB (nameF i.op) = T at *
      have hltz : (j : Int) < (code.length : Int) := by omega
      cases hic : isCall i
      ·have HN := Lib.hid (mat_skip ho hic HMT.out)
       obtain ⟨m1, m2, m3, m4, m5, m6⟩ := call_not hic
       have q21 : (T.toList == [99, 97, 108, 108]) = false := by rw [N21.out]; exact decide_eq_false (by omega)
       have p21 : (T.toList != [99, 97, 108, 108]) = true := by rw [bne, q21]; rfl
       have q22 : (T.toList == [101, 120, 101, 99]) = false := by rw [N22.out]; exact decide_eq_false (by omega)
       have p22 : (T.toList != [101, 120, 101, 99]) = true := by rw [bne, q22]; rfl
       have q23 : (T.toList == [98, 111, 100, 121]) = false := by rw [N23.out]; exact decide_eq_false (by omega)
       have p23 : (T.toList != [98, 111, 100, 121]) = true := by rw [bne, q23]; rfl
       have q24 : (T.toList == [103, 111, 97, 108]) = false := by rw [N24.out]; exact decide_eq_false (by omega)
       have p24 : (T.toList != [103, 111, 97, 108]) = true := by rw [bne, q24]; rfl
       have q28 : (T.toList == [110, 101, 99, 107]) = false := by rw [N28.out]; exact decide_eq_false (by omega)
       have p28 : (T.toList != [110, 101, 99, 107]) = true := by rw [bne, q28]; rfl
       have q29 : (T.toList == [99, 117, 116]) = false := by rw [N29.out]; exact decide_eq_false (by omega)
       have p29 : (T.toList != [99, 117, 116]) = true := by rw [bne, q29]; rfl
       clear ho hic N21 N22 N23 N24 N28 N29 m1 m2 m3 m4 m5 m6
       subst hA1
       go_wp2_with (go_at_call 14; refine (HNM _).out.mono ?_; rintro e W5 ⟨rfl, x⟩; have X5 := Lib.hid (HX.out.trans x); clear x)
       go_roundw
       case rel => exact ⟨j + 1, a, hlt, ha, by go_num, rfl, HN, X5⟩
       case measure => simp [intOf]; omega
      ·obtain ⟨g, hga, hfg, hmt⟩ := mat_take ho hic HMT.out
       have HN := Lib.hid hmt
       have hal : a < cl.gs.length := (List.getElem?_eq_some_iff.1 hga).1
       have q0 : ¬ (cl.gs.length : Int) ≤ (a : Int) := by omega
       have halz : (a : Int) < (cl.gs.length : Int) := by omega
       obtain ⟨gk, gt⟩ := g
       obtain ⟨gb2, goff, gA', gc', hgA, _, _, e0, e1, e2, e3, e4⟩ := HGS.out.at_ a gk gt hga
       have hop := call_six hic
       unfold forG at hfg
       simp only at hfg
       clear ho hic hmt hga
       subst hA1
       subst hgA
       have HC5 : ∀ W, Ext wr W → Hid ((∀ z, W.cell? ⟨gb, z, none⟩ = #[.int .i64 cl.h.k, .int .i64 cl.h.n, .string cl.h.s, .slice hA cl.h.l.length hc, .slice (some ⟨gb2, goff, none⟩) cl.gs.length gc, .int .i64 cl.vars][z]?) ∧ W.cell? ⟨gb2, goff + a * 5, none⟩ = some (.int .i64 gk) ∧ W.cell? ⟨gb2, goff + a * 5 + 1, none⟩ = some (.int .i64 gt.k) ∧ W.cell? ⟨gb2, goff + a * 5 + 2, none⟩ = some (.int .i64 gt.n) ∧ W.cell? ⟨gb2, goff + a * 5 + 3, none⟩ = some (.string gt.s) ∧ W.cell? ⟨gb2, goff + a * 5 + 4, none⟩ = some (.slice gA' gt.l.length gc') ∧ W.cell? ⟨b, off + j * 5 + 1, none⟩ = some (.string i.s) ∧ W.cell? ⟨b, off + j * 5 + 2, none⟩ = some (.int .i64 i.n)) := fun W x =>
        Lib.hid ⟨fun z => ((HB4.out.ext HX.out).ext x).cell z, (HX.out.trans x).cell e0, (HX.out.trans x).cell e1, (HX.out.trans x).cell e2, (HX.out.trans x).cell e3, (HX.out.trans x).cell e4, x.cell d1, x.cell d2⟩
       by_cases k2 : gk = 2
       ·subst k2
        rw [if_pos rfl] at hfg
        simp only [Bool.or_eq_true, beq_iff_eq] at hfg
        rcases hfg with hfg | hfg
        ·have q21 : (T.toList == [99, 97, 108, 108]) = false := by rw [N21.out]; exact decide_eq_false (by omega)
         have p21 : (T.toList != [99, 97, 108, 108]) = true := by rw [bne, q21]; rfl
         have q22 : (T.toList == [101, 120, 101, 99]) = false := by rw [N22.out]; exact decide_eq_false (by omega)
         have p22 : (T.toList != [101, 120, 101, 99]) = true := by rw [bne, q22]; rfl
         have q23 : (T.toList == [98, 111, 100, 121]) = false := by rw [N23.out]; exact decide_eq_false (by omega)
         have p23 : (T.toList != [98, 111, 100, 121]) = true := by rw [bne, q23]; rfl
         have q24 : (T.toList == [103, 111, 97, 108]) = false := by rw [N24.out]; exact decide_eq_false (by omega)
         have p24 : (T.toList != [103, 111, 97, 108]) = true := by rw [bne, q24]; rfl
         have q28 : (T.toList == [110, 101, 99, 107]) = true := by rw [N28.out]; exact decide_eq_true (by omega)
         have p28 : (T.toList != [110, 101, 99, 107]) = false := by rw [bne, q28]; rfl
         have q29 : (T.toList == [99, 117, 116]) = false := by rw [N29.out]; exact decide_eq_false (by omega)
         have p29 : (T.toList != [99, 117, 116]) = true := by rw [bne, q29]; rfl
         clear N21 N22 N23 N24 N28 N29 hop hfg
         go_wp2_with (go_at_call 14; refine (HNM _).out.mono ?_; rintro e W5 ⟨rfl, x⟩; have X5 := Lib.hid (HX.out.trans x); obtain ⟨z9, f0, f1, f2, f3, f4, f5, f6⟩ := (HC5 _ x).out; have X6 := Lib.hid (X5.out.alloc (.cells #[.int .i64 2, .int .i64 gt.k, .int .i64 gt.n, .string gt.s, .slice gA' gt.l.length gc'] 42)); clear x)
         go_roundw
         case rel => exact ⟨j + 1, a + 1, hlt, hal, by go_num, by go_num, HN, X6⟩
         case measure => simp [intOf]; omega
        ·have q21 : (T.toList == [99, 97, 108, 108]) = false := by rw [N21.out]; exact decide_eq_false (by omega)
         have p21 : (T.toList != [99, 97, 108, 108]) = true := by rw [bne, q21]; rfl
         have q22 : (T.toList == [101, 120, 101, 99]) = false := by rw [N22.out]; exact decide_eq_false (by omega)
         have p22 : (T.toList != [101, 120, 101, 99]) = true := by rw [bne, q22]; rfl
         have q23 : (T.toList == [98, 111, 100, 121]) = false := by rw [N23.out]; exact decide_eq_false (by omega)
         have p23 : (T.toList != [98, 111, 100, 121]) = true := by rw [bne, q23]; rfl
         have q24 : (T.toList == [103, 111, 97, 108]) = false := by rw [N24.out]; exact decide_eq_false (by omega)
         have p24 : (T.toList != [103, 111, 97, 108]) = true := by rw [bne, q24]; rfl
         have q28 : (T.toList == [110, 101, 99, 107]) = false := by rw [N28.out]; exact decide_eq_false (by omega)
         have p28 : (T.toList != [110, 101, 99, 107]) = true := by rw [bne, q28]; rfl
         have q29 : (T.toList == [99, 117, 116]) = true := by rw [N29.out]; exact decide_eq_true (by omega)
         have p29 : (T.toList != [99, 117, 116]) = false := by rw [bne, q29]; rfl
         clear N21 N22 N23 N24 N28 N29 hop hfg
         go_wp2_with (go_at_call 14; refine (HNM _).out.mono ?_; rintro e W5 ⟨rfl, x⟩; have X5 := Lib.hid (HX.out.trans x); obtain ⟨z9, f0, f1, f2, f3, f4, f5, f6⟩ := (HC5 _ x).out; have X6 := Lib.hid (X5.out.alloc (.cells #[.int .i64 2, .int .i64 gt.k, .int .i64 gt.n, .string gt.s, .slice gA' gt.l.length gc'] 42)); clear x)
         go_roundw
         case rel => exact ⟨j + 1, a + 1, hlt, hal, by go_num, by go_num, HN, X6⟩
         case measure => simp [intOf]; omega
       have q2 : (gk == 2) = false := by simpa using k2
       rw [if_neg k2] at hfg
       clear k2
       by_cases k1 : gk = 1
       ·subst k1
        rw [if_pos rfl] at hfg
        simp only [Bool.and_eq_true, Bool.or_eq_true, beq_iff_eq, decide_eq_true_eq] at hfg
        obtain ⟨⟨hfo, hfs⟩, hfn⟩ := hfg
        rw [hfs, hfn] at HC5
        clear hfs hfn d1 d2 d3 d4
        rcases hfo with hfg | hfg
        ·have q21 : (T.toList == [99, 97, 108, 108]) = true := by rw [N21.out]; exact decide_eq_true (by omega)
         have p21 : (T.toList != [99, 97, 108, 108]) = false := by rw [bne, q21]; rfl
         have q22 : (T.toList == [101, 120, 101, 99]) = false := by rw [N22.out]; exact decide_eq_false (by omega)
         have p22 : (T.toList != [101, 120, 101, 99]) = true := by rw [bne, q22]; rfl
         have q23 : (T.toList == [98, 111, 100, 121]) = false := by rw [N23.out]; exact decide_eq_false (by omega)
         have p23 : (T.toList != [98, 111, 100, 121]) = true := by rw [bne, q23]; rfl
         have q24 : (T.toList == [103, 111, 97, 108]) = false := by rw [N24.out]; exact decide_eq_false (by omega)
         have p24 : (T.toList != [103, 111, 97, 108]) = true := by rw [bne, q24]; rfl
         have q28 : (T.toList == [110, 101, 99, 107]) = false := by rw [N28.out]; exact decide_eq_false (by omega)
         have p28 : (T.toList != [110, 101, 99, 107]) = true := by rw [bne, q28]; rfl
         have q29 : (T.toList == [99, 117, 116]) = false := by rw [N29.out]; exact decide_eq_false (by omega)
         have p29 : (T.toList != [99, 117, 116]) = true := by rw [bne, q29]; rfl
         clear N21 N22 N23 N24 N28 N29 hop hfg
         go_upto_region 32 with (go_at_call 14; refine (HNM _).out.mono ?_; rintro e W5 ⟨rfl, x⟩; have X5 := Lib.hid (HX.out.trans x); obtain ⟨z9, f0, f1, f2, f3, f4, f5, f6⟩ := (HC5 _ x).out; have X6 := Lib.hid (X5.out.alloc (.cells #[.int .i64 1, .int .i64 gt.k, .int .i64 gt.n, .string gt.s, .slice gA' gt.l.length gc'] 42)); clear x)
         refine wp_abs (fun V => V.cell? ⟨b, off + j * 5 + 1, none⟩ = some (.string gt.s) ∧ V.cell? ⟨b, off + j * 5 + 2, none⟩ = some (.int .i64 gt.l.length) ∧ Blk V W5.heap.size 42 #[.int .i64 1, .int .i64 gt.k, .int .i64 gt.n, .string gt.s, .slice gA' gt.l.length gc'] ∧ Hid (Ext W4 V)) ⟨((Ext.refl W5).alloc _).cell f5, ((Ext.refl W5).alloc _).cell f6, Blk.new _ _ _, X6⟩ ?_
         clear z9 f0 f1 f2 f3 f4 f5 f6 X5 X6
         rintro V ⟨f5, f6, hbk, X6⟩
         have z9 := hbk.cell
         clear hbk
         go_quiet (fail)
         go_wp2_with fail
         go_roundw
         case rel => exact ⟨j + 1, a + 1, hlt, hal, by go_num, by go_num, HN, Lib.hid (X6.out.drewN _)⟩
         case measure => simp [intOf]; omega
        ·have q21 : (T.toList == [99, 97, 108, 108]) = false := by rw [N21.out]; exact decide_eq_false (by omega)
         have p21 : (T.toList != [99, 97, 108, 108]) = true := by rw [bne, q21]; rfl
         have q22 : (T.toList == [101, 120, 101, 99]) = true := by rw [N22.out]; exact decide_eq_true (by omega)
         have p22 : (T.toList != [101, 120, 101, 99]) = false := by rw [bne, q22]; rfl
         have q23 : (T.toList == [98, 111, 100, 121]) = false := by rw [N23.out]; exact decide_eq_false (by omega)
         have p23 : (T.toList != [98, 111, 100, 121]) = true := by rw [bne, q23]; rfl
         have q24 : (T.toList == [103, 111, 97, 108]) = false := by rw [N24.out]; exact decide_eq_false (by omega)
         have p24 : (T.toList != [103, 111, 97, 108]) = true := by rw [bne, q24]; rfl
         have q28 : (T.toList == [110, 101, 99, 107]) = false := by rw [N28.out]; exact decide_eq_false (by omega)
         have p28 : (T.toList != [110, 101, 99, 107]) = true := by rw [bne, q28]; rfl
         have q29 : (T.toList == [99, 117, 116]) = false := by rw [N29.out]; exact decide_eq_false (by omega)
         have p29 : (T.toList != [99, 117, 116]) = true := by rw [bne, q29]; rfl
         clear N21 N22 N23 N24 N28 N29 hop hfg
         go_upto_region 32 with (go_at_call 14; refine (HNM _).out.mono ?_; rintro e W5 ⟨rfl, x⟩; have X5 := Lib.hid (HX.out.trans x); obtain ⟨z9, f0, f1, f2, f3, f4, f5, f6⟩ := (HC5 _ x).out; have X6 := Lib.hid (X5.out.alloc (.cells #[.int .i64 1, .int .i64 gt.k, .int .i64 gt.n, .string gt.s, .slice gA' gt.l.length gc'] 42)); clear x)
         refine wp_abs (fun V => V.cell? ⟨b, off + j * 5 + 1, none⟩ = some (.string gt.s) ∧ V.cell? ⟨b, off + j * 5 + 2, none⟩ = some (.int .i64 gt.l.length) ∧ Blk V W5.heap.size 42 #[.int .i64 1, .int .i64 gt.k, .int .i64 gt.n, .string gt.s, .slice gA' gt.l.length gc'] ∧ Hid (Ext W4 V)) ⟨((Ext.refl W5).alloc _).cell f5, ((Ext.refl W5).alloc _).cell f6, Blk.new _ _ _, X6⟩ ?_
         clear z9 f0 f1 f2 f3 f4 f5 f6 X5 X6
         rintro V ⟨f5, f6, hbk, X6⟩
         have z9 := hbk.cell
         clear hbk
         go_quiet (fail)
         go_wp2_with fail
         go_roundw
         case rel => exact ⟨j + 1, a + 1, hlt, hal, by go_num, by go_num, HN, Lib.hid (X6.out.drewN _)⟩
         case measure => simp [intOf]; omega
       have q1 : (gk == 1) = false := by simpa using k1
       rw [if_neg k1] at hfg
       clear k1
       simp only [Bool.or_eq_true, beq_iff_eq] at hfg
       rcases hfg with hfg | hfg
       ·have q21 : (T.toList == [99, 97, 108, 108]) = false := by rw [N21.out]; exact decide_eq_false (by omega)
        have p21 : (T.toList != [99, 97, 108, 108]) = true := by rw [bne, q21]; rfl
        have q22 : (T.toList == [101, 120, 101, 99]) = false := by rw [N22.out]; exact decide_eq_false (by omega)
        have p22 : (T.toList != [101, 120, 101, 99]) = true := by rw [bne, q22]; rfl
        have q23 : (T.toList == [98, 111, 100, 121]) = true := by rw [N23.out]; exact decide_eq_true (by omega)
        have p23 : (T.toList != [98, 111, 100, 121]) = false := by rw [bne, q23]; rfl
        have q24 : (T.toList == [103, 111, 97, 108]) = false := by rw [N24.out]; exact decide_eq_false (by omega)
        have p24 : (T.toList != [103, 111, 97, 108]) = true := by rw [bne, q24]; rfl
        have q28 : (T.toList == [110, 101, 99, 107]) = false := by rw [N28.out]; exact decide_eq_false (by omega)
        have p28 : (T.toList != [110, 101, 99, 107]) = true := by rw [bne, q28]; rfl
        have q29 : (T.toList == [99, 117, 116]) = false := by rw [N29.out]; exact decide_eq_false (by omega)
        have p29 : (T.toList != [99, 117, 116]) = true := by rw [bne, q29]; rfl
        clear N21 N22 N23 N24 N28 N29 hop hfg
        go_wp2_with (go_at_call 14; refine (HNM _).out.mono ?_; rintro e W5 ⟨rfl, x⟩; have X5 := Lib.hid (HX.out.trans x); obtain ⟨z9, f0, f1, f2, f3, f4, f5, f6⟩ := (HC5 _ x).out; have X6 := Lib.hid (X5.out.alloc (.cells #[.int .i64 gk, .int .i64 gt.k, .int .i64 gt.n, .string gt.s, .slice gA' gt.l.length gc'] 42)); clear x)
        go_roundw
        case rel => exact ⟨j + 1, a + 1, hlt, hal, by go_num, by go_num, HN, X6⟩
        case measure => simp [intOf]; omega
       ·have q21 : (T.toList == [99, 97, 108, 108]) = false := by rw [N21.out]; exact decide_eq_false (by omega)
        have p21 : (T.toList != [99, 97, 108, 108]) = true := by rw [bne, q21]; rfl
        have q22 : (T.toList == [101, 120, 101, 99]) = false := by rw [N22.out]; exact decide_eq_false (by omega)
        have p22 : (T.toList != [101, 120, 101, 99]) = true := by rw [bne, q22]; rfl
        have q23 : (T.toList == [98, 111, 100, 121]) = false := by rw [N23.out]; exact decide_eq_false (by omega)
        have p23 : (T.toList != [98, 111, 100, 121]) = true := by rw [bne, q23]; rfl
        have q24 : (T.toList == [103, 111, 97, 108]) = true := by rw [N24.out]; exact decide_eq_true (by omega)
        have p24 : (T.toList != [103, 111, 97, 108]) = false := by rw [bne, q24]; rfl
        have q28 : (T.toList == [110, 101, 99, 107]) = false := by rw [N28.out]; exact decide_eq_false (by omega)
        have p28 : (T.toList != [110, 101, 99, 107]) = true := by rw [bne, q28]; rfl
        have q29 : (T.toList == [99, 117, 116]) = false := by rw [N29.out]; exact decide_eq_false (by omega)
        have p29 : (T.toList != [99, 117, 116]) = true := by rw [bne, q29]; rfl
        clear N21 N22 N23 N24 N28 N29 hop hfg
        go_wp2_with (go_at_call 14; refine (HNM _).out.mono ?_; rintro e W5 ⟨rfl, x⟩; have X5 := Lib.hid (HX.out.trans x); obtain ⟨z9, f0, f1, f2, f3, f4, f5, f6⟩ := (HC5 _ x).out; have X6 := Lib.hid (X5.out.alloc (.cells #[.int .i64 gk, .int .i64 gt.k, .int .i64 gt.n, .string gt.s, .slice gA' gt.l.length gc'] 42)); clear x)
        go_roundw
        case rel => exact ⟨j + 1, a + 1, hlt, hal, by go_num, by go_num, HN, X6⟩
        case measure => simp [intOf]; omega
     ·obtain rfl : j = code.length := by omega
      have hme := HMT.out
      rw [List.drop_length] at hme
      obtain rfl := mat_end ha hme
      have XF := Lib.hid (X4.out.trans HX.out)
      go_wp2_with fail
      go_ret
      exact ⟨rfl, XF.out⟩
   ·subst hct
    clear HCR
    go_wp2_with (go_at_call 13; refine (HCM _ XW.out).out.mono ?_; rintro e W4 ⟨Al, kl, rfl, ho, _, x⟩; have X4 := Lib.hid (XR.out.trans x); clear ho x)
    go_ret
    exact ⟨rfl, X4.out⟩
end Go.Proofs.YtmnnhdegoapfcaaGreatDoor
