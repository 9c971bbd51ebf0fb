/- Layer 14, the reference: the walk of From. -/
import Derived.Test.YtmnnhdegoapfcaaGreatDoorP26
import Derived.Test.YtmnnhdegoapfcaaGreatDoorP01
import Derived.Test.YtmnnhdegoapfcaaGreatDoorP10
import Derived.Test.YtmnnhdegoapfcaaGreatDoorP11
import Derived.Test.YtmnnhdegoapfcaaGreatDoorP02
import Derived.IntWalk
import Derived.Test.YtmnnhdegoapfcaaGreatDoorP03
import Derived.Deep.RegionLaw
import Derived.Laws.OwnMore
import Derived.OwnWalk
import Derived.Test.YtmnnhdegoapfcaaGreatDoorP07
namespace Go.Proofs.YtmnnhdegoapfcaaGreatDoor
open Go.RowKit Go.El
set_option maxRecDepth 100000 in
set_option maxHeartbeats 8000000 in
theorem refFrom_any (t : Tm) (A : Option Addr) (c : Nat) (w : World) (D : Nat → Prop) (_ : ∀ k, D k → k < w.heap.size) (ht : TmIn D w t A c) (hbig : szT t ≤ 100000) :
  Calls Tryz.prog 12 #[tmVal t A c] w (FrPost w (fromF biF t)) := by
 have HCK := fun (W : World) (x : Ext w W) => Lib.hid (refCheck_any t A c W D (ht.ext x) (by omega))
 have HRN := fun (W : World) (x : Ext w W) => Lib.hid (refRename_any t A c W D (by omega) (ht.ext x))
 have HF0 : Hid (chkT t ≠ 0 → fromF biF t = none) := Lib.hid (fun h => by unfold fromF; rw [if_pos h])
 have HF1 : Hid (chkT t = 0 → fromF biF t = if 64 < (flatN (szT (bodyT (rnT t []))) (bodyT (rnT t []))).length then none else if (headT (rnT t [])).k = 1 then none else if (headT (rnT t [])).k = 2 then none else if biF (headT (rnT t [])).s (headT (rnT t [])).l.length = true then none else (bodyF (bodyT (rnT t []))).map fun gs => ⟨headT (rnT t []), gs, (vsT t []).length⟩) := Lib.hid (fun h => by unfold fromF; rw [if_neg (by simpa using h)])
 have HSZ : Hid (chkT t = 0 → szT (rnT t []) ≤ 100000) := Lib.hid (fun h => by rw [(rnT_size t [] (mayT_iff.1 (may_chk.2 h)).1).1]; exact hbig)
 unfold tmVal at HCK HRN ⊢
 generalize fromF biF t = RR at *
 generalize chkT t = ck at *
 generalize rnT t [] = u at *
 generalize (vsT t []).length = nv at *
 generalize t.l.length = m at *
 generalize t.s = s at *
 generalize t.n = n at *
 generalize t.k = k at *
 clear ht
 go_enter Tryz.func12, Tryz.ntmps12
 go_upto_region 1 with fail
 refine wp_abs (fun V => Hid (Blk V w.heap.size 30 #[.int .i64 k, .int .i64 n, .string s, .slice A m c]) ∧ Hid (Blk V (w.heap.size + 1) 34 zC) ∧ Hid (Blk V (w.heap.size + 2) 30 zT) ∧ Hid (Ext w V)) ⟨Lib.hid (fr_start w _).1, Lib.hid (fr_start w _).2.1, Lib.hid (fr_start w _).2.2.1, Lib.hid (fr_start w _).2.2.2⟩ ?_
 rintro V ⟨HB, HY, HZ, HX⟩
 have x9 := HB.out.cell
 have HC1 := HCK V HX.out
 have hne : ¬ w.heap.size + 1 = w.heap.size + 2 := by omega
 have hne2 : ¬ w.heap.size + 2 = w.heap.size + 1 := by omega
 by_cases hck : ck = 0
 case' neg =>
  have q1 : (ck != 0) = true := by simpa using hck
  have HR := Lib.hid (HF0.out hck)
  clear hck HF0 HF1
  go_wp2_with (first | (go_at_call 15; refine HC1.out.mono ?_; rintro e W1 ⟨rfl, x⟩; have X1 := Lib.hid (HX.out.trans x); have Z1 := Lib.hid (HZ.out.ext x); have Y1 := Lib.hid (HY.out.ext x); clear x) | (go_at_call 32; refine (refBSize_any _).mono ?_; rintro e W9 ⟨k9, n9, s9, A9, m9, c9, rfl, x⟩; have Y9 := Lib.hid (Y1.out.ext x); have Z9 := Lib.hid (Z1.out.ext x); have X9 := Lib.hid (X1.out.trans x); have yc := Y9.out.cell; have yf := Y9.out.frozen; have zc := Z9.out.cell; have zf := Z9.out.frozen; clear x))
  obtain ⟨ka, kb, kx, _⟩ := stR_all Y9.out Z9.out X9.out 0 0 ⟨#[]⟩ none 0 0 none 0 0 0 k9 n9 s9 A9 m9 c9
  unfold stR st4 st6 at ka kb kx
  have kc := ka.cell
  have kd := kb.cell
  exact bodyPost_ret (v := .tuple #[.agg #[.int .i64 0, .int .i64 0, .string ⟨#[]⟩, .slice none 0 0, .slice none 0 0, .int .i64 0], .agg #[.int .i64 k9, .int .i64 n9, .string s9, .slice A9 m9 c9], .bool false]) (by simp [results, Tryz.results12, go_sem, kc, kd]) rfl (.inl ⟨HR.out, ⟨_, _, _, _, _, _, rfl⟩, kx⟩)
 subst hck
 go_upto_region 3 with (go_at_call 15; refine HC1.out.mono ?_; rintro e W1 ⟨rfl, x⟩; have X1 := Lib.hid (HX.out.trans x); have Z1 := Lib.hid (HZ.out.ext x); have Y1 := Lib.hid (HY.out.ext x); have B1 := Lib.hid (HB.out.ext x); clear x)
 refine wp_abs (fun V => Hid (Blk V w.heap.size 30 #[.int .i64 k, .int .i64 n, .string s, .slice A m c]) ∧ Hid (Blk V (w.heap.size + 1) 34 zC) ∧ Hid (Blk V (w.heap.size + 2) 30 zT) ∧ Hid (Ext w V)) ⟨B1, Y1, Z1, X1⟩ ?_
 clear x9 HC1 HCK HB HY HZ HX B1 Y1 Z1 X1
 rintro V1 ⟨HB, HY, HZ, HX⟩
 have x9 := HB.out.cell
 have HR1 := HRN V1 HX.out
 have hv1 := HZ.out.lt
 unfold tmVal at HR1
 clear HRN HF0
 go_upto_region 4 with (go_at_call 16; refine HR1.out.mono ?_; rintro e W2 ⟨Au, cu, rfl, t2, x2⟩; have T2 := Lib.hid t2; have X2 := Lib.hid x2; clear t2 x2)
 refine wp_abs (fun V => Hid (Blk V W2.heap.size 30 #[.int .i64 u.k, .int .i64 u.n, .string u.s, .slice Au u.l.length cu]) ∧ Hid (Blk V (w.heap.size + 1) 34 zC) ∧ Hid (Blk V (w.heap.size + 2) 30 zT) ∧ Hid (Ext w V) ∧ Hid (TmIn (fun k => w.heap.size + 3 ≤ k ∧ k < V.heap.size) V u Au cu)) ⟨Lib.hid (Blk.new W2 _ _), Lib.hid ((HY.out.ext X2.out).alloc _), Lib.hid ((HZ.out.ext X2.out).alloc _), Lib.hid ((HX.out.trans X2.out).alloc _), Lib.hid ((T2.out.ext ((Ext.refl _).alloc _)).mono (fun k hk => ⟨by omega, by rw [World.size_alloc]; omega⟩))⟩ ?_
 have hub : w.heap.size + 3 ≤ W2.heap.size := Nat.le_trans hv1 X2.out.size
 generalize W2.heap.size = ub at *
 clear x9 HR1 hv1 HB HY HZ HX T2 X2
 rintro V2 ⟨HB, HY, HZ, HX, HT⟩
 have x9 := HB.out.cell
 have hl2 := HB.out.lt
 have HCC := fun W => Lib.hid (refCompI_any u Au cu nckB 2 W)
 unfold tmVal nckB at HCC
 go_cut [7, 8] (fun hv bv wx => ∃ hb bb, hv = .pointer (some ⟨hb, 0, none⟩) ∧ bv = .pointer (some ⟨bb, 0, none⟩) ∧ Hid (FrBx w wx hb bb ub (u, Au, cu) (aT, none, 0) (u, Au, cu)))
 case first =>
  clear HF1 HSZ HCC
  have HIN : Hid (FrIn w V2 ub u Au cu) := Lib.hid ⟨HB.out, HY.out, HZ.out, HX.out, HT.out, hub⟩
  go_region_law ((go_simp; go_at_call 33; refine (refAtom_any _ _).mono ?_; rintro e W3 ⟨rfl, x⟩; have X3 := Lib.hid x; (first | (obtain ⟨j1, j2, j3⟩ := al_two x; have c1 := j1.cell; have c2 := j2.cell; have f1 := j1.frozen; have f2 := j2.frozen; have J1 := Lib.hid j1; have J2 := Lib.hid j2; have J3 := Lib.hid j3; have u9 := (HB.out.ext j3).cell; have hl3 := (HB.out.ext j3).lt; clear j1 j2 j3 x) | (obtain ⟨j1, j2, j3⟩ := al_one x; have c1 := j1.cell; have f1 := j1.frozen; have g1 : ¬ V2.heap.size = W3.heap.size := Nat.ne_of_lt j2; have g2 : ¬ W3.heap.size = V2.heap.size := Nat.ne_of_gt j2; have J1 := Lib.hid j1; have J3 := Lib.hid j3; have u9 := (HB.out.ext j3).cell; have hl3 := (HB.out.ext j3).lt; clear j1 j3 x) | (have J3 := Lib.hid ((Ext.refl V2).drew.trans x); have u9 := (HB.out.ext J3.out).cell; have hl3 := (HB.out.ext J3.out).lt; clear x))))
  all_goals
   go_wp2_with fail
   go_meet
   first
    | (with_reducible exact ⟨_, _, rfl, rfl, fr_s5 HIN.out J1.out J2.out J3.out⟩)
    | (with_reducible exact ⟨_, _, rfl, rfl, fr_s6 HIN.out J1.out J2.out J3.out⟩)
    | (with_reducible exact ⟨_, _, rfl, rfl, fr_s3 HIN.out J1.out J3.out g1⟩)
    | (with_reducible exact ⟨_, _, rfl, rfl, fr_s4 HIN.out J1.out J3.out g2⟩)
    | (with_reducible exact ⟨_, _, rfl, rfl, fr_s1 HIN.out J3.out⟩)
    | (with_reducible exact ⟨_, _, rfl, rfl, fr_s2 HIN.out J3.out⟩)
 case rest =>
  obtain ⟨hb, bb, rfl, rfl, HA⟩ := hcut
  obtain ⟨W4, rfl⟩ : ∃ W4 : World, W4 = wc := ⟨_, rfl⟩
  clear x9 hl2 HB HY HZ HX HT hub hne hne2
  have x9 := HA.out.uk.cell
  have hhT : headT u = if isC u nckB 2 = true then u.l.getD 0 tm0 else u := rfl
  have hbT : bodyT u = if isC u nckB 2 = true then u.l.getD 1 tm0 else aT := rfl
  have HHT := Lib.hid hhT
  have HBT := Lib.hid hbT
  clear hhT hbT
  have hgc : isC u nckB 2 = true → ∃ a b, u.l = [a, b] ∧ u.l.getD 0 tm0 = a ∧ u.l.getD 1 tm0 = b ∧ u.l[0]? = some a ∧ u.l[1]? = some b := isC_get
  have HGC := Lib.hid hgc
  clear hgc
  unfold nckB at HHT HBT HGC
  generalize isC u ⟨#[58, 45]⟩ 2 = cb at *
  go_upto_if 25 with (go_at_call 34; refine (HCC _).out.mono ?_; rintro e W5 ⟨rfl, x⟩; have A5 := Lib.hid (HA.out.go x); clear x)
  clear x9
  go_cut [] (fun wx => ∃ (h b : TmP), Hid (FrBx w wx hb bb ub h b (u, Au, cu)) ∧ Hid (h.1 = headT u ∧ b.1 = bodyT u))
  case first =>
   clear HF1 HSZ HCC HA
   cases cb with
   | true =>
    obtain ⟨a, b, hl, ha, hb2, g0, g1⟩ := HGC.out rfl
    obtain ⟨ba, oa, A1, c1, he1, hd1, h1, p0, p1, p2, p3⟩ := A5.out.ut.child (j := 0) g0
    obtain ⟨bb2, ob, A2, c2, he2, hd2, h2, q0, q1, q2, q3⟩ := A5.out.ut.child (j := 1) g1
    simp only at he1 he2
    subst he1
    injection he2 with he2
    injection he2 with he21 he22 he23
    subst he21
    subst he22
    rw [if_pos rfl, ha] at HHT
    rw [if_pos rfl, hb2] at HBT
    have P5a := Lib.hid (A5.out.put (h2 := (a, A1, c1)) (b2 := (b, A2, c2)) h1 h2)
    unfold st4 at P5a
    have P5 := Lib.hid (P5a.out.go ((Ext.refl _).drew))
    dsimp only at P5 P5a
    have hlen : u.l.length = 2 := by rw [hl]; rfl
    have x9 := A5.out.uk.cell
    simp only [hlen] at x9
    have w0 : W5.cell? ⟨ba, oa, none⟩ = some (.int .i64 a.k) := by simpa using p0
    have w1 : W5.cell? ⟨ba, oa + 1, none⟩ = some (.int .i64 a.n) := by simpa using p1
    have w2 : W5.cell? ⟨ba, oa + 2, none⟩ = some (.string a.s) := by simpa using p2
    have w3 : W5.cell? ⟨ba, oa + 3, none⟩ = some (.slice A1 a.l.length c1) := by simpa using p3
    have w4 : W5.cell? ⟨ba, oa + 4, none⟩ = some (.int .i64 b.k) := by simpa using q0
    have w5 : W5.cell? ⟨ba, oa + 4 + 1, none⟩ = some (.int .i64 b.n) := by simpa using q1
    have w6 : W5.cell? ⟨ba, oa + 4 + 2, none⟩ = some (.string b.s) := by simpa using q2
    have w7 : W5.cell? ⟨ba, oa + 4 + 3, none⟩ = some (.slice A2 b.l.length c2) := by simpa using q3
    have y1 := A5.out.hk.cell
    have y2 := A5.out.bk.cell
    have y3 := A5.out.hk.frozen
    have y4 := A5.out.bk.frozen
    have n1 := A5.out.hbn
    have n2 := Ne.symm A5.out.hbn
    have n3 := A5.out.hun
    have n4 := A5.out.bun
    have n5 : ¬ ba = hb := hd1.2.2.1
    have n6 : ¬ ba = bb := hd1.2.2.2
    have n7 : ¬ hb = ba := fun e => n5 e.symm
    have n8 : ¬ hb = ub := fun e => n3 e.symm
    clear p0 p1 p2 p3 q0 q1 q2 q3 h1 h2 hd1 hd2 HGC g0 g1 ha hb2
    go_upto_region 6 with fail
    go_region
    all_goals
     go_wp2_with fail
     go_meet
     refine ⟨(a, A1, c1), (b, A2, c2), ?_, Lib.hid ⟨HHT.out.symm, HBT.out.symm⟩⟩
     first
      | (with_reducible exact P5)
      | (with_reducible exact P5a)
      | (trace_state; fail)
      | fail "P5"
   | false =>
    rw [if_neg (by decide)] at HHT HBT
    go_wp2_with fail
    go_meet
    exact ⟨_, _, A5, Lib.hid ⟨HHT.out.symm, HBT.out.symm⟩⟩
  case rest =>
   obtain ⟨h, b, HS, HE⟩ := hcut
   obtain ⟨W6, rfl⟩ : ∃ W6 : World, W6 = wc := ⟨_, rfl⟩
   obtain ⟨h, Ah, ch⟩ := h
   obtain ⟨b, Ab, cb2⟩ := b
   clear HA HCC HHT HBT HGC
   have hszu := HSZ.out trivial
   have hHR := HF1.out trivial
   have hhz := head_sz u
   have hbz := body_sz u
   obtain ⟨hE1, hE2⟩ := HE.out
   simp only at hE1 hE2
   rw [← hE1, ← hE2] at hHR
   rw [← hE1] at hhz
   rw [← hE2] at hbz
   clear hE1 hE2 HE HF1 HSZ
   have hS := HS.out
   have hlt1 : ∀ k, (w.heap.size + 3 ≤ k ∧ k < W6.heap.size ∧ k ≠ hb ∧ k ≠ bb) → k < W6.heap.size := fun k hk => hk.2.1
   have HFL := Lib.hid (refFlat_any (szT b) b (Nat.le_refl _) (by omega) Ab cb2 W6 _ hlt1 hS.bt)
   have HBO := fun (W : World) (x : Ext W6 W) => Lib.hid (refBody_any b Ab cb2 W _ (fun k hk => Nat.lt_of_lt_of_le (hlt1 k hk) x.size) (hS.bt.ext x) (by omega))
   have HIX := fun (W : World) (x : Ext W6 W) => Lib.hid (refInd_any h Ah ch W _ (hS.ht.ext x) (by omega))
   have HBU := fun (W : World) => Lib.hid (refBuiltin_any h.s h.l.length W)
   clear hS hlt1 hszu hhz hbz
   unfold tmVal at HFL HBO HIX
   have HRR := Lib.hid hHR
   clear hHR
   generalize flatN (szT b) b = LB at *
   have x9 := HS.out.bk.cell
   dsimp only at x9
   by_cases h64 : 64 < LB.length
   ·have HR : Hid (RR = none) := Lib.hid (by rw [HRR.out, if_pos h64])
    clear HRR HBO HIX HBU
    have q1 : (64 : Int) < (LB.length : Int) := by omega
    clear h64
    go_wp2_with (first | (go_at_call 35; refine HFL.out.mono ?_; rintro e W7 ⟨ML, AL, cL, rfl, e2, _, _, _, x2⟩; have hml : ML.length = LB.length := (List.length_map _).symm.trans (congrArg List.length e2); rw [hml]; have S7 := HS.out.go x2; have Y1 := Lib.hid S7.cz; have Z1 := Lib.hid S7.tz; have X1 := Lib.hid S7.ext; clear S7 x2 e2 hml) | (go_at_call 32; refine (refBSize_any _).mono ?_; rintro e W9 ⟨k9, n9, s9, A9, m9, c9, rfl, x⟩; have Y9 := Lib.hid (Y1.out.ext x); have Z9 := Lib.hid (Z1.out.ext x); have X9 := Lib.hid (X1.out.trans x); have yc := Y9.out.cell; have yf := Y9.out.frozen; have zc := Z9.out.cell; have zf := Z9.out.frozen; clear x))
    obtain ⟨ka, kb, kx, _⟩ := stR_all Y9.out Z9.out X9.out 0 0 ⟨#[]⟩ none 0 0 none 0 0 0 k9 n9 s9 A9 m9 c9
    unfold stR st4 st6 at ka kb kx
    have kc := ka.cell
    have kd := kb.cell
    exact bodyPost_ret (v := .tuple #[.agg #[.int .i64 0, .int .i64 0, .string ⟨#[]⟩, .slice none 0 0, .slice none 0 0, .int .i64 0], .agg #[.int .i64 k9, .int .i64 n9, .string s9, .slice A9 m9 c9], .bool false]) (by simp [results, Tryz.results12, go_sem, kc, kd]) rfl (.inl ⟨HR.out, ⟨_, _, _, _, _, _, rfl⟩, kx⟩)
   ·have q1 : ¬ (64 : Int) < (LB.length : Int) := by omega
    rw [if_neg h64] at HRR
    clear h64
    go_upto_region 9 with (go_at_call 35; refine HFL.out.mono ?_; rintro e W7 ⟨ML, AL, cL, rfl, e2, _, _, _, x2⟩; have hml : ML.length = LB.length := (List.length_map _).symm.trans (congrArg List.length e2); rw [hml]; have S7 := Lib.hid (HS.out.go x2); have X67 := Lib.hid x2; clear x2 e2 hml)
    clear x9 HFL HS
    have HBO7 := fun (W : World) (x : Ext W7 W) => HBO W (X67.out.trans x)
    have HIX7 := fun (W : World) (x : Ext W7 W) => HIX W (X67.out.trans x)
    have hs67 := X67.out.size
    clear HBO HIX X67
    have x9 := S7.out.hk.cell
    dsimp only at x9
    have Y1 := Lib.hid S7.out.cz
    have Z1 := Lib.hid S7.out.tz
    have X1 := Lib.hid S7.out.ext
    by_cases k1 : h.k = 1
    ·have HR : Hid (RR = none) := Lib.hid (by rw [HRR.out, if_pos k1])
     have q2 : (h.k == 1) = true := by simpa using k1
     clear k1 HRR HBO7 HIX7 HBU
     go_wp2_with (go_at_call 36; refine (refBInst_any _).mono ?_; rintro e W9 ⟨k9, n9, s9, A9, m9, c9, rfl, x⟩; have Y9 := Lib.hid (Y1.out.ext x); have Z9 := Lib.hid (Z1.out.ext x); have X9 := Lib.hid (X1.out.trans x); have yc := Y9.out.cell; have yf := Y9.out.frozen; have zc := Z9.out.cell; have zf := Z9.out.frozen; clear x)
     obtain ⟨ka, kb, kx, _⟩ := stR_all Y9.out Z9.out X9.out 0 0 ⟨#[]⟩ none 0 0 none 0 0 0 k9 n9 s9 A9 m9 c9
     unfold stR st4 st6 at ka kb kx
     have kc := ka.cell
     have kd := kb.cell
     exact bodyPost_ret (v := .tuple #[.agg #[.int .i64 0, .int .i64 0, .string ⟨#[]⟩, .slice none 0 0, .slice none 0 0, .int .i64 0], .agg #[.int .i64 k9, .int .i64 n9, .string s9, .slice A9 m9 c9], .bool false]) (by simp [results, Tryz.results12, go_sem, kc, kd]) rfl (.inl ⟨HR.out, ⟨_, _, _, _, _, _, rfl⟩, kx⟩)
    rw [if_neg k1] at HRR
    have p1 : (h.k == 1) = false := by simpa using k1
    clear k1
    by_cases k2 : h.k = 2
    ·have HR : Hid (RR = none) := Lib.hid (by rw [HRR.out, if_pos k2])
     have q2 : (h.k == 2) = true := by simpa using k2
     clear k2 HRR HBO7 HIX7 HBU
     go_wp2_with (go_at_call 37; refine (refType_any _ _ _ _ _ _ _ _).mono ?_; rintro e W9 ⟨k9, n9, s9, A9, m9, c9, rfl, x⟩; have Y9 := Lib.hid (Y1.out.ext x); have Z9 := Lib.hid (Z1.out.ext x); have X9 := Lib.hid (X1.out.trans x); have yc := Y9.out.cell; have yf := Y9.out.frozen; have zc := Z9.out.cell; have zf := Z9.out.frozen; clear x)
     obtain ⟨ka, kb, kx, _⟩ := stR_all Y9.out Z9.out X9.out 0 0 ⟨#[]⟩ none 0 0 none 0 0 0 k9 n9 s9 A9 m9 c9
     unfold stR st4 st6 at ka kb kx
     have kc := ka.cell
     have kd := kb.cell
     exact bodyPost_ret (v := .tuple #[.agg #[.int .i64 0, .int .i64 0, .string ⟨#[]⟩, .slice none 0 0, .slice none 0 0, .int .i64 0], .agg #[.int .i64 k9, .int .i64 n9, .string s9, .slice A9 m9 c9], .bool false]) (by simp [results, Tryz.results12, go_sem, kc, kd]) rfl (.inl ⟨HR.out, ⟨_, _, _, _, _, _, rfl⟩, kx⟩)
    rw [if_neg k2] at HRR
    have p2 : (h.k == 2) = false := by simpa using k2
    clear k2
    generalize biF h.s h.l.length = bi at *
    cases bi with
    | true =>
     have HR : Hid (RR = none) := Lib.hid (by rw [HRR.out, if_pos rfl])
     clear HRR HBO7
     have HCP := fun (W : World) (k n : Int) (s : ByteArray) (A : Option Addr) (m c : Nat) => Lib.hid (shComp1 W ⟨#[112, 101, 114, 109]⟩ k n s A m c)
     go_wp2_with (first
      | (go_at_call 38; refine (HBU _).out.mono ?_; rintro e W8 ⟨rfl, x⟩; have X8 := Lib.hid x; have y8 := ((S7.out.go x).hk).cell; dsimp only at y8; clear x)
      | (go_at_call 40; refine (HIX7 _ X8.out).out.mono ?_; rintro e Wa ⟨ka, na, sa, Aa, ma, ca, rfl, x⟩; have Xa := Lib.hid (X8.out.trans x); clear x)
      | (go_at_call 24; refine (HCP _ _ _ _ _ _ _).out.mono ?_; rintro e Wb ⟨Ab2, cb3, rfl, x⟩; have Xb := Lib.hid (Xa.out.trans x); clear x; clear Y1 Z1 X1; have S8 := S7.out.go Xb.out; have Y1 := Lib.hid S8.cz; have Z1 := Lib.hid S8.tz; have X1 := Lib.hid S8.ext; clear S8)
      | (go_at_call 39; refine (refErr_any _ _ _ _ _ _ _).mono ?_; rintro e W9 ⟨k9, n9, s9, A9, m9, c9, rfl, x⟩; have Y9 := Lib.hid (Y1.out.ext x); have Z9 := Lib.hid (Z1.out.ext x); have X9 := Lib.hid (X1.out.trans x); have yc := Y9.out.cell; have yf := Y9.out.frozen; have zc := Z9.out.cell; have zf := Z9.out.frozen; clear x))
     obtain ⟨ka, kb, kx, _⟩ := stR_all Y9.out Z9.out X9.out 0 0 ⟨#[]⟩ none 0 0 none 0 0 0 k9 n9 s9 A9 m9 c9
     unfold stR st4 st6 at ka kb kx
     have kc := ka.cell
     have kd := kb.cell
     exact bodyPost_ret (v := .tuple #[.agg #[.int .i64 0, .int .i64 0, .string ⟨#[]⟩, .slice none 0 0, .slice none 0 0, .int .i64 0], .agg #[.int .i64 k9, .int .i64 n9, .string s9, .slice A9 m9 c9], .bool false]) (by simp [results, Tryz.results12, go_sem, kc, kd]) rfl (.inl ⟨HR.out, ⟨_, _, _, _, _, _, rfl⟩, kx⟩)
    | false =>
     rw [if_neg (by decide)] at HRR
     go_upto_region 15 with (go_at_call 38; refine (HBU _).out.mono ?_; rintro e W8 ⟨rfl, x⟩; have S8 := Lib.hid (S7.out.go x); have X8 := Lib.hid x; clear x)
     clear x9 Y1 Z1 X1
     have HB8 := HBO7 W8 X8.out
     have x9 := S8.out.bk.cell
     dsimp only at x9
     have hs78 := X8.out.size
     clear HBO7 HIX7 HBU X8
     unfold BoPost at HB8
     go_upto_region 16 with (go_at_call 41; refine HB8.out.mono ?_; rintro e W9 hbo; (obtain ⟨eo, ⟨k9, n9, s9, A9, m9, c9, rfl⟩, x⟩ | ⟨gs, gA, gc, eo, rfl, hgi, x⟩ := hbo))
     ·have HR : Hid (RR = none) := Lib.hid (by rw [HRR.out, eo]; rfl)
      have S9 := Lib.hid ((S8.out.go x).go ((Ext.refl _).alloc (.cells #[.int .i64 k9, .int .i64 n9, .string s9, .slice A9 m9 c9] 30)))
      have B9 := Lib.hid (Blk.new W9 30 #[.int .i64 k9, .int .i64 n9, .string s9, .slice A9 m9 c9])
      have h8x := x.size
      clear eo x HRR x9 HB8
      refine wp_abs (fun V => Hid (Blk V W9.heap.size 30 #[.int .i64 k9, .int .i64 n9, .string s9, .slice A9 m9 c9]) ∧ Hid (FrBx w V hb bb ub (h, Ah, ch) (b, Ab, cb2) (u, Au, cu)) ∧ Hid (w.heap.size + 3 ≤ W9.heap.size)) ⟨B9, S9, Lib.hid (by have := S8.out.h3; have := S8.out.hk.lt; omega)⟩ ?_
      generalize W9.heap.size = b9 at *
      clear B9 S9 S8 S7
      rintro V ⟨B9, S9, H9⟩
      have h9 := H9.out
      have x9 := B9.out.cell
      have xf := B9.out.frozen
      have Y9 := Lib.hid S9.out.cz
      have Z9 := Lib.hid S9.out.tz
      have X9 := Lib.hid S9.out.ext
      have y1 := Y9.out.cell
      have y2 := Y9.out.frozen
      have y3 := Z9.out.cell
      have y4 := Z9.out.frozen
      have n1 : ¬ b9 = w.heap.size + 1 := by omega
      have n2 : ¬ b9 = w.heap.size + 2 := by omega
      have n3 : ¬ w.heap.size + 1 = b9 := by omega
      have n4 : ¬ w.heap.size + 1 = w.heap.size + 2 := by omega
      have n5 : ¬ w.heap.size + 2 = w.heap.size + 1 := by omega
      go_upto_region 17 with fail
      go_region
      all_goals
       go_wp2_with fail
       obtain ⟨ka, kb, kx, _⟩ := stR_all Y9.out Z9.out X9.out 0 0 ⟨#[]⟩ none 0 0 none 0 0 0 k9 n9 s9 A9 m9 c9
       unfold stR st4 st6 at ka kb kx
       have kc := ka.cell
       have kd := kb.cell
       exact bodyPost_ret (v := .tuple #[.agg #[.int .i64 0, .int .i64 0, .string ⟨#[]⟩, .slice none 0 0, .slice none 0 0, .int .i64 0], .agg #[.int .i64 k9, .int .i64 n9, .string s9, .slice A9 m9 c9], .bool false]) (by simp [results, Tryz.results12, go_sem, kc, kd]) rfl (.inl ⟨HR.out, ⟨_, _, _, _, _, _, rfl⟩, kx.drew⟩)
     ·have HGS := Lib.hid eo
      have HGI := Lib.hid hgi
      have hxA := (Ext.refl W9).alloc (.cells zT 30)
      have S9 := Lib.hid ((S8.out.go x).go hxA)
      have HGJ := Lib.hid (hgi.ext hxA)
      have hs8 := (S8.out.go x).hk.lt
      have h8x := x.size
      refine wp_abs (fun V => Hid (FrBx w V hb bb ub (h, Ah, ch) (b, Ab, cb2) (u, Au, cu)) ∧ Hid (GoalsIn (fun b => w.heap.size + 3 ≤ b ∧ b < V.heap.size) V gs gA gc)) ⟨S9, Lib.hid (HGJ.out.mods (S := []) (Mods.refl _ _) (fun _ _ => by simp) (fun k hk => by rcases hk with hk | hk; exact ⟨hk.1, by rw [World.size_alloc]; have := hk.2.1; have := S8.out.hk.lt; omega⟩; exact ⟨by have := S8.out.h3; have := S8.out.hk.lt; omega, by rw [World.size_alloc]; omega⟩))⟩ ?_
      clear S9 HGJ HGI hgi eo x hxA hs8 h8x x9 HB8 S8 S7
      rintro V ⟨S9, HGI⟩
      have x9 := S9.out.hk.cell
      dsimp only at x9
      have Y9 := Lib.hid S9.out.cz
      have Z9 := Lib.hid S9.out.tz
      have X9 := Lib.hid S9.out.ext
      have y1 := Y9.out.cell
      have y2 := Y9.out.frozen
      have y3 := Z9.out.cell
      have y4 := Z9.out.frozen
      have n4 : ¬ w.heap.size + 1 = w.heap.size + 2 := by omega
      have n5 : ¬ w.heap.size + 2 = w.heap.size + 1 := by omega
      go_wp2_with fail
      obtain ⟨ka, kb, kx, km⟩ := stR_all Y9.out Z9.out X9.out h.k h.n h.s Ah h.l.length ch gA gs.length gc (nv : Int) 0 0 ⟨#[]⟩ none 0 0
      have hsz : (stR V w.heap.size h.k h.n h.s Ah h.l.length ch gA gs.length gc (nv : Int) 0 0 ⟨#[]⟩ none 0 0).heap.size = V.heap.size := by unfold stR; rw [st4_size, st6_size]
      have hci : ClIn (fun b => b < (stR V w.heap.size h.k h.n h.s Ah h.l.length ch gA gs.length gc (nv : Int) 0 0 ⟨#[]⟩ none 0 0).heap.size) (stR V w.heap.size h.k h.n h.s Ah h.l.length ch gA gs.length gc (nv : Int) 0 0 ⟨#[]⟩ none 0 0) ⟨h, gs, nv⟩ Ah ch gA gc :=
       ⟨TmIn.mods km (fun k hk => by have := hk.1; simp; omega) (fun k hk => by rw [hsz]; exact hk.2.1) S9.out.ht, HGI.out.mods km (fun k hk => by have := hk.1; simp; omega) (fun k hk => by rw [hsz]; exact hk.2)⟩
      clear hsz km
      unfold stR st4 st6 at ka kb kx hci
      have kc := ka.cell
      have kd := kb.cell
      exact bodyPost_ret (v := .tuple #[.agg #[.int .i64 h.k, .int .i64 h.n, .string h.s, .slice Ah h.l.length ch, .slice gA gs.length gc, .int .i64 nv], .agg #[.int .i64 0, .int .i64 0, .string ⟨#[]⟩, .slice none 0 0], .bool true]) (by simp [results, Tryz.results12, go_sem, kc, kd]) rfl (.inr ⟨⟨h, gs, nv⟩, Ah, ch, gA, gc, by rw [HRR.out, HGS.out]; rfl, rfl, hci, kx⟩)
end Go.Proofs.YtmnnhdegoapfcaaGreatDoor

/- Arguments that are terms, opened. Over any program. -/
namespace Go.El
open Go.RowKit Go.ChangeShapes Go.WideShapes Go.ChangeAt Go.Deep Go.Joins
section
variable {H : Type} {enc : TypeId × Value → H} {P : Program} {w : World} {base : Nat} {spare : Nat → Bool} {held : Bool}
structure TmType (P : Program) (tt tsl ti ts : TypeId) : Prop where
 shape : ∃ f0 f1 f2 f3 : Field, P.underlying tt = some (.struct #[f0, f1, f2, f3]) ∧ f0.type = ti ∧ f1.type = ti ∧ f2.type = ts ∧ f3.type = tsl ∧ f0.offset = 0 ∧ f1.offset = 1 ∧ f2.offset = 2 ∧ f3.offset = 3
 int : P.underlying ti = some (.int .i64)
 str : P.underlying ts = some .string
 sl : P.underlying tsl = some (.slice tt)
 c : P.cellsOf tt = 4
 ci : P.cellsOf ti = 1
 cs : P.cellsOf ts = 1
 cl : P.cellsOf tsl = 1
def TmRead (w : World) (p : TmP) : Prop := TmIn (fun _ => True) w p.1 p.2.1 p.2.2 ∧ fitT p.1 = true
variable {tt tsl ti ts : TypeId}
theorem fit_map {L : List TmP} (h : ∀ p ∈ L, fitT p.1 = true) : fitL (L.map (·.1)) = true :=
 fitL_of (fun t ht => by
  obtain ⟨p, hp, rfl⟩ := List.mem_map.1 ht
  exact h p hp)
theorem tms_of_trod (T : TmType P tt tsl ti ts) {fuel : Nat} {cs : List Value} {x : DataW H × List MemPlace} (hel : ∀ n, n < fuel → ∀ (cs : List Value) (x : DataW H × List MemPlace), DataW.trod enc P w base spare held n tt cs = some x → ∃ p : TmP, cs = tmC p ∧ TmRead w p)
  (h : DataW.trod enc P w base spare held fuel tsl cs = some x) : ∃ (A : Option Addr) (L : List TmP) (c : Nat), cs = [.slice A L.length c] ∧ (∀ p ∈ L, TmRead w p) ∧ TmIn (fun _ => True) w (.mk 0 0 ⟨#[]⟩ (L.map (·.1))) A c ∧ L.length ≤ maxLen := by
 rcases DataW.trod_slice T.sl h with ⟨h2, _⟩ | ⟨a, len, cap, elems, rest, n, hn, hcs, _, hb, hl, hm, hlen, hall, _, _⟩
 ·exact ⟨none, [], 0, h2, fun p hp => by simp at hp, .mk 0 0 _ [] none 0 [] rfl (fun j t c h => by simp at h) (fun h => absurd rfl h) (Nat.zero_le _), Nat.zero_le _⟩
 ·obtain ⟨L, hL, hp⟩ := list_of_all (p := fun i (q : TmP) => w.cells? base (a.add (i * 4)) 4 = some (tmC q) ∧ TmRead w q) len (fun i hil => by
   have hi := hall i hil
   rw [List.getElem?_eq_getElem (by omega), T.c] at hi
   obtain ⟨cs', h1, h2⟩ := Option.bind_eq_some_iff.1 hi
   obtain ⟨q, e, g⟩ := hel n (by omega) cs' _ h2
   rw [e] at h1
   exact ⟨q, h1, g⟩)
  subst hL
  have hsrc : Src w (some a) L.length 4 (flat tmC L) := src_of_cells tmC_len (by omega) (fun i q hq j u hu => by
   obtain ⟨_, _, hat⟩ := World.cells?_some (hp i q hq).1
   have hj : j < 4 := by
    have := (List.getElem?_eq_some_iff.1 hu).1
    rwa [tmC_len] at this
   rw [← Go.Deep.add_add]
   exact (hat j hj).trans hu)
  have hrd : ∀ q ∈ L, TmRead w q := fun q hq => by
   obtain ⟨i, hi⟩ := List.mem_iff_getElem?.1 hq
   exact (hp i q hi).2
  exact ⟨some a, L, cap, hcs, hrd, Go.Proofs.YtmnnhdegoapfcaaGreatDoor.src_tm hsrc (fun q hq => (hrd q hq).1) (fun _ _ _ => trivial) hl 0 0 ⟨#[]⟩, by omega⟩
theorem tm_of_trod (T : TmType P tt tsl ti ts) : ∀ (N fuel : Nat), fuel ≤ N → ∀ (cs : List Value) (x : DataW H × List MemPlace), DataW.trod enc P w base spare held fuel tt cs = some x → ∃ p : TmP, cs = tmC p ∧ TmRead w p
 | N, fuel, hN, cs, x, h => by
  obtain ⟨f0, f1, f2, f3, hu, t0, t1, t2, t3, o0, o1, o2, o3⟩ := T.shape
  obtain ⟨xs, n, hfn, _, hl, hlen, hf⟩ := DataW.trod_struct hu h
  rw [T.c] at hl
  match cs, hl with
  | [c0, c1, c2, c3], _ =>
   have h0 := hf 0 f0 rfl
   have h1 := hf 1 f1 rfl
   have h2 := hf 2 f2 rfl
   have h3 := hf 3 f3 rfl
   match xs, hlen with
   | [x0, x1, x2, x3], _ =>
    rw [t0, o0, T.ci] at h0
    rw [t1, o1, T.ci] at h1
    rw [t2, o2, T.cs] at h2
    rw [t3, o3, T.cl] at h3
    simp only [List.drop_zero, List.drop_succ_cons, List.take_succ_cons, List.take_zero, List.getElem?_cons_zero, List.getElem?_cons_succ] at h0 h1 h2 h3
    obtain ⟨k, e0, _, _⟩ := DataW.trod_int T.int h0
    obtain ⟨i, e1, _, _⟩ := DataW.trod_int T.int h1
    obtain ⟨s, e2, _, w2⟩ := DataW.trod_string T.str h2
    match N, hN with
    | 0, hN => omega
    | N + 1, hN =>
     obtain ⟨A, L, c, e3, hr, ht, _⟩ := tms_of_trod T (fun m hm cs' x' h' => tm_of_trod T N m (by omega) cs' x' h') h3
     simp only [List.cons.injEq, and_true] at e0 e1 e2 e3
     refine ⟨(.mk k i s (L.map (·.1)), A, c), ?_, TmsIn.term ht k i s, ?_⟩
     ·rw [e0, e1, e2, e3]
      simp [tmC, Tm.k, Tm.n, Tm.s, Tm.l]
     ·simp only [fitT, Bool.and_eq_true, decide_eq_true_eq]
      refine ⟨by unfold maxLen at w2; omega, fit_map (fun p hp => (hr p hp).2)⟩
 termination_by N => N
theorem open_tm (T : TmType P tt tsl ti ts) {r : Reach} {b0 : Nat} {v : Value} {d : DataW H} {ps : List MemPlace} (hv : Value.okWide P w r b0 tt v) (h : DataW.Trod enc P w base spare held tt v d ps) :
  ∃ (t : Tm) (A : Option Addr) (c : Nat), v = tmVal t A c ∧ TmIn (fun _ => True) w t A c ∧ fitT t = true := by
 obtain ⟨_, _, _, _, hu, _⟩ := T.shape
 obtain ⟨cs, rfl, _⟩ := okWide_struct hu hv
 obtain ⟨fuel, hf⟩ := h
 obtain ⟨⟨t, A, c⟩, e, h1, h2⟩ := tm_of_trod T fuel fuel (Nat.le_refl _) _ _ hf
 obtain ⟨l⟩ := cs
 simp only [Value.cells] at e
 subst e
 exact ⟨t, A, c, rfl, h1, h2⟩
end
end Go.El

/- The contract of From, whole; how terms are opened. -/
namespace Go.Proofs.YtmnnhdegoapfcaaGreatDoor
open Go.RowKit Go.El Go.ChangeShapes Go.WideShapes Go.ChangeAt Go.Joins Go.ChangeMaps
theorem tmType : TmType Tryz.prog 30 28 3 9 := ⟨⟨_, _, _, _, Tryz.underlying30, rfl, rfl, rfl, rfl, rfl, rfl, rfl, rfl⟩, Tryz.underlying3, Tryz.underlying9, Tryz.underlying28, by kernel_rfl, by kernel_rfl, by kernel_rfl, by kernel_rfl⟩
theorem fromC_any : FromC := fun t A c w D h1 h2 h3 => refFrom_any t A c w D h1 h2 h3
end Go.Proofs.YtmnnhdegoapfcaaGreatDoor

/- Layer 16, plain: words, numerals: what was written is read. -/
namespace Go.El
def mkB (l : List UInt8) : ByteArray := ⟨l.toArray⟩
theorem mkB_list (l : List UInt8) : (mkB l).data.toList = l := by simp [mkB]
end Go.El

/- Layer 16, plain: an instruction that may be is read back from its text. -/
namespace Go.El
theorem join_cons (n : List UInt8) (fs : List (List UInt8)) : Lib.join (n :: fs) [32] = if fs = [] then n else n ++ 32 :: Lib.join fs [32] := by
 cases fs with
 | nil => simp [Lib.join, List.intercalate]
 | cons f fs => simp [Lib.join, List.intercalate]
theorem join_none : Lib.join [] [32] = [] := rfl
theorem name_ok : ∀ o ∈ List.range 31, (32 : UInt8) ∉ nameF o ∧ opIdx (nameF o) = o ∧ (nameF o).length ≤ 8 := by decide +kernel
theorem may_op {i : Ins} (h : insMay i = true) : ∃ k : Nat, i.op = k ∧ 1 ≤ k ∧ k < 31 := by
 unfold insMay at h
 split at h
 ·cases h
 ·rename_i hn
  by_cases c : i.op < 0 ∨ 31 ≤ i.op
  ·exact absurd (.inl (if_pos c)) hn
  ·have h0 : i.op ≠ 0 := by
    intro e
    apply hn
    rw [e]
    exact .inl rfl
   exact ⟨i.op.toNat, by omega, by omega, by omega⟩
end Go.El

/- Layer 8, the reference: the walk of Quote. -/
namespace Go.Proofs.YtmnnhdegoapfcaaGreatDoor
open Go.RowKit Go.El
theorem hexL_lenR (c : UInt8) : (hexL c).length ≤ 2 := by
 unfold hexL
 split <;> simp
theorem sgnF_lenR (c : UInt8) : (sgnF c).length ≤ 5 := by
 have h1 := hexL_lenR c
 unfold sgnF
 split
 ·simp only [List.length_append, List.length_cons, List.length_nil]; omega
 ·unfold El.sgnS
  split
  ·decide
  ·split
   ·decide
   ·split <;> simp
theorem sgnW_lenR : ∀ l : List UInt8, (sgnW l).length ≤ 5 * l.length
 | [] => Nat.le_refl _
 | c :: l => by
  have := sgnW_lenR l
  have := sgnF_lenR c
  simp only [sgnW, List.flatMap_cons, List.length_append, List.length_cons] at *
  omega
end Go.Proofs.YtmnnhdegoapfcaaGreatDoor

/- Layer 8, the program: the walk of Quote at names that want no hex digits. -/
namespace Go.Proofs.YtmnnhdegoapfcaaGreatDoor
open Go.RowKit Go.El
theorem sgnS_len (c : UInt8) : (sgnS c).length ≤ 2 := by
 unfold sgnS
 split
 ·decide
 ·split
  ·decide
  ·split <;> simp
end Go.Proofs.YtmnnhdegoapfcaaGreatDoor
