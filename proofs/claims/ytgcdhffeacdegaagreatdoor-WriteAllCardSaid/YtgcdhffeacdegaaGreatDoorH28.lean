/- Layer 10, the program: the walk of sign, where the name is an operator. -/
import Derived.Test.YtgcdhffeacdegaaGreatDoorH27
namespace Go.Proofs.YtgcdhffeacdegaaGreatDoor
open Go.RowKit Go.El
set_option maxRecDepth 100000 in
set_option maxHeartbeats 8000000 in
theorem paSign_op {f : PF} {N : Nat} (IH : PTermC f N) (s : ByteArray) (most : Int) {r : List TokV} (hN : r.length ≤ N) {w : World} {nv : Value} {ns : List ByteArray} (h : PaAt f w r nv ns false) {n : Nat} (hn : 5 * r.length + 6 ≤ n) {t0 : TokV} {q : List TokV} (e : r = t0 :: q) {o : OpV} (hoq : (findO s f.Q).getD zeroO = o) {bq : Bool} (hbq : (findO s f.Q).isSome = bq) (ho : opensB r = false) (hc : ¬ (s = minB ∧ numB r = true)) (hb1 : bq = true) (ep : o.p ≤ most) (hb3 : beginsB f.O r = true) :
  Calls Tryz.prog 99 #[.pointer (some ⟨f.pb, 0, none⟩), .string s, .int .i64 most] w (OPost f w nv r (signN f.O n s most r ns)) := by
 obtain ⟨m, rfl⟩ : ∃ m, n = m + 1 := ⟨n - 1, by omega⟩
 rw [sign_op f.O m s most r ns ho hc ⟨hbq.trans hb1, by show ((findO s f.Q).getD zeroO).p ≤ most; rw [hoq]; exact ep, hb3⟩]
 have hO : (f.O.fp s).getD zeroO = o := hoq
 rw [hO]
 have hc4 := cond4 e hc
 obtain ⟨X, hX⟩ : ∃ X, termN f.O m (rightI o.p o.t) r ns = X := ⟨_, rfl⟩
 rw [hX]
 have HLX := Lib.hid hX
 clear hX
 subst hb1
 have EB := Lib.hid hb3
 clear hc hb3 hO
 have HO := Lib.hid h.old
 have hx := ext_box4 w (.cells #[.int .i64 0, .int .i64 0, .string ⟨#[]⟩, .slice none 0 0] 32)
 have HXB := Lib.hid hx
 have H := Lib.hid h
 have HZ := Lib.hid (Blk.new w 32 #[.int .i64 0, .int .i64 0, .string ⟨#[]⟩, .slice none 0 0])
 have HN := fun W (x : Ext w W) => Lib.hid (paNext (h.ext x) e)
 have HPF := fun W (x : Ext w W) => Lib.hid ((h.ext x).pre s)
 have c2 := hx.cell h.cells.c2
 have HSZ := Lib.hid (World.size_alloc w (.cells #[.int .i64 0, .int .i64 0, .string ⟨#[]⟩, .slice none 0 0] 32))
 have hp : f.pb < w.heap.size := h.blk.lt
 unfold tokA at HN
 unfold opR opA at HPF
 rw [hoq, hbq] at HPF
 have HNN := Lib.hid hN
 have HM := Lib.hid hn
 have HE := Lib.hid e
 clear h hx hN hn e hoq hbq
 go_enter Tryz.func99, Tryz.ntmps99
 go_upto_region 2 with (go_at_call 42; refine (HN _ HXB.out).out.mono ?_; rintro e W1 ⟨rfl, x1⟩; have X1 := Lib.hid ((HXB.out.trans x1).alloc (.cells #[.int .i64 t0.kind, .string t0.s, .int .i64 t0.n, .int .i64 t0.at_, .bool t0.lay] 55)); have Z1 := Lib.hid ((HZ.out.ext x1).ext (ext_box4 _ (.cells #[.int .i64 t0.kind, .string t0.s, .int .i64 t0.n, .int .i64 t0.at_, .bool t0.lay] 55))); have B8 := Lib.hid (Blk.new W1 55 #[.int .i64 t0.kind, .string t0.s, .int .i64 t0.n, .int .i64 t0.at_, .bool t0.lay]); have G8 : Hid (w.heap.size < W1.heap.size) := Lib.hid (by have := x1.size; rw [HSZ.out] at this; omega); have c2 := (x1.alloc (.cells #[.int .i64 t0.kind, .string t0.s, .int .i64 t0.n, .int .i64 t0.at_, .bool t0.lay] 55)).cell c2; clear x1)
 generalize W1.alloc (.cells #[.int .i64 t0.kind, .string t0.s, .int .i64 t0.n, .int .i64 t0.at_, .bool t0.lay] 55) = W1b at *
 generalize W1.heap.size = g8 at *
 go_upto_region 3 with (go_at_call 144; refine (HPF _ X1.out).out.mono ?_; rintro e W2 ⟨rfl, x2⟩; have X2 := Lib.hid ((X1.out.trans x2).alloc (.cells #[.int .i64 o.p, .int .i64 o.t, .string o.s] 70)); have Z2 := Lib.hid ((Z1.out.ext x2).ext (ext_box4 _ (.cells #[.int .i64 o.p, .int .i64 o.t, .string o.s] 70))); have B82 := Lib.hid ((B8.out.ext x2).ext (ext_box4 _ (.cells #[.int .i64 o.p, .int .i64 o.t, .string o.s] 70))); have B9 := Lib.hid (Blk.new W2 70 #[.int .i64 o.p, .int .i64 o.t, .string o.s]); have G9 : Hid (g8 < W2.heap.size) := Lib.hid (by have := x2.size; have := B8.out.lt; omega); clear x2)
 generalize W2.alloc (.cells #[.int .i64 o.p, .int .i64 o.t, .string o.s] 70) = W3 at *
 generalize W2.heap.size = g9 at *
 clear B8 Z1 X1 HN HPF c2 HXB HZ
 have H3 := Lib.hid (H.out.ext X2.out)
 have S3 := Lib.hid (PStep.ext (S := f.S) (nv := nv) X2.out)
 have C3 := Lib.hid (clr_box H.out (Nat.le_refl _) Z2.out.lt)
 have C8 := Lib.hid (clr_box H.out (Nat.le_of_lt G8.out) B82.out.lt)
 have C9 := Lib.hid (clr_box H.out (Nat.le_of_lt (Nat.lt_trans G8.out G9.out)) B9.out.lt)
 have k8 := B82.out.cell
 have k9 := B9.out.cell
 have HOPN := Lib.hid (paOpens H3.out)
 rw [ho] at HOPN
 clear ho
 rcases hc4 with e1 | ⟨e1, e4⟩ | ⟨e1, e4, e5⟩
 ·go_upto_region 7 with (go_at_call 140; refine HOPN.out.mono ?_; rintro e WB0 ⟨rfl, xb⟩; have XB0 := Lib.hid xb; have HB0 := Lib.hid (H3.out.ext xb); have SB0 := Lib.hid (S3.out.trans (PStep.ext xb)); have ZB0 := Lib.hid (Z2.out.ext xb); have CB0 := Lib.hid ((PStep.ext (S := f.S) (nv := nv) xb).clr C3.out); have m8 := (B82.out.ext xb).cell; have BB90 := Lib.hid (B9.out.ext xb); have m9 := BB90.out.cell; have CB90 := Lib.hid ((PStep.ext (S := f.S) (nv := nv) xb).clr C9.out); have GB0 : Hid (w.heap.size < WB0.heap.size) := Lib.hid ZB0.out.lt; clear xb)
  have HBG := Lib.hid (paBegins HB0.out)
  rw [EB.out] at HBG
  go_upto_region 8 with (go_at_call 145; refine HBG.out.mono ?_; rintro e WB ⟨rfl, hc, sc⟩; have HB := Lib.hid hc; have SB := Lib.hid (SB0.out.trans sc); have ZB := Lib.hid (ZB0.out.mods sc.mods CB0.out.no); have CB := Lib.hid (sc.clr CB0.out); have BB9 := Lib.hid (BB90.out.mods sc.mods CB90.out.no); have CB9 := Lib.hid (sc.clr CB90.out); have GB : Hid (w.heap.size < WB.heap.size) := Lib.hid ZB.out.lt; clear hc sc)
  have HRT := fun V (x : Ext WB V) => Lib.hid (pRight_any o.p o.t o.s V (HB.out.ext x).typ)
  have HTT := fun V (x : Ext WB V) => Lib.hid (show Calls Tryz.prog 41 #[.pointer (some ⟨f.pb, 0, none⟩), .int .i64 (rightI o.p o.t)] V (TPost f V nv r X) from by
   have := IH r ns nv V m (rightI o.p o.t) HNN.out (HB.out.ext x) (by have := HM.out; omega)
   rw [HLX.out] at this
   exact this)
  have m9b := BB9.out.cell
  have hgn : ¬ g9 = w.heap.size := by have := G8.out; have := G9.out; omega
  have hgn2 : ¬ w.heap.size = g9 := by have := G8.out; have := G9.out; omega
  clear m8 m9 k8 k9
  go_region_law ((first
   | (go_simp; go_at_call 68; refine (HRT _ ((Ext.refl _).drew)).out.mono ?_; rintro e V1 ⟨rfl, x1⟩; have X1 := Lib.hid ((Ext.refl _).drew.trans x1); have v9 := (BB9.out.ext X1.out).cell; clear x1)
   | (go_simp; go_at_call 41; refine (HTT _ X1.out).out.mono ?_; rintro e W5 ⟨t, A, c, nv5, r5, ns5, b5, rfl, hres, h5, s5, ht5, hl5⟩; have HRES := Lib.hid hres; have H5 := Lib.hid h5; have S5 := Lib.hid (SB.out.trans ((PStep.ext X1.out).trans s5)); have T5 := Lib.hid ht5; have L5 := Lib.hid hl5; have GV : Hid (w.heap.size < V1.heap.size) := Lib.hid (Nat.lt_of_lt_of_le GB.out X1.out.size); have G6 := Lib.hid s5.size; have Z5 := Lib.hid ((ZB.out.ext X1.out).mods s5.mods ((PStep.ext (S := f.S) (nv := nv) X1.out).clr CB.out).no); have B95 := Lib.hid ((BB9.out.ext X1.out).mods s5.mods ((PStep.ext (S := f.S) (nv := nv) X1.out).clr CB9.out).no); have u9 := B95.out.cell; have y9 := (B95.out.ext (ext_box4 W5 (.cells #[.int .i64 (Tm.k t), .int .i64 (Tm.n t), .string (Tm.s t), .slice A (Tm.l t).length c] 32))).cell; have hl9 := B95.out.lt; have HCM := Lib.hid (pComp_any s [(t, A, c)] (some ⟨W5.heap.size, 0, none⟩) 1 (W5.alloc (.cells #[.int .i64 (Tm.k t), .int .i64 (Tm.n t), .string (Tm.s t), .slice A (Tm.l t).length c] 32)) (NewT f.S nv5 V1 W5) (El.Src.new W5 #[.int .i64 (Tm.k t), .int .i64 (Tm.n t), .string (Tm.s t), .slice A (Tm.l t).length c] 32 1 4 rfl) (fun e he => by simp only [List.mem_cons, List.not_mem_nil, or_false] at he; subst he; exact T5.out.ext (ext_box4 _ _)) (by simp) (by simp)); simp only [List.length_cons, List.length_nil, Nat.reduceAdd] at HCM; clear hres h5 s5 ht5 hl5)
   | (go_simp; go_at_call 67; refine HCM.out.mono ?_; rintro e W6 ⟨A6, c6, rfl, ht6, hx6⟩; have T6 := Lib.hid ht6; have X6 := Lib.hid ((ext_box4 W5 _).trans hx6); have Z6 := Lib.hid (Z5.out.ext X6.out); have zc := Z6.out.cell; have zf := Z6.out.frozen; have t9 := (B95.out.ext X6.out).cell; clear ht6 hx6)))
  all_goals
   go_wp2_with fail
   have kb := blk_set4 Z6.out (.int .i64 4) (.int .i64 0) (.string s) (.slice A6 1 c6)
   have kc := kb.cell
   have h7 := (H5.out.ext X6.out).set4 HO.out (Nat.le_refl _) Z6.out (.int .i64 4) (.int .i64 0) (.string s) (.slice A6 1 c6)
   have s7 := pstep_set4 (S5.out.trans (PStep.ext X6.out)) (Nat.le_refl _) (.int .i64 4) (.int .i64 0) (.string s) (.slice A6 1 c6)
   have hnew : TmIn (NewT f.S nv5 V1 W6) W6 (.mk 4 0 s [t]) A6 c6 := T6.out.mono (fun k hk => by
    rcases hk with hk | ⟨h1, h2⟩
    ·exact hk.step (PStep.ext X6.out)
    ·have h1' : W5.heap.size ≤ k := by simp at h1; omega
     exact ⟨Nat.le_trans G6.out h1', clr_box H5.out h1' h2⟩)
   have t7 := tmN_wide (w := w) (tmN_set4 hnew (z := w.heap.size) GV.out (.int .i64 4) (.int .i64 0) (.string s) (.slice A6 1 c6)) (Nat.le_of_lt GV.out)
   have hcomp : compT s [t] = .mk 4 0 s [t] := if_neg (by simp)
   have hres := prM_res (g := fun u => (compT s [u], o.p)) HRES.out
   rw [hcomp] at hres
   refine bodyPost_ret (v := .tuple #[.agg #[.int .i64 4, .int .i64 0, .string s, .slice A6 1 c6], .int .i64 o.p]) ?_ rfl ⟨.mk 4 0 s [t], o.p, A6, c6, nv5, r5, ns5, b5, rfl, hres, h7, s7, t7, L5.out⟩
   simp [results, Tryz.results99, go_sem, kc]
 ·go_upto_region 7 with (go_at_call 140; refine HOPN.out.mono ?_; rintro e WB0 ⟨rfl, xb⟩; have XB0 := Lib.hid xb; have HB0 := Lib.hid (H3.out.ext xb); have SB0 := Lib.hid (S3.out.trans (PStep.ext xb)); have ZB0 := Lib.hid (Z2.out.ext xb); have CB0 := Lib.hid ((PStep.ext (S := f.S) (nv := nv) xb).clr C3.out); have m8 := (B82.out.ext xb).cell; have BB90 := Lib.hid (B9.out.ext xb); have m9 := BB90.out.cell; have CB90 := Lib.hid ((PStep.ext (S := f.S) (nv := nv) xb).clr C9.out); have GB0 : Hid (w.heap.size < WB0.heap.size) := Lib.hid ZB0.out.lt; clear xb)
  have HBG := Lib.hid (paBegins HB0.out)
  rw [EB.out] at HBG
  go_upto_region 8 with (go_at_call 145; refine HBG.out.mono ?_; rintro e WB ⟨rfl, hc, sc⟩; have HB := Lib.hid hc; have SB := Lib.hid (SB0.out.trans sc); have ZB := Lib.hid (ZB0.out.mods sc.mods CB0.out.no); have CB := Lib.hid (sc.clr CB0.out); have BB9 := Lib.hid (BB90.out.mods sc.mods CB90.out.no); have CB9 := Lib.hid (sc.clr CB90.out); have GB : Hid (w.heap.size < WB.heap.size) := Lib.hid ZB.out.lt; clear hc sc)
  have HRT := fun V (x : Ext WB V) => Lib.hid (pRight_any o.p o.t o.s V (HB.out.ext x).typ)
  have HTT := fun V (x : Ext WB V) => Lib.hid (show Calls Tryz.prog 41 #[.pointer (some ⟨f.pb, 0, none⟩), .int .i64 (rightI o.p o.t)] V (TPost f V nv r X) from by
   have := IH r ns nv V m (rightI o.p o.t) HNN.out (HB.out.ext x) (by have := HM.out; omega)
   rw [HLX.out] at this
   exact this)
  have m9b := BB9.out.cell
  have hgn : ¬ g9 = w.heap.size := by have := G8.out; have := G9.out; omega
  have hgn2 : ¬ w.heap.size = g9 := by have := G8.out; have := G9.out; omega
  clear m8 m9 k8 k9
  go_region_law ((first
   | (go_simp; go_at_call 68; refine (HRT _ ((Ext.refl _).drew)).out.mono ?_; rintro e V1 ⟨rfl, x1⟩; have X1 := Lib.hid ((Ext.refl _).drew.trans x1); have v9 := (BB9.out.ext X1.out).cell; clear x1)
   | (go_simp; go_at_call 41; refine (HTT _ X1.out).out.mono ?_; rintro e W5 ⟨t, A, c, nv5, r5, ns5, b5, rfl, hres, h5, s5, ht5, hl5⟩; have HRES := Lib.hid hres; have H5 := Lib.hid h5; have S5 := Lib.hid (SB.out.trans ((PStep.ext X1.out).trans s5)); have T5 := Lib.hid ht5; have L5 := Lib.hid hl5; have GV : Hid (w.heap.size < V1.heap.size) := Lib.hid (Nat.lt_of_lt_of_le GB.out X1.out.size); have G6 := Lib.hid s5.size; have Z5 := Lib.hid ((ZB.out.ext X1.out).mods s5.mods ((PStep.ext (S := f.S) (nv := nv) X1.out).clr CB.out).no); have B95 := Lib.hid ((BB9.out.ext X1.out).mods s5.mods ((PStep.ext (S := f.S) (nv := nv) X1.out).clr CB9.out).no); have u9 := B95.out.cell; have y9 := (B95.out.ext (ext_box4 W5 (.cells #[.int .i64 (Tm.k t), .int .i64 (Tm.n t), .string (Tm.s t), .slice A (Tm.l t).length c] 32))).cell; have hl9 := B95.out.lt; have HCM := Lib.hid (pComp_any s [(t, A, c)] (some ⟨W5.heap.size, 0, none⟩) 1 (W5.alloc (.cells #[.int .i64 (Tm.k t), .int .i64 (Tm.n t), .string (Tm.s t), .slice A (Tm.l t).length c] 32)) (NewT f.S nv5 V1 W5) (El.Src.new W5 #[.int .i64 (Tm.k t), .int .i64 (Tm.n t), .string (Tm.s t), .slice A (Tm.l t).length c] 32 1 4 rfl) (fun e he => by simp only [List.mem_cons, List.not_mem_nil, or_false] at he; subst he; exact T5.out.ext (ext_box4 _ _)) (by simp) (by simp)); simp only [List.length_cons, List.length_nil, Nat.reduceAdd] at HCM; clear hres h5 s5 ht5 hl5)
   | (go_simp; go_at_call 67; refine HCM.out.mono ?_; rintro e W6 ⟨A6, c6, rfl, ht6, hx6⟩; have T6 := Lib.hid ht6; have X6 := Lib.hid ((ext_box4 W5 _).trans hx6); have Z6 := Lib.hid (Z5.out.ext X6.out); have zc := Z6.out.cell; have zf := Z6.out.frozen; have t9 := (B95.out.ext X6.out).cell; clear ht6 hx6)))
  all_goals
   go_wp2_with fail
   have kb := blk_set4 Z6.out (.int .i64 4) (.int .i64 0) (.string s) (.slice A6 1 c6)
   have kc := kb.cell
   have h7 := (H5.out.ext X6.out).set4 HO.out (Nat.le_refl _) Z6.out (.int .i64 4) (.int .i64 0) (.string s) (.slice A6 1 c6)
   have s7 := pstep_set4 (S5.out.trans (PStep.ext X6.out)) (Nat.le_refl _) (.int .i64 4) (.int .i64 0) (.string s) (.slice A6 1 c6)
   have hnew : TmIn (NewT f.S nv5 V1 W6) W6 (.mk 4 0 s [t]) A6 c6 := T6.out.mono (fun k hk => by
    rcases hk with hk | ⟨h1, h2⟩
    ·exact hk.step (PStep.ext X6.out)
    ·have h1' : W5.heap.size ≤ k := by simp at h1; omega
     exact ⟨Nat.le_trans G6.out h1', clr_box H5.out h1' h2⟩)
   have t7 := tmN_wide (w := w) (tmN_set4 hnew (z := w.heap.size) GV.out (.int .i64 4) (.int .i64 0) (.string s) (.slice A6 1 c6)) (Nat.le_of_lt GV.out)
   have hcomp : compT s [t] = .mk 4 0 s [t] := if_neg (by simp)
   have hres := prM_res (g := fun u => (compT s [u], o.p)) HRES.out
   rw [hcomp] at hres
   refine bodyPost_ret (v := .tuple #[.agg #[.int .i64 4, .int .i64 0, .string s, .slice A6 1 c6], .int .i64 o.p]) ?_ rfl ⟨.mk 4 0 s [t], o.p, A6, c6, nv5, r5, ns5, b5, rfl, hres, h7, s7, t7, L5.out⟩
   simp [results, Tryz.results99, go_sem, kc]
 ·rw [e5] at k8
  go_upto_region 7 with (go_at_call 140; refine HOPN.out.mono ?_; rintro e WB0 ⟨rfl, xb⟩; have XB0 := Lib.hid xb; have HB0 := Lib.hid (H3.out.ext xb); have SB0 := Lib.hid (S3.out.trans (PStep.ext xb)); have ZB0 := Lib.hid (Z2.out.ext xb); have CB0 := Lib.hid ((PStep.ext (S := f.S) (nv := nv) xb).clr C3.out); have m8 := (B82.out.ext xb).cell; have BB90 := Lib.hid (B9.out.ext xb); have m9 := BB90.out.cell; have CB90 := Lib.hid ((PStep.ext (S := f.S) (nv := nv) xb).clr C9.out); have GB0 : Hid (w.heap.size < WB0.heap.size) := Lib.hid ZB0.out.lt; clear xb)
  have HBG := Lib.hid (paBegins HB0.out)
  rw [EB.out] at HBG
  go_upto_region 8 with (go_at_call 145; refine HBG.out.mono ?_; rintro e WB ⟨rfl, hc, sc⟩; have HB := Lib.hid hc; have SB := Lib.hid (SB0.out.trans sc); have ZB := Lib.hid (ZB0.out.mods sc.mods CB0.out.no); have CB := Lib.hid (sc.clr CB0.out); have BB9 := Lib.hid (BB90.out.mods sc.mods CB90.out.no); have CB9 := Lib.hid (sc.clr CB90.out); have GB : Hid (w.heap.size < WB.heap.size) := Lib.hid ZB.out.lt; clear hc sc)
  have HRT := fun V (x : Ext WB V) => Lib.hid (pRight_any o.p o.t o.s V (HB.out.ext x).typ)
  have HTT := fun V (x : Ext WB V) => Lib.hid (show Calls Tryz.prog 41 #[.pointer (some ⟨f.pb, 0, none⟩), .int .i64 (rightI o.p o.t)] V (TPost f V nv r X) from by
   have := IH r ns nv V m (rightI o.p o.t) HNN.out (HB.out.ext x) (by have := HM.out; omega)
   rw [HLX.out] at this
   exact this)
  have m9b := BB9.out.cell
  have hgn : ¬ g9 = w.heap.size := by have := G8.out; have := G9.out; omega
  have hgn2 : ¬ w.heap.size = g9 := by have := G8.out; have := G9.out; omega
  clear m8 m9 k8 k9
  go_region_law ((first
   | (go_simp; go_at_call 68; refine (HRT _ ((Ext.refl _).drew)).out.mono ?_; rintro e V1 ⟨rfl, x1⟩; have X1 := Lib.hid ((Ext.refl _).drew.trans x1); have v9 := (BB9.out.ext X1.out).cell; clear x1)
   | (go_simp; go_at_call 41; refine (HTT _ X1.out).out.mono ?_; rintro e W5 ⟨t, A, c, nv5, r5, ns5, b5, rfl, hres, h5, s5, ht5, hl5⟩; have HRES := Lib.hid hres; have H5 := Lib.hid h5; have S5 := Lib.hid (SB.out.trans ((PStep.ext X1.out).trans s5)); have T5 := Lib.hid ht5; have L5 := Lib.hid hl5; have GV : Hid (w.heap.size < V1.heap.size) := Lib.hid (Nat.lt_of_lt_of_le GB.out X1.out.size); have G6 := Lib.hid s5.size; have Z5 := Lib.hid ((ZB.out.ext X1.out).mods s5.mods ((PStep.ext (S := f.S) (nv := nv) X1.out).clr CB.out).no); have B95 := Lib.hid ((BB9.out.ext X1.out).mods s5.mods ((PStep.ext (S := f.S) (nv := nv) X1.out).clr CB9.out).no); have u9 := B95.out.cell; have y9 := (B95.out.ext (ext_box4 W5 (.cells #[.int .i64 (Tm.k t), .int .i64 (Tm.n t), .string (Tm.s t), .slice A (Tm.l t).length c] 32))).cell; have hl9 := B95.out.lt; have HCM := Lib.hid (pComp_any s [(t, A, c)] (some ⟨W5.heap.size, 0, none⟩) 1 (W5.alloc (.cells #[.int .i64 (Tm.k t), .int .i64 (Tm.n t), .string (Tm.s t), .slice A (Tm.l t).length c] 32)) (NewT f.S nv5 V1 W5) (El.Src.new W5 #[.int .i64 (Tm.k t), .int .i64 (Tm.n t), .string (Tm.s t), .slice A (Tm.l t).length c] 32 1 4 rfl) (fun e he => by simp only [List.mem_cons, List.not_mem_nil, or_false] at he; subst he; exact T5.out.ext (ext_box4 _ _)) (by simp) (by simp)); simp only [List.length_cons, List.length_nil, Nat.reduceAdd] at HCM; clear hres h5 s5 ht5 hl5)
   | (go_simp; go_at_call 67; refine HCM.out.mono ?_; rintro e W6 ⟨A6, c6, rfl, ht6, hx6⟩; have T6 := Lib.hid ht6; have X6 := Lib.hid ((ext_box4 W5 _).trans hx6); have Z6 := Lib.hid (Z5.out.ext X6.out); have zc := Z6.out.cell; have zf := Z6.out.frozen; have t9 := (B95.out.ext X6.out).cell; clear ht6 hx6)))
  all_goals
   go_wp2_with fail
   have kb := blk_set4 Z6.out (.int .i64 4) (.int .i64 0) (.string s) (.slice A6 1 c6)
   have kc := kb.cell
   have h7 := (H5.out.ext X6.out).set4 HO.out (Nat.le_refl _) Z6.out (.int .i64 4) (.int .i64 0) (.string s) (.slice A6 1 c6)
   have s7 := pstep_set4 (S5.out.trans (PStep.ext X6.out)) (Nat.le_refl _) (.int .i64 4) (.int .i64 0) (.string s) (.slice A6 1 c6)
   have hnew : TmIn (NewT f.S nv5 V1 W6) W6 (.mk 4 0 s [t]) A6 c6 := T6.out.mono (fun k hk => by
    rcases hk with hk | ⟨h1, h2⟩
    ·exact hk.step (PStep.ext X6.out)
    ·have h1' : W5.heap.size ≤ k := by simp at h1; omega
     exact ⟨Nat.le_trans G6.out h1', clr_box H5.out h1' h2⟩)
   have t7 := tmN_wide (w := w) (tmN_set4 hnew (z := w.heap.size) GV.out (.int .i64 4) (.int .i64 0) (.string s) (.slice A6 1 c6)) (Nat.le_of_lt GV.out)
   have hcomp : compT s [t] = .mk 4 0 s [t] := if_neg (by simp)
   have hres := prM_res (g := fun u => (compT s [u], o.p)) HRES.out
   rw [hcomp] at hres
   refine bodyPost_ret (v := .tuple #[.agg #[.int .i64 4, .int .i64 0, .string s, .slice A6 1 c6], .int .i64 o.p]) ?_ rfl ⟨.mk 4 0 s [t], o.p, A6, c6, nv5, r5, ns5, b5, rfl, hres, h7, s7, t7, L5.out⟩
   simp [results, Tryz.results99, go_sem, kc]
theorem paSign {f : PF} {N : Nat} (IH : PTermC f N) (s : ByteArray) (most : Int) {r : List TokV} (hN : r.length ≤ N) {w : World} {nv : Value} {ns : List ByteArray} (h : PaAt f w r nv ns false) {n : Nat} (hn : 5 * r.length + 6 ≤ n) :
  Calls Tryz.prog 99 #[.pointer (some ⟨f.pb, 0, none⟩), .string s, .int .i64 most] w (OPost f w nv r (signN f.O n s most r ns)) := by
 obtain ⟨t0, q, e⟩ := ToksOk.ne h.suf h.nil
 cases ho : opensB r with
 | true => exact paSign_named IH s most hN h hn e rfl rfl ho
 | false =>
  by_cases hc : s = minB ∧ numB r = true
  ·obtain ⟨hs, hnb⟩ := hc
   rw [e] at hnb
   simp only [numB, Bool.and_eq_true, decide_eq_true_eq, Bool.not_eq_true'] at hnb
   exact paSign_int s most hN h hn e rfl rfl ho hs hnb.1 hnb.2
  ·by_cases hb : (findO s f.Q).isSome = true ∧ ((findO s f.Q).getD zeroO).p ≤ most ∧ beginsB f.O r = true
   ·exact paSign_op IH s most hN h hn e rfl rfl ho hc hb.1 hb.2.1 hb.2.2
   ·exact paSign_atom IH s most hN h hn e rfl rfl ho hc hb
end Go.Proofs.YtgcdhffeacdegaaGreatDoor
