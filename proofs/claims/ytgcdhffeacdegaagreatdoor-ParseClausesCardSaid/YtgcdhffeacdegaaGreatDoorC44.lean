/- Layer 10, the reference: named, whole. -/
import Derived.Test.YtgcdhffeacdegaaGreatDoorC42
import Derived.Test.YtgcdhffeacdegaaGreatDoorC43
import Derived.Test.YtgcdhffeacdegaaGreatDoorC24
namespace Go.Proofs.YtgcdhffeacdegaaGreatDoor
open Go.RowKit Go.El

set_option maxRecDepth 100000 in
set_option maxHeartbeats 4000000 in
theorem raNamed_nobeg {f : RF} (s : ByteArray) (sign : Bool) (most : Int) {r : List TokV} {w : World} {nv : Value} {ns : List ByteArray} (h : RaAt f w r nv ns false) (hsg : sign = true) (ho : opensB r = false) {t0 : TokV} {q : List TokV} (e : r = t0 :: q) (hc : ¬ (s = minB ∧ numB r = true)) {o : OpV} (hoq : (findO s f.Q).getD zeroO = o) (hbq : (findO s f.Q).isSome = true) (ep : o.p ≤ most) (hbg : beginsB f.O r = false) :
    Calls Tryz.prog 111 #[.pointer (some ⟨f.pb, 0, none⟩), .string s, .bool sign, .int .i64 most] w (ROPost f w nv r (.ok (atomT s, 0) r ns)) := by
  have HO := Lib.hid h.old
  have hx := ext_box4 w (.cells #[.int .i64 0, .int .i64 0, .string ⟨#[]⟩, .slice none 0 0] 32)
  have HX := Lib.hid hx
  have HZ := Lib.hid (Blk.new w 32 #[.int .i64 0, .int .i64 0, .string ⟨#[]⟩, .slice none 0 0])
  have H := Lib.hid (h.ext hx)
  have HSZ := Lib.hid (World.size_alloc w (.cells #[.int .i64 0, .int .i64 0, .string ⟨#[]⟩, .slice none 0 0] 32))
  have hp : f.pb < w.heap.size := h.blk.lt
  have HOP := Lib.hid (raOpens (h.ext hx) 0 (by omega) (t := t0) (by rw [e]; rfl))
  rw [List.drop_zero, ho] at HOP
  obtain ⟨b, off, hA, d0, d1, d2, d3, d4⟩ := ra_here (h.ext hx) e
  have hlt := plI_lt h.suf h.nil
  have hL := h.toks.len
  have c0 := (h.ext hx).cells.c0
  have c1 := (h.ext hx).cells.c1
  rw [hA] at c0
  have hbb : b < (w.alloc (.cells #[.int .i64 0, .int .i64 0, .string ⟨#[]⟩, .slice none 0 0] 32)).heap.size := cell_lt d0
  have HA := fun W => Lib.hid (refAtom_any s W)
  have HBB := Lib.hid hbg
  clear hbg
  have hc4 := cond4 e hc
  have HFQ := fun W (x : Ext (w.alloc (.cells #[.int .i64 0, .int .i64 0, .string ⟨#[]⟩, .slice none 0 0] 32)) W) => Lib.hid (((h.ext hx).ext x).fq s)
  unfold opR opA at HFQ
  rw [hoq, hbq] at HFQ
  have c2 := (h.ext hx).cells.c2
  have CZ := Lib.hid (rclr_box h (Nat.le_refl _) HZ.out.lt)
  subst hsg
  clear h hx ho hc hoq hbq e d1 d2 d3
  generalize plI f.L r = k at *
  have hq1 : (k : Int) < (f.L.length : Int) := by omega
  go_enter Tryz.func111, Tryz.ntmps111
  go_upto_region 5 with (go_at_call 148; refine HOP.out.mono ?_; rintro e W1 ⟨rfl, x1⟩; have X1 := Lib.hid x1; have y0 := x1.cell c0; have y1 := x1.cell c1; have y2 := x1.cell c2; have z0 := x1.cell d0; have z4 := x1.cell d4; clear x1)
  clear c0 c1 c2 d0 d4
  rcases hc4 with e1 | ⟨e1, e4⟩ | ⟨e1, e4, e5⟩
  · go_region
    all_goals
      have XD : Hid (Ext (w.alloc (.cells #[.int .i64 0, .int .i64 0, .string ⟨#[]⟩, .slice none 0 0] 32)) W1.drew) := Lib.hid X1.out.drew
      have v2 : W1.drew.cell? ⟨f.pb, 2, none⟩ = _ := y2
      clear y0 y1 y2 z0 z4
      generalize W1.drew = W2 at *
      have HF := HFQ _ XD.out
      clear HFQ
      go_upto_region 9 with (go_at_call 115; refine HF.out.mono ?_; rintro e W4 ⟨rfl, x4⟩; have X4 := Lib.hid ((XD.out.trans x4).alloc (.cells #[.int .i64 o.p, .int .i64 o.t, .string o.s] 70)); have BO := Lib.hid (Blk.new W4 70 #[.int .i64 o.p, .int .i64 o.t, .string o.s]); clear x4)
      generalize W4.alloc (.cells #[.int .i64 o.p, .int .i64 o.t, .string o.s] 70) = W5 at *
      generalize W4.heap.size = g10 at *
      have k10 := BO.out.cell
      clear v2 HF
      have HBG := Lib.hid (raBegins (H.out.ext X4.out))
      rw [HBB.out] at HBG
      go_wp2_with (first | (go_at_call 150; refine HBG.out.mono ?_; rintro e W6 ⟨rfl, x6⟩; have X6 := Lib.hid (X4.out.trans x6); have XB := Lib.hid x6; clear x6) | (go_at_call 36; refine (HA _).out.mono ?_; rintro e W7 ⟨rfl, x7⟩; have X7 := Lib.hid (X6.out.trans x7); have Z7 := Lib.hid (HZ.out.ext X7.out); have zc := Z7.out.cell; have zf := Z7.out.frozen; clear x7))
      have kb := blk_set4 Z7.out (.int .i64 3) (.int .i64 0) (.string s) (.slice none 0 0)
      have kc := kb.cell
      have h4 := (H.out.ext X7.out).set4 HO.out (Nat.le_refl _) Z7.out (.int .i64 3) (.int .i64 0) (.string s) (.slice none 0 0)
      have s4 := pstep_set4 (PStep.ext (S := f.S) (nv := nv) (HX.out.trans X7.out)) (Nat.le_refl _) (.int .i64 3) (.int .i64 0) (.string s) (.slice none 0 0)
      refine bodyPost_ret (v := .tuple #[.agg #[.int .i64 3, .int .i64 0, .string s, .slice none 0 0], .int .i64 0]) ?_ rfl ⟨atomT s, 0, none, 0, nv, r, ns, false, rfl, ⟨rfl, rfl, rfl, rfl⟩, h4, s4, TmsIn.term (TmsIn.nil _ _ _ _) 3 0 s, Nat.le_refl _⟩
      simp [results, Tryz.results111, go_sem, kc]
  · go_region
    all_goals
      have XD : Hid (Ext (w.alloc (.cells #[.int .i64 0, .int .i64 0, .string ⟨#[]⟩, .slice none 0 0] 32)) W1.drew) := Lib.hid X1.out.drew
      have v2 : W1.drew.cell? ⟨f.pb, 2, none⟩ = _ := y2
      clear y0 y1 y2 z0 z4
      generalize W1.drew = W2 at *
      have HF := HFQ _ XD.out
      clear HFQ
      go_upto_region 9 with (go_at_call 115; refine HF.out.mono ?_; rintro e W4 ⟨rfl, x4⟩; have X4 := Lib.hid ((XD.out.trans x4).alloc (.cells #[.int .i64 o.p, .int .i64 o.t, .string o.s] 70)); have BO := Lib.hid (Blk.new W4 70 #[.int .i64 o.p, .int .i64 o.t, .string o.s]); clear x4)
      generalize W4.alloc (.cells #[.int .i64 o.p, .int .i64 o.t, .string o.s] 70) = W5 at *
      generalize W4.heap.size = g10 at *
      have k10 := BO.out.cell
      clear v2 HF
      have HBG := Lib.hid (raBegins (H.out.ext X4.out))
      rw [HBB.out] at HBG
      go_wp2_with (first | (go_at_call 150; refine HBG.out.mono ?_; rintro e W6 ⟨rfl, x6⟩; have X6 := Lib.hid (X4.out.trans x6); have XB := Lib.hid x6; clear x6) | (go_at_call 36; refine (HA _).out.mono ?_; rintro e W7 ⟨rfl, x7⟩; have X7 := Lib.hid (X6.out.trans x7); have Z7 := Lib.hid (HZ.out.ext X7.out); have zc := Z7.out.cell; have zf := Z7.out.frozen; clear x7))
      have kb := blk_set4 Z7.out (.int .i64 3) (.int .i64 0) (.string s) (.slice none 0 0)
      have kc := kb.cell
      have h4 := (H.out.ext X7.out).set4 HO.out (Nat.le_refl _) Z7.out (.int .i64 3) (.int .i64 0) (.string s) (.slice none 0 0)
      have s4 := pstep_set4 (PStep.ext (S := f.S) (nv := nv) (HX.out.trans X7.out)) (Nat.le_refl _) (.int .i64 3) (.int .i64 0) (.string s) (.slice none 0 0)
      refine bodyPost_ret (v := .tuple #[.agg #[.int .i64 3, .int .i64 0, .string s, .slice none 0 0], .int .i64 0]) ?_ rfl ⟨atomT s, 0, none, 0, nv, r, ns, false, rfl, ⟨rfl, rfl, rfl, rfl⟩, h4, s4, TmsIn.term (TmsIn.nil _ _ _ _) 3 0 s, Nat.le_refl _⟩
      simp [results, Tryz.results111, go_sem, kc]
  · go_region
    all_goals
      have XD : Hid (Ext (w.alloc (.cells #[.int .i64 0, .int .i64 0, .string ⟨#[]⟩, .slice none 0 0] 32)) W1.drew) := Lib.hid X1.out.drew
      have v2 : W1.drew.cell? ⟨f.pb, 2, none⟩ = _ := y2
      clear y0 y1 y2 z0 z4
      generalize W1.drew = W2 at *
      have HF := HFQ _ XD.out
      clear HFQ
      go_upto_region 9 with (go_at_call 115; refine HF.out.mono ?_; rintro e W4 ⟨rfl, x4⟩; have X4 := Lib.hid ((XD.out.trans x4).alloc (.cells #[.int .i64 o.p, .int .i64 o.t, .string o.s] 70)); have BO := Lib.hid (Blk.new W4 70 #[.int .i64 o.p, .int .i64 o.t, .string o.s]); clear x4)
      generalize W4.alloc (.cells #[.int .i64 o.p, .int .i64 o.t, .string o.s] 70) = W5 at *
      generalize W4.heap.size = g10 at *
      have k10 := BO.out.cell
      clear v2 HF
      have HBG := Lib.hid (raBegins (H.out.ext X4.out))
      rw [HBB.out] at HBG
      go_wp2_with (first | (go_at_call 150; refine HBG.out.mono ?_; rintro e W6 ⟨rfl, x6⟩; have X6 := Lib.hid (X4.out.trans x6); have XB := Lib.hid x6; clear x6) | (go_at_call 36; refine (HA _).out.mono ?_; rintro e W7 ⟨rfl, x7⟩; have X7 := Lib.hid (X6.out.trans x7); have Z7 := Lib.hid (HZ.out.ext X7.out); have zc := Z7.out.cell; have zf := Z7.out.frozen; clear x7))
      have kb := blk_set4 Z7.out (.int .i64 3) (.int .i64 0) (.string s) (.slice none 0 0)
      have kc := kb.cell
      have h4 := (H.out.ext X7.out).set4 HO.out (Nat.le_refl _) Z7.out (.int .i64 3) (.int .i64 0) (.string s) (.slice none 0 0)
      have s4 := pstep_set4 (PStep.ext (S := f.S) (nv := nv) (HX.out.trans X7.out)) (Nat.le_refl _) (.int .i64 3) (.int .i64 0) (.string s) (.slice none 0 0)
      refine bodyPost_ret (v := .tuple #[.agg #[.int .i64 3, .int .i64 0, .string s, .slice none 0 0], .int .i64 0]) ?_ rfl ⟨atomT s, 0, none, 0, nv, r, ns, false, rfl, ⟨rfl, rfl, rfl, rfl⟩, h4, s4, TmsIn.term (TmsIn.nil _ _ _ _) 3 0 s, Nat.le_refl _⟩
      simp [results, Tryz.results111, go_sem, kc]

set_option maxRecDepth 100000 in
set_option maxHeartbeats 4000000 in
theorem raNamed_op {f : RF} {N : Nat} (IH : RTermC f N) (s : ByteArray) (sign : Bool) (most : Int) {r : List TokV} {w : World} {nv : Value} {ns : List ByteArray} (h : RaAt f w r nv ns false) (hsg : sign = true) (ho : opensB r = false) {t0 : TokV} {q : List TokV} (e : r = t0 :: q) (hc : ¬ (s = minB ∧ numB r = true)) {o : OpV} (hoq : (findO s f.Q).getD zeroO = o) (hbq : (findO s f.Q).isSome = true) (ep : o.p ≤ most) (hbg : beginsB f.O r = true) (hN : r.length ≤ N) {m : Nat} (hm : 5 * r.length + 5 ≤ m) :
    Calls Tryz.prog 111 #[.pointer (some ⟨f.pb, 0, none⟩), .string s, .bool sign, .int .i64 most] w (ROPost f w nv r (prM (fun u => (compT s [u], o.p)) (termN f.O m (rightI o.p o.t) r ns))) := by
  obtain ⟨Y, hY⟩ : ∃ Y, termN f.O m (rightI o.p o.t) r ns = Y := ⟨_, rfl⟩
  rw [hY]
  have HLX := Lib.hid hY
  have HNN := Lib.hid hN
  have HM := Lib.hid hm
  clear hY hN hm
  have HO := Lib.hid h.old
  have hx := ext_box4 w (.cells #[.int .i64 0, .int .i64 0, .string ⟨#[]⟩, .slice none 0 0] 32)
  have HX := Lib.hid hx
  have HZ := Lib.hid (Blk.new w 32 #[.int .i64 0, .int .i64 0, .string ⟨#[]⟩, .slice none 0 0])
  have H := Lib.hid (h.ext hx)
  have HSZ := Lib.hid (World.size_alloc w (.cells #[.int .i64 0, .int .i64 0, .string ⟨#[]⟩, .slice none 0 0] 32))
  have hp : f.pb < w.heap.size := h.blk.lt
  have HOP := Lib.hid (raOpens (h.ext hx) 0 (by omega) (t := t0) (by rw [e]; rfl))
  rw [List.drop_zero, ho] at HOP
  obtain ⟨b, off, hA, d0, d1, d2, d3, d4⟩ := ra_here (h.ext hx) e
  have hlt := plI_lt h.suf h.nil
  have hL := h.toks.len
  have c0 := (h.ext hx).cells.c0
  have c1 := (h.ext hx).cells.c1
  rw [hA] at c0
  have hbb : b < (w.alloc (.cells #[.int .i64 0, .int .i64 0, .string ⟨#[]⟩, .slice none 0 0] 32)).heap.size := cell_lt d0
  have HBB := Lib.hid hbg
  clear hbg
  have hc4 := cond4 e hc
  have HFQ := fun W (x : Ext (w.alloc (.cells #[.int .i64 0, .int .i64 0, .string ⟨#[]⟩, .slice none 0 0] 32)) W) => Lib.hid (((h.ext hx).ext x).fq s)
  unfold opR opA at HFQ
  rw [hoq, hbq] at HFQ
  have c2 := (h.ext hx).cells.c2
  have CZ := Lib.hid (rclr_box h (Nat.le_refl _) HZ.out.lt)
  subst hsg
  clear h hx ho hc hoq hbq e d1 d2 d3
  generalize plI f.L r = k at *
  have hq1 : (k : Int) < (f.L.length : Int) := by omega
  go_enter Tryz.func111, Tryz.ntmps111
  go_upto_region 5 with (go_at_call 148; refine HOP.out.mono ?_; rintro e W1 ⟨rfl, x1⟩; have X1 := Lib.hid x1; have y0 := x1.cell c0; have y1 := x1.cell c1; have y2 := x1.cell c2; have z0 := x1.cell d0; have z4 := x1.cell d4; clear x1)
  clear c0 c1 c2 d0 d4
  rcases hc4 with e1 | ⟨e1, e4⟩ | ⟨e1, e4, e5⟩
  · go_region
    all_goals
      have XD : Hid (Ext (w.alloc (.cells #[.int .i64 0, .int .i64 0, .string ⟨#[]⟩, .slice none 0 0] 32)) W1.drew) := Lib.hid X1.out.drew
      have v2 : W1.drew.cell? ⟨f.pb, 2, none⟩ = _ := y2
      clear y0 y1 y2 z0 z4
      generalize W1.drew = W2 at *
      have HF := HFQ _ XD.out
      clear HFQ
      go_upto_region 9 with (go_at_call 115; refine HF.out.mono ?_; rintro e W4 ⟨rfl, x4⟩; have X4 := Lib.hid ((XD.out.trans x4).alloc (.cells #[.int .i64 o.p, .int .i64 o.t, .string o.s] 70)); have X4W := Lib.hid (XD.out.trans x4); have BO := Lib.hid (Blk.new W4 70 #[.int .i64 o.p, .int .i64 o.t, .string o.s]); clear x4)
      have G10 : Hid ((w.alloc (.cells #[.int .i64 0, .int .i64 0, .string ⟨#[]⟩, .slice none 0 0] 32)).heap.size ≤ W4.heap.size) := Lib.hid X4W.out.size
      have CO := Lib.hid (rclr_box (H.out.ext X4W.out) (Nat.le_refl _) BO.out.lt)
      generalize W4.alloc (.cells #[.int .i64 o.p, .int .i64 o.t, .string o.s] 70) = W5 at *
      generalize W4.heap.size = g10 at *
      have k10 := BO.out.cell
      clear v2 HF
      have HBG := Lib.hid (raBegins (H.out.ext X4.out))
      rw [HBB.out] at HBG
      have GG : Hid (w.heap.size < g10) := Lib.hid (by have := HSZ.out; have := G10.out; omega)
      go_upto_region 10 with (go_at_call 150; refine HBG.out.mono ?_; rintro e W6 ⟨rfl, x6⟩; have X6 := Lib.hid (X4.out.trans x6); have XB := Lib.hid x6; clear x6)
      clear k10
      have HB := Lib.hid (H.out.ext X6.out)
      have SB := Lib.hid (PStep.ext (S := f.S) (nv := nv) (HX.out.trans X6.out))
      have ZB := Lib.hid (HZ.out.ext X6.out)
      have CB := Lib.hid ((PStep.ext (S := f.S) (nv := nv) X6.out).clr CZ.out)
      have BB9 := Lib.hid (BO.out.ext XB.out)
      have CB9 := Lib.hid ((PStep.ext (S := f.S) (nv := nv) XB.out).clr CO.out)
      have GB : Hid (w.heap.size < W6.heap.size) := Lib.hid ZB.out.lt
      have HRT := fun V => Lib.hid (rRight_any o.p o.t o.s V)
      have HTT := fun V (x : Ext W6 V) => Lib.hid (show Calls Tryz.prog 45 #[.pointer (some ⟨f.pb, 0, none⟩), .int .i64 (rightI o.p o.t)] V (RTPost f V nv r Y) from by
        have := IH r ns nv V m (rightI o.p o.t) HNN.out (HB.out.ext x) HM.out
        rw [HLX.out] at this
        exact this)
      have m9b := BB9.out.cell
      have hgn : ¬ g10 = w.heap.size := by have := GG.out; omega
      have hgn2 : ¬ w.heap.size = g10 := by have := GG.out; omega
      go_region_law ((first
        | (go_simp; go_at_call 75; refine (HRT _).out.mono ?_; rintro e V1 ⟨rfl, x1⟩; have X1 := Lib.hid ((Ext.refl _).drew.trans x1); have v9 := (BB9.out.ext X1.out).cell; clear x1)
        | (go_simp; go_at_call 45; refine (HTT _ X1.out).out.mono ?_; rintro e W7 ⟨t, A, c, nv5, r5, ns5, b5, rfl, hres, h5, s5, ht5, hl5⟩; have HRES := Lib.hid hres; have H5 := Lib.hid h5; have S5 := Lib.hid (SB.out.trans ((PStep.ext X1.out).trans s5)); have T5 := Lib.hid ht5; have L5 := Lib.hid hl5; have GV : Hid (w.heap.size < V1.heap.size) := Lib.hid (Nat.lt_of_lt_of_le GB.out X1.out.size); have G6 := Lib.hid s5.size; have Z5 := Lib.hid ((ZB.out.ext X1.out).mods s5.mods ((PStep.ext (S := f.S) (nv := nv) X1.out).clr CB.out).no); have B95 := Lib.hid ((BB9.out.ext X1.out).mods s5.mods ((PStep.ext (S := f.S) (nv := nv) X1.out).clr CB9.out).no); have u9 := B95.out.cell; have y9 := (B95.out.ext (ext_box4 W7 (.cells #[.int .i64 (Tm.k t), .int .i64 (Tm.n t), .string (Tm.s t), .slice A (Tm.l t).length c] 32))).cell; have hl9 := B95.out.lt; have HCM := Lib.hid (refComp_any s [(t, A, c)] (some ⟨W7.heap.size, 0, none⟩) 1 (W7.alloc (.cells #[.int .i64 (Tm.k t), .int .i64 (Tm.n t), .string (Tm.s t), .slice A (Tm.l t).length c] 32)) (NewT f.S nv5 V1 W7) (El.Src.new W7 #[.int .i64 (Tm.k t), .int .i64 (Tm.n t), .string (Tm.s t), .slice A (Tm.l t).length c] 32 1 4 rfl) (fun e he => by simp only [List.mem_cons, List.not_mem_nil, or_false] at he; subst he; exact T5.out.ext (ext_box4 _ _)) (by simp) (by simp) (fun k hk => Nat.lt_of_lt_of_le hk.2.2.2 (ext_box4 W7 _).size)); simp only [List.length_cons, List.length_nil, Nat.reduceAdd] at HCM; clear hres h5 s5 ht5 hl5)
        | (go_simp; go_at_call 33; refine HCM.out.mono ?_; rintro e W8 ⟨A6, c6, rfl, ht6, hx6⟩; have T6 := Lib.hid ht6; have X8 := Lib.hid ((ext_box4 W7 _).trans hx6); have Z6 := Lib.hid (Z5.out.ext X8.out); have zc := Z6.out.cell; have zf := Z6.out.frozen; have t9 := (B95.out.ext X8.out).cell; clear ht6 hx6)))
      all_goals
        go_wp2_with fail
        have kb := blk_set4 Z6.out (.int .i64 4) (.int .i64 0) (.string s) (.slice A6 1 c6)
        have kc := kb.cell
        have h7 := (H5.out.ext X8.out).set4 HO.out (Nat.le_refl _) Z6.out (.int .i64 4) (.int .i64 0) (.string s) (.slice A6 1 c6)
        have s7 := pstep_set4 (S5.out.trans (PStep.ext X8.out)) (Nat.le_refl _) (.int .i64 4) (.int .i64 0) (.string s) (.slice A6 1 c6)
        have hnew : TmIn (NewT f.S nv5 V1 W8) W8 (.mk 4 0 s [t]) A6 c6 := T6.out.mono (fun k hk => by
          rcases hk with hk | ⟨h1, h2⟩
          · exact hk.step (PStep.ext X8.out)
          · have h1' : W7.heap.size ≤ k := by simp at h1; omega
            exact ⟨Nat.le_trans G6.out h1', rclr_box H5.out h1' h2⟩)
        have t7 := tmN_wide (w := w) (tmN_set4 hnew (z := w.heap.size) GV.out (.int .i64 4) (.int .i64 0) (.string s) (.slice A6 1 c6)) (Nat.le_of_lt GV.out)
        have hcomp : compT s [t] = .mk 4 0 s [t] := if_neg (by simp)
        have hres := prM_res (g := fun u => (compT s [u], o.p)) HRES.out
        rw [hcomp] at hres
        refine bodyPost_ret (v := .tuple #[.agg #[.int .i64 4, .int .i64 0, .string s, .slice A6 1 c6], .int .i64 o.p]) ?_ rfl ⟨.mk 4 0 s [t], o.p, A6, c6, nv5, r5, ns5, b5, rfl, hres, h7, s7, t7, L5.out⟩
        simp [results, Tryz.results111, go_sem, kc]
  · go_region
    all_goals
      have XD : Hid (Ext (w.alloc (.cells #[.int .i64 0, .int .i64 0, .string ⟨#[]⟩, .slice none 0 0] 32)) W1.drew) := Lib.hid X1.out.drew
      have v2 : W1.drew.cell? ⟨f.pb, 2, none⟩ = _ := y2
      clear y0 y1 y2 z0 z4
      generalize W1.drew = W2 at *
      have HF := HFQ _ XD.out
      clear HFQ
      go_upto_region 9 with (go_at_call 115; refine HF.out.mono ?_; rintro e W4 ⟨rfl, x4⟩; have X4 := Lib.hid ((XD.out.trans x4).alloc (.cells #[.int .i64 o.p, .int .i64 o.t, .string o.s] 70)); have X4W := Lib.hid (XD.out.trans x4); have BO := Lib.hid (Blk.new W4 70 #[.int .i64 o.p, .int .i64 o.t, .string o.s]); clear x4)
      have G10 : Hid ((w.alloc (.cells #[.int .i64 0, .int .i64 0, .string ⟨#[]⟩, .slice none 0 0] 32)).heap.size ≤ W4.heap.size) := Lib.hid X4W.out.size
      have CO := Lib.hid (rclr_box (H.out.ext X4W.out) (Nat.le_refl _) BO.out.lt)
      generalize W4.alloc (.cells #[.int .i64 o.p, .int .i64 o.t, .string o.s] 70) = W5 at *
      generalize W4.heap.size = g10 at *
      have k10 := BO.out.cell
      clear v2 HF
      have HBG := Lib.hid (raBegins (H.out.ext X4.out))
      rw [HBB.out] at HBG
      have GG : Hid (w.heap.size < g10) := Lib.hid (by have := HSZ.out; have := G10.out; omega)
      go_upto_region 10 with (go_at_call 150; refine HBG.out.mono ?_; rintro e W6 ⟨rfl, x6⟩; have X6 := Lib.hid (X4.out.trans x6); have XB := Lib.hid x6; clear x6)
      clear k10
      have HB := Lib.hid (H.out.ext X6.out)
      have SB := Lib.hid (PStep.ext (S := f.S) (nv := nv) (HX.out.trans X6.out))
      have ZB := Lib.hid (HZ.out.ext X6.out)
      have CB := Lib.hid ((PStep.ext (S := f.S) (nv := nv) X6.out).clr CZ.out)
      have BB9 := Lib.hid (BO.out.ext XB.out)
      have CB9 := Lib.hid ((PStep.ext (S := f.S) (nv := nv) XB.out).clr CO.out)
      have GB : Hid (w.heap.size < W6.heap.size) := Lib.hid ZB.out.lt
      have HRT := fun V => Lib.hid (rRight_any o.p o.t o.s V)
      have HTT := fun V (x : Ext W6 V) => Lib.hid (show Calls Tryz.prog 45 #[.pointer (some ⟨f.pb, 0, none⟩), .int .i64 (rightI o.p o.t)] V (RTPost f V nv r Y) from by
        have := IH r ns nv V m (rightI o.p o.t) HNN.out (HB.out.ext x) HM.out
        rw [HLX.out] at this
        exact this)
      have m9b := BB9.out.cell
      have hgn : ¬ g10 = w.heap.size := by have := GG.out; omega
      have hgn2 : ¬ w.heap.size = g10 := by have := GG.out; omega
      go_region_law ((first
        | (go_simp; go_at_call 75; refine (HRT _).out.mono ?_; rintro e V1 ⟨rfl, x1⟩; have X1 := Lib.hid ((Ext.refl _).drew.trans x1); have v9 := (BB9.out.ext X1.out).cell; clear x1)
        | (go_simp; go_at_call 45; refine (HTT _ X1.out).out.mono ?_; rintro e W7 ⟨t, A, c, nv5, r5, ns5, b5, rfl, hres, h5, s5, ht5, hl5⟩; have HRES := Lib.hid hres; have H5 := Lib.hid h5; have S5 := Lib.hid (SB.out.trans ((PStep.ext X1.out).trans s5)); have T5 := Lib.hid ht5; have L5 := Lib.hid hl5; have GV : Hid (w.heap.size < V1.heap.size) := Lib.hid (Nat.lt_of_lt_of_le GB.out X1.out.size); have G6 := Lib.hid s5.size; have Z5 := Lib.hid ((ZB.out.ext X1.out).mods s5.mods ((PStep.ext (S := f.S) (nv := nv) X1.out).clr CB.out).no); have B95 := Lib.hid ((BB9.out.ext X1.out).mods s5.mods ((PStep.ext (S := f.S) (nv := nv) X1.out).clr CB9.out).no); have u9 := B95.out.cell; have y9 := (B95.out.ext (ext_box4 W7 (.cells #[.int .i64 (Tm.k t), .int .i64 (Tm.n t), .string (Tm.s t), .slice A (Tm.l t).length c] 32))).cell; have hl9 := B95.out.lt; have HCM := Lib.hid (refComp_any s [(t, A, c)] (some ⟨W7.heap.size, 0, none⟩) 1 (W7.alloc (.cells #[.int .i64 (Tm.k t), .int .i64 (Tm.n t), .string (Tm.s t), .slice A (Tm.l t).length c] 32)) (NewT f.S nv5 V1 W7) (El.Src.new W7 #[.int .i64 (Tm.k t), .int .i64 (Tm.n t), .string (Tm.s t), .slice A (Tm.l t).length c] 32 1 4 rfl) (fun e he => by simp only [List.mem_cons, List.not_mem_nil, or_false] at he; subst he; exact T5.out.ext (ext_box4 _ _)) (by simp) (by simp) (fun k hk => Nat.lt_of_lt_of_le hk.2.2.2 (ext_box4 W7 _).size)); simp only [List.length_cons, List.length_nil, Nat.reduceAdd] at HCM; clear hres h5 s5 ht5 hl5)
        | (go_simp; go_at_call 33; refine HCM.out.mono ?_; rintro e W8 ⟨A6, c6, rfl, ht6, hx6⟩; have T6 := Lib.hid ht6; have X8 := Lib.hid ((ext_box4 W7 _).trans hx6); have Z6 := Lib.hid (Z5.out.ext X8.out); have zc := Z6.out.cell; have zf := Z6.out.frozen; have t9 := (B95.out.ext X8.out).cell; clear ht6 hx6)))
      all_goals
        go_wp2_with fail
        have kb := blk_set4 Z6.out (.int .i64 4) (.int .i64 0) (.string s) (.slice A6 1 c6)
        have kc := kb.cell
        have h7 := (H5.out.ext X8.out).set4 HO.out (Nat.le_refl _) Z6.out (.int .i64 4) (.int .i64 0) (.string s) (.slice A6 1 c6)
        have s7 := pstep_set4 (S5.out.trans (PStep.ext X8.out)) (Nat.le_refl _) (.int .i64 4) (.int .i64 0) (.string s) (.slice A6 1 c6)
        have hnew : TmIn (NewT f.S nv5 V1 W8) W8 (.mk 4 0 s [t]) A6 c6 := T6.out.mono (fun k hk => by
          rcases hk with hk | ⟨h1, h2⟩
          · exact hk.step (PStep.ext X8.out)
          · have h1' : W7.heap.size ≤ k := by simp at h1; omega
            exact ⟨Nat.le_trans G6.out h1', rclr_box H5.out h1' h2⟩)
        have t7 := tmN_wide (w := w) (tmN_set4 hnew (z := w.heap.size) GV.out (.int .i64 4) (.int .i64 0) (.string s) (.slice A6 1 c6)) (Nat.le_of_lt GV.out)
        have hcomp : compT s [t] = .mk 4 0 s [t] := if_neg (by simp)
        have hres := prM_res (g := fun u => (compT s [u], o.p)) HRES.out
        rw [hcomp] at hres
        refine bodyPost_ret (v := .tuple #[.agg #[.int .i64 4, .int .i64 0, .string s, .slice A6 1 c6], .int .i64 o.p]) ?_ rfl ⟨.mk 4 0 s [t], o.p, A6, c6, nv5, r5, ns5, b5, rfl, hres, h7, s7, t7, L5.out⟩
        simp [results, Tryz.results111, go_sem, kc]
  · go_region
    all_goals
      have XD : Hid (Ext (w.alloc (.cells #[.int .i64 0, .int .i64 0, .string ⟨#[]⟩, .slice none 0 0] 32)) W1.drew) := Lib.hid X1.out.drew
      have v2 : W1.drew.cell? ⟨f.pb, 2, none⟩ = _ := y2
      clear y0 y1 y2 z0 z4
      generalize W1.drew = W2 at *
      have HF := HFQ _ XD.out
      clear HFQ
      go_upto_region 9 with (go_at_call 115; refine HF.out.mono ?_; rintro e W4 ⟨rfl, x4⟩; have X4 := Lib.hid ((XD.out.trans x4).alloc (.cells #[.int .i64 o.p, .int .i64 o.t, .string o.s] 70)); have X4W := Lib.hid (XD.out.trans x4); have BO := Lib.hid (Blk.new W4 70 #[.int .i64 o.p, .int .i64 o.t, .string o.s]); clear x4)
      have G10 : Hid ((w.alloc (.cells #[.int .i64 0, .int .i64 0, .string ⟨#[]⟩, .slice none 0 0] 32)).heap.size ≤ W4.heap.size) := Lib.hid X4W.out.size
      have CO := Lib.hid (rclr_box (H.out.ext X4W.out) (Nat.le_refl _) BO.out.lt)
      generalize W4.alloc (.cells #[.int .i64 o.p, .int .i64 o.t, .string o.s] 70) = W5 at *
      generalize W4.heap.size = g10 at *
      have k10 := BO.out.cell
      clear v2 HF
      have HBG := Lib.hid (raBegins (H.out.ext X4.out))
      rw [HBB.out] at HBG
      have GG : Hid (w.heap.size < g10) := Lib.hid (by have := HSZ.out; have := G10.out; omega)
      go_upto_region 10 with (go_at_call 150; refine HBG.out.mono ?_; rintro e W6 ⟨rfl, x6⟩; have X6 := Lib.hid (X4.out.trans x6); have XB := Lib.hid x6; clear x6)
      clear k10
      have HB := Lib.hid (H.out.ext X6.out)
      have SB := Lib.hid (PStep.ext (S := f.S) (nv := nv) (HX.out.trans X6.out))
      have ZB := Lib.hid (HZ.out.ext X6.out)
      have CB := Lib.hid ((PStep.ext (S := f.S) (nv := nv) X6.out).clr CZ.out)
      have BB9 := Lib.hid (BO.out.ext XB.out)
      have CB9 := Lib.hid ((PStep.ext (S := f.S) (nv := nv) XB.out).clr CO.out)
      have GB : Hid (w.heap.size < W6.heap.size) := Lib.hid ZB.out.lt
      have HRT := fun V => Lib.hid (rRight_any o.p o.t o.s V)
      have HTT := fun V (x : Ext W6 V) => Lib.hid (show Calls Tryz.prog 45 #[.pointer (some ⟨f.pb, 0, none⟩), .int .i64 (rightI o.p o.t)] V (RTPost f V nv r Y) from by
        have := IH r ns nv V m (rightI o.p o.t) HNN.out (HB.out.ext x) HM.out
        rw [HLX.out] at this
        exact this)
      have m9b := BB9.out.cell
      have hgn : ¬ g10 = w.heap.size := by have := GG.out; omega
      have hgn2 : ¬ w.heap.size = g10 := by have := GG.out; omega
      go_region_law ((first
        | (go_simp; go_at_call 75; refine (HRT _).out.mono ?_; rintro e V1 ⟨rfl, x1⟩; have X1 := Lib.hid ((Ext.refl _).drew.trans x1); have v9 := (BB9.out.ext X1.out).cell; clear x1)
        | (go_simp; go_at_call 45; refine (HTT _ X1.out).out.mono ?_; rintro e W7 ⟨t, A, c, nv5, r5, ns5, b5, rfl, hres, h5, s5, ht5, hl5⟩; have HRES := Lib.hid hres; have H5 := Lib.hid h5; have S5 := Lib.hid (SB.out.trans ((PStep.ext X1.out).trans s5)); have T5 := Lib.hid ht5; have L5 := Lib.hid hl5; have GV : Hid (w.heap.size < V1.heap.size) := Lib.hid (Nat.lt_of_lt_of_le GB.out X1.out.size); have G6 := Lib.hid s5.size; have Z5 := Lib.hid ((ZB.out.ext X1.out).mods s5.mods ((PStep.ext (S := f.S) (nv := nv) X1.out).clr CB.out).no); have B95 := Lib.hid ((BB9.out.ext X1.out).mods s5.mods ((PStep.ext (S := f.S) (nv := nv) X1.out).clr CB9.out).no); have u9 := B95.out.cell; have y9 := (B95.out.ext (ext_box4 W7 (.cells #[.int .i64 (Tm.k t), .int .i64 (Tm.n t), .string (Tm.s t), .slice A (Tm.l t).length c] 32))).cell; have hl9 := B95.out.lt; have HCM := Lib.hid (refComp_any s [(t, A, c)] (some ⟨W7.heap.size, 0, none⟩) 1 (W7.alloc (.cells #[.int .i64 (Tm.k t), .int .i64 (Tm.n t), .string (Tm.s t), .slice A (Tm.l t).length c] 32)) (NewT f.S nv5 V1 W7) (El.Src.new W7 #[.int .i64 (Tm.k t), .int .i64 (Tm.n t), .string (Tm.s t), .slice A (Tm.l t).length c] 32 1 4 rfl) (fun e he => by simp only [List.mem_cons, List.not_mem_nil, or_false] at he; subst he; exact T5.out.ext (ext_box4 _ _)) (by simp) (by simp) (fun k hk => Nat.lt_of_lt_of_le hk.2.2.2 (ext_box4 W7 _).size)); simp only [List.length_cons, List.length_nil, Nat.reduceAdd] at HCM; clear hres h5 s5 ht5 hl5)
        | (go_simp; go_at_call 33; refine HCM.out.mono ?_; rintro e W8 ⟨A6, c6, rfl, ht6, hx6⟩; have T6 := Lib.hid ht6; have X8 := Lib.hid ((ext_box4 W7 _).trans hx6); have Z6 := Lib.hid (Z5.out.ext X8.out); have zc := Z6.out.cell; have zf := Z6.out.frozen; have t9 := (B95.out.ext X8.out).cell; clear ht6 hx6)))
      all_goals
        go_wp2_with fail
        have kb := blk_set4 Z6.out (.int .i64 4) (.int .i64 0) (.string s) (.slice A6 1 c6)
        have kc := kb.cell
        have h7 := (H5.out.ext X8.out).set4 HO.out (Nat.le_refl _) Z6.out (.int .i64 4) (.int .i64 0) (.string s) (.slice A6 1 c6)
        have s7 := pstep_set4 (S5.out.trans (PStep.ext X8.out)) (Nat.le_refl _) (.int .i64 4) (.int .i64 0) (.string s) (.slice A6 1 c6)
        have hnew : TmIn (NewT f.S nv5 V1 W8) W8 (.mk 4 0 s [t]) A6 c6 := T6.out.mono (fun k hk => by
          rcases hk with hk | ⟨h1, h2⟩
          · exact hk.step (PStep.ext X8.out)
          · have h1' : W7.heap.size ≤ k := by simp at h1; omega
            exact ⟨Nat.le_trans G6.out h1', rclr_box H5.out h1' h2⟩)
        have t7 := tmN_wide (w := w) (tmN_set4 hnew (z := w.heap.size) GV.out (.int .i64 4) (.int .i64 0) (.string s) (.slice A6 1 c6)) (Nat.le_of_lt GV.out)
        have hcomp : compT s [t] = .mk 4 0 s [t] := if_neg (by simp)
        have hres := prM_res (g := fun u => (compT s [u], o.p)) HRES.out
        rw [hcomp] at hres
        refine bodyPost_ret (v := .tuple #[.agg #[.int .i64 4, .int .i64 0, .string s, .slice A6 1 c6], .int .i64 o.p]) ?_ rfl ⟨.mk 4 0 s [t], o.p, A6, c6, nv5, r5, ns5, b5, rfl, hres, h7, s7, t7, L5.out⟩
        simp [results, Tryz.results111, go_sem, kc]

/-- What begins with a name. -/
theorem raNamed {f : RF} {N : Nat} (IH : RTermC f N) (s : ByteArray) (sign : Bool) (most : Int) {r : List TokV} (hN : r.length ≤ N) {w : World} {nv : Value} {ns : List ByteArray} (h : RaAt f w r nv ns false) {n : Nat} (hn : 5 * r.length + 6 ≤ n) :
    Calls Tryz.prog 111 #[.pointer (some ⟨f.pb, 0, none⟩), .string s, .bool sign, .int .i64 most] w (ROPost f w nv r (if sign = true then signN f.O n s most r ns else namedN f.O n s r ns)) := by
  obtain ⟨m, rfl⟩ : ∃ m, n = m + 1 := ⟨n - 1, by omega⟩
  obtain ⟨t0, q, e⟩ := ToksOk.ne h.suf h.nil
  have hlt : r.tail.length + 1 = r.length := by rw [e]; simp
  cases ho : opensB r with
  | true =>
    cases sign with
    | true =>
      rw [if_pos rfl, sign_named _ _ _ _ _ _ ho]
      obtain ⟨k, rfl⟩ : ∃ k, m = k + 1 := ⟨m - 1, by omega⟩
      rw [namedN_eq, ho]
      exact raNamed_opens IH s true most (by omega) h (by omega) ho
    | false =>
      rw [if_neg (by simp), namedN_eq, ho]
      exact raNamed_opens IH s false most (by omega) h (by omega) ho
  | false =>
    cases sign with
    | false =>
      rw [if_neg (by simp), named_atom _ (by omega) s ns ho]
      exact raNamed_atom s false most h rfl ho
    | true =>
      rw [if_pos rfl]
      by_cases hc : s = minB ∧ numB r = true
      · rw [sign_int _ _ _ _ _ _ ho hc]
        obtain ⟨hs, hnb⟩ := hc
        rw [e] at hnb
        simp only [numB, Bool.and_eq_true, decide_eq_true_eq, Bool.not_eq_true'] at hnb
        exact raNamed_int s true most h rfl ho e hs hnb.1 hnb.2
      · by_cases hb : (findO s f.Q).isSome = true ∧ ((findO s f.Q).getD zeroO).p ≤ most ∧ beginsB f.O r = true
        · rw [sign_op f.O m s most r ns ho hc hb]
          exact raNamed_op IH s true most h rfl ho e hc rfl hb.1 hb.2.1 hb.2.2 hN (by omega)
        · rw [sign_atom f.O (by omega) s most r ns ho hc hb, named_atom _ (by omega) s ns ho]
          cases hbq : (findO s f.Q).isSome with
          | false => exact raNamed_no s true most h rfl ho e hc rfl hbq (.inl rfl)
          | true =>
            by_cases hp : ((findO s f.Q).getD zeroO).p ≤ most
            · cases hbg : beginsB f.O r with
              | false => exact raNamed_nobeg s true most h rfl ho e hc rfl hbq hp hbg
              | true => exact absurd ⟨hbq, hp, hbg⟩ hb
            · exact raNamed_no s true most h rfl ho e hc rfl hbq (.inr (by omega))
end Go.Proofs.YtgcdhffeacdegaaGreatDoor
