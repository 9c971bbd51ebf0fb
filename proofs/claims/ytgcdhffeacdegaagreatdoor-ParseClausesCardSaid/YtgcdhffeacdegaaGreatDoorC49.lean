/- Layer 10, the reference: the walk of operand: brackets; operand, whole. -/
import Derived.Test.YtgcdhffeacdegaaGreatDoorC48
import Derived.Test.YtgcdhffeacdegaaGreatDoorC26
namespace Go.Proofs.YtgcdhffeacdegaaGreatDoor
open Go.RowKit Go.El

set_option maxRecDepth 100000 in
set_option maxHeartbeats 4000000 in
theorem raOper_par {f : RF} {N : Nat} (IH : RTermC f N) (most : Int) {r : List TokV} (hN : r.length ≤ N + 1) {w : World} {nv : Value} {ns : List ByteArray} (h : RaAt f w r nv ns false) {n : Nat} (hn : 5 * r.length + 3 ≤ n) {t0 : TokV} {q : List TokV} (e : r = t0 :: q) (hk : t0.kind = 5) (hs : t0.s = ⟨#[40]⟩)  :
    Calls Tryz.prog 72 #[.pointer (some ⟨f.pb, 0, none⟩), .int .i64 most] w (ROPost f w nv r (operN f.O n most r ns)) := by
  obtain ⟨m, rfl⟩ : ∃ m, n = m + 1 := ⟨n - 1, by omega⟩
  have hop : operN f.O (m + 1) most r ns = bracN f.O m t0 q ns := by rw [e]; simp [operN, hk]
  obtain ⟨j, rfl⟩ : ∃ j, m = j + 1 := ⟨m - 1, by omega⟩
  rw [hop, brac_par f.O j t0 q ns hs]
  obtain ⟨X, hX⟩ : ∃ X, termN f.O j 1200 q ns = X := ⟨_, rfl⟩
  rw [hX]
  have HLX := Lib.hid hX
  clear hX
  obtain ⟨u, qq, hq⟩ := h.toks.more h.suf e (by rw [hk]; decide)
  have t1 := suf_tail h.suf e
  have t3 := plI_tail h.suf e
  have hqn : q ≠ [] := by rw [hq]; simp
  have HL : Hid (ns.length + q.length ≤ f.L.length) := Lib.hid (by have := h.nl; rw [e] at this; simp at this; omega)
  have HQL : Hid (q.length + 1 = r.length) := Lib.hid (by rw [e]; simp)
  have HL2 := Lib.hid h.nl
  have HT3 := Lib.hid t3
  have HNN := Lib.hid hN
  have HM := Lib.hid hn
  clear t3 hq hN hn
  have hx := ext_box4 w (.cells #[.int .i64 0, .int .i64 0, .string ⟨#[]⟩, .slice none 0 0] 32)
  have HO := Lib.hid h.old
  have HX := Lib.hid hx
  have H := Lib.hid (h.ext hx)
  have HZ := Lib.hid (Blk.new w 32 #[.int .i64 0, .int .i64 0, .string ⟨#[]⟩, .slice none 0 0])
  have HSZ := Lib.hid (World.size_alloc w (.cells #[.int .i64 0, .int .i64 0, .string ⟨#[]⟩, .slice none 0 0] 32))
  have CZ := Lib.hid (rclr_box h (Nat.le_refl _) HZ.out.lt)
  have hp : f.pb < w.heap.size := h.blk.lt
  obtain ⟨b, off, hA, d0, d1, d2, d3, d4⟩ := ra_here (h.ext hx) e
  have hlt := plI_lt h.suf h.nil
  have hL := h.toks.len
  have c0 := (h.ext hx).cells.c0
  have c1 := (h.ext hx).cells.c1
  have c4 := (h.ext hx).cells.c4
  rw [hA] at c0
  have hbb : b < (w.alloc (.cells #[.int .i64 0, .int .i64 0, .string ⟨#[]⟩, .slice none 0 0] 32)).heap.size := cell_lt d0
  have hpp : f.pb < (w.alloc (.cells #[.int .i64 0, .int .i64 0, .string ⟨#[]⟩, .slice none 0 0] 32)).heap.size := (h.ext hx).blk.lt
  obtain ⟨k, hkk⟩ : ∃ k, plI f.L r = k := ⟨_, rfl⟩
  have HKK := Lib.hid hkk
  rw [hkk] at c1 d0 d1 d2 d3 d4 hlt
  have hq1 : (k : Int) < (f.L.length : Int) := by omega
  have HK := Lib.hid hk
  have HE := Lib.hid e
  have HS := Lib.hid hs
  clear hs
  clear h hx hA hkk hk e
  go_enter Tryz.func72, Tryz.ntmps72
  go_upto_region 3 with fail
  generalize w.alloc (.cells #[.int .i64 0, .int .i64 0, .string ⟨#[]⟩, .slice none 0 0] 32) = W0 at *
  go_region
  all_goals
    obtain ⟨xb, kb⟩ := ra_box (W0 := W0) t0
    have X1 := Lib.hid xb
    have B6 := Lib.hid kb
    clear c0 c1 c4 d0 d1 d2 d3 d4 xb kb
    have G6 : Hid (w.heap.size < W0.heap.size) := Lib.hid (by rw [HSZ.out]; omega)
    have D6 := Lib.hid (rclr_box H.out (Nat.le_refl _) B6.out.lt)
    generalize (W0.alloc (.cells #[.int .i64 t0.kind, .string t0.s, .int .i64 t0.n, .int .i64 t0.at_, .bool t0.lay] 55)).drew = WB at *
    generalize W0.heap.size = g6 at *
    rw [HK.out, HS.out] at B6
    have HB := Lib.hid (H.out.ext X1.out)
    have SB := Lib.hid (PStep.ext (S := f.S) (nv := nv) (HX.out.trans X1.out))
    have ZB := Lib.hid (HZ.out.ext X1.out)
    have CB := Lib.hid ((PStep.ext (S := f.S) (nv := nv) X1.out).clr CZ.out)
    have k6 := B6.out.cell
    clear H HZ CZ
    have s1 := HB.out.setI t1 hqn HL.out ((plI f.L r : Int) + 1) (by rw [HT3.out]; omega)
    rw [HKK.out] at s1
    have c1 := HB.out.cells.c1
    rw [HKK.out] at c1
    have f1 := HB.out.blk.frozen 1
    have H6 := Lib.hid s1.1
    have S6 := Lib.hid (SB.out.trans s1.2)
    have Z6 := Lib.hid (ZB.out.mods s1.2.mods CB.out.no)
    have B66 := Lib.hid (B6.out.mods s1.2.mods D6.out.no)
    have C6 := Lib.hid (s1.2.clr CB.out)
    have D66 := Lib.hid (s1.2.clr D6.out)
    clear s1
    go_upto_region 8 with fail
    generalize WB.setCell ⟨f.pb, 1, none⟩ (.int .i64 ((k : Int) + 1)) = W6 at *
    clear c1 f1 k6 HB SB ZB CB B6 D6
    have HB := H6
    have SB := S6
    have ZB := Z6
    have CB := C6
    have B6 := B66
    have D6 := D66
    have GB : Hid (w.heap.size < W6.heap.size) := Lib.hid Z6.out.lt
    have k6 := B6.out.cell
    clear H6 S6 Z6 C6 B66 D66
    have HT := Lib.hid (IH q ns nv W6 j 1200 (by have := HNN.out; have := HQL.out; omega) HB.out (by have := HM.out; have := HQL.out; omega))
    rw [HLX.out] at HT
    go_upto_region 18 with (go_at_call 45; refine HT.out.mono ?_; rintro e W7 ⟨t, A, c, nv5, r5, ns5, b5, rfl, hres, h5, s5, ht5, hl5⟩; have HRES0 := Lib.hid hres; have H7 := Lib.hid h5; have S7 := Lib.hid (SB.out.trans s5); have T7 := Lib.hid ht5; have L7 := Lib.hid hl5; have Z7 := Lib.hid (ZB.out.mods s5.mods CB.out.no); have C7 := Lib.hid (s5.clr CB.out); have G7 := Lib.hid s5.size; clear hres h5 s5 ht5 hl5)
    have hx8 := ext_box4 W7 (.cells #[.int .i64 (Tm.k t), .int .i64 (Tm.n t), .string (Tm.s t), .slice A (Tm.l t).length c] 32)
    have H8 := Lib.hid (H7.out.ext hx8)
    have S8 := Lib.hid (S7.out.trans (PStep.ext hx8))
    have Z8 := Lib.hid (Z7.out.ext hx8)
    have C8 := Lib.hid ((PStep.ext (S := f.S) (nv := nv5) hx8).clr C7.out)
    have B8 := Lib.hid (Blk.new W7 32 #[.int .i64 (Tm.k t), .int .i64 (Tm.n t), .string (Tm.s t), .slice A (Tm.l t).length c])
    have D8 := Lib.hid (rclr_box H7.out (Nat.le_refl _) B8.out.lt)
    have T8 : Hid (TmIn (NewT f.S nv5 W6 (W7.alloc (.cells #[.int .i64 (Tm.k t), .int .i64 (Tm.n t), .string (Tm.s t), .slice A (Tm.l t).length c] 32))) (W7.alloc (.cells #[.int .i64 (Tm.k t), .int .i64 (Tm.n t), .string (Tm.s t), .slice A (Tm.l t).length c] 32)) t A c) := Lib.hid (pstep_tmN (PStep.ext hx8) T7.out)
    have G8 : Hid (W6.heap.size ≤ (W7.alloc (.cells #[.int .i64 (Tm.k t), .int .i64 (Tm.n t), .string (Tm.s t), .slice A (Tm.l t).length c] 32)).heap.size) := Lib.hid (Nat.le_trans G7.out hx8.size)
    clear hx8 H7 S7 Z7 C7 T7 G7
    generalize W7.alloc (.cells #[.int .i64 (Tm.k t), .int .i64 (Tm.n t), .string (Tm.s t), .slice A (Tm.l t).length c] 32) = W8 at *
    generalize W7.heap.size = gt at *
    have HW := Lib.hid (raWant ⟨#[41]⟩ H8.out)
    rw [isPs_lit] at HW
    have k8 := B8.out.cell
    clear k6
    go_upto_region 19 with (go_at_call 112; refine HW.out.mono ?_; rintro e W5 ⟨rfl, h7, s7⟩; have H5 := Lib.hid h7; have S5 := Lib.hid (S8.out.trans s7); have Z5 := Lib.hid (Z8.out.mods s7.mods C8.out.no); have B5 := Lib.hid (B8.out.mods s7.mods D8.out.no); have T5 := Lib.hid (pstep_tmN s7 T8.out); have G5 := Lib.hid s7.size; have zc := Z5.out.cell; have zf := Z5.out.frozen; have k5 := B5.out.cell; clear h7 s7)
    clear k8
    have HGB : Hid (w.heap.size < W6.heap.size) := GB
    go_wp2_with fail
    have kb := blk_set4 Z5.out (.int .i64 (Tm.k t)) (.int .i64 (Tm.n t)) (.string (Tm.s t)) (.slice A (Tm.l t).length c)
    have kc := kb.cell
    have h7 := H5.out.set4 HO.out (Nat.le_refl _) Z5.out (.int .i64 (Tm.k t)) (.int .i64 (Tm.n t)) (.string (Tm.s t)) (.slice A (Tm.l t).length c)
    have s7 := pstep_set4 S5.out (Nat.le_refl _) (.int .i64 (Tm.k t)) (.int .i64 (Tm.n t)) (.string (Tm.s t)) (.slice A (Tm.l t).length c)
    refine bodyPost_ret (v := .tuple #[.agg #[.int .i64 (Tm.k t), .int .i64 (Tm.n t), .string (Tm.s t), .slice A (Tm.l t).length c], .int .i64 0]) ?_ rfl ⟨t, 0, A, c, nv5, _, ns5, _, rfl, ?_, h7, s7, tmN_wide (w := w) (tmN_set4 T5.out (z := w.heap.size) GB.out (.int .i64 (Tm.k t)) (.int .i64 (Tm.n t)) (.string (Tm.s t)) (.slice A (Tm.l t).length c)) (Nat.le_of_lt GB.out), Nat.le_trans (tail_le _ _) (Nat.le_trans L7.out (by have := HQL.out; omega))⟩
    · simp [results, Tryz.results72, go_sem, kc]
    · exact want_res (c := 41) (g := g0) HRES0.out

set_option maxRecDepth 100000 in
set_option maxHeartbeats 4000000 in
theorem raOper_nil {f : RF} {N : Nat} (IH : RTermC f N) (most : Int) {r : List TokV} (hN : r.length ≤ N + 1) {w : World} {nv : Value} {ns : List ByteArray} (h : RaAt f w r nv ns false) {n : Nat} (hn : 5 * r.length + 3 ≤ n) {t0 : TokV} {q : List TokV} (e : r = t0 :: q) (hk : t0.kind = 5) (hs : t0.s = ⟨#[91]⟩) (hcl : isPu q 93 = true) :
    Calls Tryz.prog 72 #[.pointer (some ⟨f.pb, 0, none⟩), .int .i64 most] w (ROPost f w nv r (operN f.O n most r ns)) := by
  obtain ⟨m, rfl⟩ : ∃ m, n = m + 1 := ⟨n - 1, by omega⟩
  have hop : operN f.O (m + 1) most r ns = bracN f.O m t0 q ns := by rw [e]; simp [operN, hk]
  obtain ⟨j, rfl⟩ : ∃ j, m = j + 1 := ⟨m - 1, by omega⟩
  rw [hop, brac_sq f.O j t0 q ns hs]
  rw [if_pos hcl]
  obtain ⟨X, hX⟩ : ∃ X, namedN f.O j nilB q.tail ns = X := ⟨_, rfl⟩
  rw [hX]
  have HLX := Lib.hid hX
  clear hX
  obtain ⟨u, qq, hq⟩ := h.toks.more h.suf e (by rw [hk]; decide)
  have t1 := suf_tail h.suf e
  have t3 := plI_tail h.suf e
  have hqn : q ≠ [] := by rw [hq]; simp
  have HL : Hid (ns.length + q.length ≤ f.L.length) := Lib.hid (by have := h.nl; rw [e] at this; simp at this; omega)
  have HQL : Hid (q.length + 1 = r.length) := Lib.hid (by rw [e]; simp)
  have HL2 := Lib.hid h.nl
  have HT3 := Lib.hid t3
  have HNN := Lib.hid hN
  have HM := Lib.hid hn
  clear t3 hq hN hn
  have HCL := Lib.hid hcl
  clear hcl
  have hx := ext_box4 w (.cells #[.int .i64 0, .int .i64 0, .string ⟨#[]⟩, .slice none 0 0] 32)
  have HO := Lib.hid h.old
  have HX := Lib.hid hx
  have H := Lib.hid (h.ext hx)
  have HZ := Lib.hid (Blk.new w 32 #[.int .i64 0, .int .i64 0, .string ⟨#[]⟩, .slice none 0 0])
  have HSZ := Lib.hid (World.size_alloc w (.cells #[.int .i64 0, .int .i64 0, .string ⟨#[]⟩, .slice none 0 0] 32))
  have CZ := Lib.hid (rclr_box h (Nat.le_refl _) HZ.out.lt)
  have hp : f.pb < w.heap.size := h.blk.lt
  obtain ⟨b, off, hA, d0, d1, d2, d3, d4⟩ := ra_here (h.ext hx) e
  have hlt := plI_lt h.suf h.nil
  have hL := h.toks.len
  have c0 := (h.ext hx).cells.c0
  have c1 := (h.ext hx).cells.c1
  have c4 := (h.ext hx).cells.c4
  rw [hA] at c0
  have hbb : b < (w.alloc (.cells #[.int .i64 0, .int .i64 0, .string ⟨#[]⟩, .slice none 0 0] 32)).heap.size := cell_lt d0
  have hpp : f.pb < (w.alloc (.cells #[.int .i64 0, .int .i64 0, .string ⟨#[]⟩, .slice none 0 0] 32)).heap.size := (h.ext hx).blk.lt
  obtain ⟨k, hkk⟩ : ∃ k, plI f.L r = k := ⟨_, rfl⟩
  have HKK := Lib.hid hkk
  rw [hkk] at c1 d0 d1 d2 d3 d4 hlt
  have hq1 : (k : Int) < (f.L.length : Int) := by omega
  have HK := Lib.hid hk
  have HE := Lib.hid e
  have HS := Lib.hid hs
  clear hs
  clear h hx hA hkk hk e
  go_enter Tryz.func72, Tryz.ntmps72
  go_upto_region 3 with fail
  generalize w.alloc (.cells #[.int .i64 0, .int .i64 0, .string ⟨#[]⟩, .slice none 0 0] 32) = W0 at *
  go_region
  all_goals
    obtain ⟨xb, kb⟩ := ra_box (W0 := W0) t0
    have X1 := Lib.hid xb
    have B6 := Lib.hid kb
    clear c0 c1 c4 d0 d1 d2 d3 d4 xb kb
    have G6 : Hid (w.heap.size < W0.heap.size) := Lib.hid (by rw [HSZ.out]; omega)
    have D6 := Lib.hid (rclr_box H.out (Nat.le_refl _) B6.out.lt)
    generalize (W0.alloc (.cells #[.int .i64 t0.kind, .string t0.s, .int .i64 t0.n, .int .i64 t0.at_, .bool t0.lay] 55)).drew = WB at *
    generalize W0.heap.size = g6 at *
    rw [HK.out, HS.out] at B6
    have HB := Lib.hid (H.out.ext X1.out)
    have SB := Lib.hid (PStep.ext (S := f.S) (nv := nv) (HX.out.trans X1.out))
    have ZB := Lib.hid (HZ.out.ext X1.out)
    have CB := Lib.hid ((PStep.ext (S := f.S) (nv := nv) X1.out).clr CZ.out)
    have k6 := B6.out.cell
    clear H HZ CZ
    have s1 := HB.out.setI t1 hqn HL.out ((plI f.L r : Int) + 1) (by rw [HT3.out]; omega)
    rw [HKK.out] at s1
    have c1 := HB.out.cells.c1
    rw [HKK.out] at c1
    have f1 := HB.out.blk.frozen 1
    have H6 := Lib.hid s1.1
    have S6 := Lib.hid (SB.out.trans s1.2)
    have Z6 := Lib.hid (ZB.out.mods s1.2.mods CB.out.no)
    have B66 := Lib.hid (B6.out.mods s1.2.mods D6.out.no)
    have C6 := Lib.hid (s1.2.clr CB.out)
    have D66 := Lib.hid (s1.2.clr D6.out)
    clear s1
    go_upto_region 8 with fail
    generalize WB.setCell ⟨f.pb, 1, none⟩ (.int .i64 ((k : Int) + 1)) = W6 at *
    clear c1 f1 k6 HB SB ZB CB B6 D6
    have HB := H6
    have SB := S6
    have ZB := Z6
    have CB := C6
    have B6 := B66
    have D6 := D66
    have GB : Hid (w.heap.size < W6.heap.size) := Lib.hid Z6.out.lt
    have k6 := B6.out.cell
    clear H6 S6 Z6 C6 B66 D66
    have HI := Lib.hid (raIs ⟨#[93]⟩ HB.out 0 (by omega) (t := q.headD zeroT) (by obtain ⟨t, p, e⟩ := ToksOk.ne HB.out.suf HB.out.nil; rw [e]; rfl))
    have hie : isAt q 0 ⟨#[93]⟩ = isPu q 93 := isPs_lit _ _
    rw [hie, HCL.out] at HI
    clear hie
    obtain ⟨u1, u2, u3⟩ := isPs_tail HB.out.toks HB.out.suf (by rw [isPs_lit]; exact HCL.out)
    have hkL2 := plI_lt HB.out.suf HB.out.nil
    have HTI := Lib.hid u3
    have htl : q.tail.length + 1 = q.length := by
      obtain ⟨t, p, e⟩ := ToksOk.ne HB.out.suf HB.out.nil
      rw [e]
      simp
    have HTL := Lib.hid htl
    have HLN : Hid (ns.length + q.tail.length ≤ f.L.length) := Lib.hid (by have := HB.out.nl; omega)
    clear u3 htl
    go_upto_region 21 with (go_at_call 113; refine HI.out.mono ?_; rintro e W4 ⟨rfl, x4⟩; have X4 := Lib.hid x4; clear x4)
    have H4 := Lib.hid (HB.out.ext X4.out)
    have s7 := H4.out.setI u1 u2 HLN.out ((plI f.L q : Int) + 1) (by rw [HTI.out]; omega)
    have g1 := H4.out.cells.c1
    have f1 := H4.out.blk.frozen 1
    have S4 := Lib.hid ((PStep.ext (S := f.S) (nv := nv) X4.out).trans s7.2)
    have H7 := Lib.hid s7.1
    generalize plI f.L q = k2 at *
    clear s7
    go_upto_region 22 with fail
    generalize W4.setCell ⟨f.pb, 1, none⟩ (.int .i64 ((k2 : Int) + 1)) = W7 at *
    clear g1 f1 H4 k6
    have SC := Lib.hid (SB.out.trans S4.out)
    have ZC := Lib.hid (ZB.out.mods S4.out.mods CB.out.no)
    have CC := Lib.hid (S4.out.clr CB.out)
    have GC : Hid (w.heap.size < W7.heap.size) := Lib.hid ZC.out.lt
    have HT := Lib.hid (raNamed IH nilB false most (by have := HNN.out; have := HQL.out; have := HTL.out; omega) H7.out (n := j) (by have := HM.out; have := HQL.out; have := HTL.out; omega))
    simp only [Bool.false_eq_true, if_false] at HT
    rw [HLX.out] at HT
    unfold nilB at HT
    go_wp2_with (go_at_call 111; refine HT.out.mono ?_; rintro e W5 ⟨t, p, A, c, nv5, r5, ns5, b5, rfl, hres, h5, s5, ht5, hl5⟩; have HRES := Lib.hid hres; have H5 := Lib.hid h5; have S5 := Lib.hid (SC.out.trans s5); have T5 := Lib.hid ht5; have L5 := Lib.hid hl5; have Z5 := Lib.hid (ZC.out.mods s5.mods CC.out.no); have zc := (ZC.out.mods s5.mods CC.out.no).cell; have zf := (ZC.out.mods s5.mods CC.out.no).frozen; clear hres h5 s5 ht5 hl5)
    have kb := blk_set4 Z5.out (.int .i64 (Tm.k t)) (.int .i64 (Tm.n t)) (.string (Tm.s t)) (.slice A (Tm.l t).length c)
    have kc := kb.cell
    have h7 := H5.out.set4 HO.out (Nat.le_refl _) Z5.out (.int .i64 (Tm.k t)) (.int .i64 (Tm.n t)) (.string (Tm.s t)) (.slice A (Tm.l t).length c)
    have s7 := pstep_set4 S5.out (Nat.le_refl _) (.int .i64 (Tm.k t)) (.int .i64 (Tm.n t)) (.string (Tm.s t)) (.slice A (Tm.l t).length c)
    refine bodyPost_ret (v := .tuple #[.agg #[.int .i64 (Tm.k t), .int .i64 (Tm.n t), .string (Tm.s t), .slice A (Tm.l t).length c], .int .i64 p]) ?_ rfl ⟨t, p, A, c, nv5, r5, ns5, b5, rfl, ?_, h7, s7, tmN_wide (w := w) (tmN_set4 T5.out (z := w.heap.size) GC.out (.int .i64 (Tm.k t)) (.int .i64 (Tm.n t)) (.string (Tm.s t)) (.slice A (Tm.l t).length c)) (Nat.le_of_lt GC.out), Nat.le_trans L5.out (by have := HQL.out; have := HTL.out; omega)⟩
    · simp [results, Tryz.results72, go_sem, kc]
    · exact HRES.out

set_option maxRecDepth 100000 in
set_option maxHeartbeats 4000000 in
theorem raOper_cur0 {f : RF} {N : Nat} (IH : RTermC f N) (most : Int) {r : List TokV} (hN : r.length ≤ N + 1) {w : World} {nv : Value} {ns : List ByteArray} (h : RaAt f w r nv ns false) {n : Nat} (hn : 5 * r.length + 3 ≤ n) {t0 : TokV} {q : List TokV} (e : r = t0 :: q) (hk : t0.kind = 5) (hs : t0.s = ⟨#[123]⟩) (hcl : isPu q 125 = true) :
    Calls Tryz.prog 72 #[.pointer (some ⟨f.pb, 0, none⟩), .int .i64 most] w (ROPost f w nv r (operN f.O n most r ns)) := by
  obtain ⟨m, rfl⟩ : ∃ m, n = m + 1 := ⟨n - 1, by omega⟩
  have hop : operN f.O (m + 1) most r ns = bracN f.O m t0 q ns := by rw [e]; simp [operN, hk]
  obtain ⟨j, rfl⟩ : ∃ j, m = j + 1 := ⟨m - 1, by omega⟩
  rw [hop, brac_cur f.O j t0 q ns hs]
  rw [if_pos hcl]
  obtain ⟨X, hX⟩ : ∃ X, namedN f.O j curB q.tail ns = X := ⟨_, rfl⟩
  rw [hX]
  have HLX := Lib.hid hX
  clear hX
  obtain ⟨u, qq, hq⟩ := h.toks.more h.suf e (by rw [hk]; decide)
  have t1 := suf_tail h.suf e
  have t3 := plI_tail h.suf e
  have hqn : q ≠ [] := by rw [hq]; simp
  have HL : Hid (ns.length + q.length ≤ f.L.length) := Lib.hid (by have := h.nl; rw [e] at this; simp at this; omega)
  have HQL : Hid (q.length + 1 = r.length) := Lib.hid (by rw [e]; simp)
  have HL2 := Lib.hid h.nl
  have HT3 := Lib.hid t3
  have HNN := Lib.hid hN
  have HM := Lib.hid hn
  clear t3 hq hN hn
  have HCL := Lib.hid hcl
  clear hcl
  have hx := ext_box4 w (.cells #[.int .i64 0, .int .i64 0, .string ⟨#[]⟩, .slice none 0 0] 32)
  have HO := Lib.hid h.old
  have HX := Lib.hid hx
  have H := Lib.hid (h.ext hx)
  have HZ := Lib.hid (Blk.new w 32 #[.int .i64 0, .int .i64 0, .string ⟨#[]⟩, .slice none 0 0])
  have HSZ := Lib.hid (World.size_alloc w (.cells #[.int .i64 0, .int .i64 0, .string ⟨#[]⟩, .slice none 0 0] 32))
  have CZ := Lib.hid (rclr_box h (Nat.le_refl _) HZ.out.lt)
  have hp : f.pb < w.heap.size := h.blk.lt
  obtain ⟨b, off, hA, d0, d1, d2, d3, d4⟩ := ra_here (h.ext hx) e
  have hlt := plI_lt h.suf h.nil
  have hL := h.toks.len
  have c0 := (h.ext hx).cells.c0
  have c1 := (h.ext hx).cells.c1
  have c4 := (h.ext hx).cells.c4
  rw [hA] at c0
  have hbb : b < (w.alloc (.cells #[.int .i64 0, .int .i64 0, .string ⟨#[]⟩, .slice none 0 0] 32)).heap.size := cell_lt d0
  have hpp : f.pb < (w.alloc (.cells #[.int .i64 0, .int .i64 0, .string ⟨#[]⟩, .slice none 0 0] 32)).heap.size := (h.ext hx).blk.lt
  obtain ⟨k, hkk⟩ : ∃ k, plI f.L r = k := ⟨_, rfl⟩
  have HKK := Lib.hid hkk
  rw [hkk] at c1 d0 d1 d2 d3 d4 hlt
  have hq1 : (k : Int) < (f.L.length : Int) := by omega
  have HK := Lib.hid hk
  have HE := Lib.hid e
  have HS := Lib.hid hs
  clear hs
  clear h hx hA hkk hk e
  go_enter Tryz.func72, Tryz.ntmps72
  go_upto_region 3 with fail
  generalize w.alloc (.cells #[.int .i64 0, .int .i64 0, .string ⟨#[]⟩, .slice none 0 0] 32) = W0 at *
  go_region
  all_goals
    obtain ⟨xb, kb⟩ := ra_box (W0 := W0) t0
    have X1 := Lib.hid xb
    have B6 := Lib.hid kb
    clear c0 c1 c4 d0 d1 d2 d3 d4 xb kb
    have G6 : Hid (w.heap.size < W0.heap.size) := Lib.hid (by rw [HSZ.out]; omega)
    have D6 := Lib.hid (rclr_box H.out (Nat.le_refl _) B6.out.lt)
    generalize (W0.alloc (.cells #[.int .i64 t0.kind, .string t0.s, .int .i64 t0.n, .int .i64 t0.at_, .bool t0.lay] 55)).drew = WB at *
    generalize W0.heap.size = g6 at *
    rw [HK.out, HS.out] at B6
    have HB := Lib.hid (H.out.ext X1.out)
    have SB := Lib.hid (PStep.ext (S := f.S) (nv := nv) (HX.out.trans X1.out))
    have ZB := Lib.hid (HZ.out.ext X1.out)
    have CB := Lib.hid ((PStep.ext (S := f.S) (nv := nv) X1.out).clr CZ.out)
    have k6 := B6.out.cell
    clear H HZ CZ
    have s1 := HB.out.setI t1 hqn HL.out ((plI f.L r : Int) + 1) (by rw [HT3.out]; omega)
    rw [HKK.out] at s1
    have c1 := HB.out.cells.c1
    rw [HKK.out] at c1
    have f1 := HB.out.blk.frozen 1
    have H6 := Lib.hid s1.1
    have S6 := Lib.hid (SB.out.trans s1.2)
    have Z6 := Lib.hid (ZB.out.mods s1.2.mods CB.out.no)
    have B66 := Lib.hid (B6.out.mods s1.2.mods D6.out.no)
    have C6 := Lib.hid (s1.2.clr CB.out)
    have D66 := Lib.hid (s1.2.clr D6.out)
    clear s1
    go_upto_region 8 with fail
    generalize WB.setCell ⟨f.pb, 1, none⟩ (.int .i64 ((k : Int) + 1)) = W6 at *
    clear c1 f1 k6 HB SB ZB CB B6 D6
    have HB := H6
    have SB := S6
    have ZB := Z6
    have CB := C6
    have B6 := B66
    have D6 := D66
    have GB : Hid (w.heap.size < W6.heap.size) := Lib.hid Z6.out.lt
    have k6 := B6.out.cell
    clear H6 S6 Z6 C6 B66 D66
    have HI := Lib.hid (raIs ⟨#[125]⟩ HB.out 0 (by omega) (t := q.headD zeroT) (by obtain ⟨t, p, e⟩ := ToksOk.ne HB.out.suf HB.out.nil; rw [e]; rfl))
    have hie : isAt q 0 ⟨#[125]⟩ = isPu q 125 := isPs_lit _ _
    rw [hie, HCL.out] at HI
    clear hie
    obtain ⟨u1, u2, u3⟩ := isPs_tail HB.out.toks HB.out.suf (by rw [isPs_lit]; exact HCL.out)
    have hkL2 := plI_lt HB.out.suf HB.out.nil
    have HTI := Lib.hid u3
    have htl : q.tail.length + 1 = q.length := by
      obtain ⟨t, p, e⟩ := ToksOk.ne HB.out.suf HB.out.nil
      rw [e]
      simp
    have HTL := Lib.hid htl
    have HLN : Hid (ns.length + q.tail.length ≤ f.L.length) := Lib.hid (by have := HB.out.nl; omega)
    clear u3 htl
    go_upto_region 24 with (go_at_call 113; refine HI.out.mono ?_; rintro e W4 ⟨rfl, x4⟩; have X4 := Lib.hid x4; clear x4)
    have H4 := Lib.hid (HB.out.ext X4.out)
    have s7 := H4.out.setI u1 u2 HLN.out ((plI f.L q : Int) + 1) (by rw [HTI.out]; omega)
    have g1 := H4.out.cells.c1
    have f1 := H4.out.blk.frozen 1
    have S4 := Lib.hid ((PStep.ext (S := f.S) (nv := nv) X4.out).trans s7.2)
    have H7 := Lib.hid s7.1
    generalize plI f.L q = k2 at *
    clear s7
    go_upto_region 25 with fail
    generalize W4.setCell ⟨f.pb, 1, none⟩ (.int .i64 ((k2 : Int) + 1)) = W7 at *
    clear g1 f1 H4 k6
    have SC := Lib.hid (SB.out.trans S4.out)
    have ZC := Lib.hid (ZB.out.mods S4.out.mods CB.out.no)
    have CC := Lib.hid (S4.out.clr CB.out)
    have GC : Hid (w.heap.size < W7.heap.size) := Lib.hid ZC.out.lt
    have HT := Lib.hid (raNamed IH curB false most (by have := HNN.out; have := HQL.out; have := HTL.out; omega) H7.out (n := j) (by have := HM.out; have := HQL.out; have := HTL.out; omega))
    simp only [Bool.false_eq_true, if_false] at HT
    rw [HLX.out] at HT
    unfold curB at HT
    go_wp2_with (go_at_call 111; refine HT.out.mono ?_; rintro e W5 ⟨t, p, A, c, nv5, r5, ns5, b5, rfl, hres, h5, s5, ht5, hl5⟩; have HRES := Lib.hid hres; have H5 := Lib.hid h5; have S5 := Lib.hid (SC.out.trans s5); have T5 := Lib.hid ht5; have L5 := Lib.hid hl5; have Z5 := Lib.hid (ZC.out.mods s5.mods CC.out.no); have zc := (ZC.out.mods s5.mods CC.out.no).cell; have zf := (ZC.out.mods s5.mods CC.out.no).frozen; clear hres h5 s5 ht5 hl5)
    have kb := blk_set4 Z5.out (.int .i64 (Tm.k t)) (.int .i64 (Tm.n t)) (.string (Tm.s t)) (.slice A (Tm.l t).length c)
    have kc := kb.cell
    have h7 := H5.out.set4 HO.out (Nat.le_refl _) Z5.out (.int .i64 (Tm.k t)) (.int .i64 (Tm.n t)) (.string (Tm.s t)) (.slice A (Tm.l t).length c)
    have s7 := pstep_set4 S5.out (Nat.le_refl _) (.int .i64 (Tm.k t)) (.int .i64 (Tm.n t)) (.string (Tm.s t)) (.slice A (Tm.l t).length c)
    refine bodyPost_ret (v := .tuple #[.agg #[.int .i64 (Tm.k t), .int .i64 (Tm.n t), .string (Tm.s t), .slice A (Tm.l t).length c], .int .i64 p]) ?_ rfl ⟨t, p, A, c, nv5, r5, ns5, b5, rfl, ?_, h7, s7, tmN_wide (w := w) (tmN_set4 T5.out (z := w.heap.size) GC.out (.int .i64 (Tm.k t)) (.int .i64 (Tm.n t)) (.string (Tm.s t)) (.slice A (Tm.l t).length c)) (Nat.le_of_lt GC.out), Nat.le_trans L5.out (by have := HQL.out; have := HTL.out; omega)⟩
    · simp [results, Tryz.results72, go_sem, kc]
    · exact HRES.out

set_option maxRecDepth 100000 in
set_option maxHeartbeats 4000000 in
theorem raOper_list {f : RF} {N : Nat} (IH : RTermC f N) (most : Int) {r : List TokV} (hN : r.length ≤ N + 1) {w : World} {nv : Value} {ns : List ByteArray} (h : RaAt f w r nv ns false) {n : Nat} (hn : 5 * r.length + 3 ≤ n) {t0 : TokV} {q : List TokV} (e : r = t0 :: q) (hk : t0.kind = 5) (hs : t0.s = ⟨#[91]⟩) (hcl : isPu q 93 = false) :
    Calls Tryz.prog 72 #[.pointer (some ⟨f.pb, 0, none⟩), .int .i64 most] w (ROPost f w nv r (operN f.O n most r ns)) := by
  obtain ⟨m, rfl⟩ : ∃ m, n = m + 1 := ⟨n - 1, by omega⟩
  have hop : operN f.O (m + 1) most r ns = bracN f.O m t0 q ns := by rw [e]; simp [operN, hk]
  obtain ⟨j, rfl⟩ : ∃ j, m = j + 1 := ⟨m - 1, by omega⟩
  rw [hop, brac_sq f.O j t0 q ns hs]
  rw [if_neg (by simp [hcl])]
  obtain ⟨X, hX⟩ : ∃ X, listM f.O j (rowN f.O j false [] q ns) = X := ⟨_, rfl⟩
  rw [hX]
  have HLX := Lib.hid hX
  clear hX
  obtain ⟨u, qq, hq⟩ := h.toks.more h.suf e (by rw [hk]; decide)
  have t1 := suf_tail h.suf e
  have t3 := plI_tail h.suf e
  have hqn : q ≠ [] := by rw [hq]; simp
  have HL : Hid (ns.length + q.length ≤ f.L.length) := Lib.hid (by have := h.nl; rw [e] at this; simp at this; omega)
  have HQL : Hid (q.length + 1 = r.length) := Lib.hid (by rw [e]; simp)
  have HL2 := Lib.hid h.nl
  have HT3 := Lib.hid t3
  have HNN := Lib.hid hN
  have HM := Lib.hid hn
  clear t3 hq hN hn
  have HCL := Lib.hid hcl
  clear hcl
  have hx := ext_box4 w (.cells #[.int .i64 0, .int .i64 0, .string ⟨#[]⟩, .slice none 0 0] 32)
  have HO := Lib.hid h.old
  have HX := Lib.hid hx
  have H := Lib.hid (h.ext hx)
  have HZ := Lib.hid (Blk.new w 32 #[.int .i64 0, .int .i64 0, .string ⟨#[]⟩, .slice none 0 0])
  have HSZ := Lib.hid (World.size_alloc w (.cells #[.int .i64 0, .int .i64 0, .string ⟨#[]⟩, .slice none 0 0] 32))
  have CZ := Lib.hid (rclr_box h (Nat.le_refl _) HZ.out.lt)
  have hp : f.pb < w.heap.size := h.blk.lt
  obtain ⟨b, off, hA, d0, d1, d2, d3, d4⟩ := ra_here (h.ext hx) e
  have hlt := plI_lt h.suf h.nil
  have hL := h.toks.len
  have c0 := (h.ext hx).cells.c0
  have c1 := (h.ext hx).cells.c1
  have c4 := (h.ext hx).cells.c4
  rw [hA] at c0
  have hbb : b < (w.alloc (.cells #[.int .i64 0, .int .i64 0, .string ⟨#[]⟩, .slice none 0 0] 32)).heap.size := cell_lt d0
  have hpp : f.pb < (w.alloc (.cells #[.int .i64 0, .int .i64 0, .string ⟨#[]⟩, .slice none 0 0] 32)).heap.size := (h.ext hx).blk.lt
  obtain ⟨k, hkk⟩ : ∃ k, plI f.L r = k := ⟨_, rfl⟩
  have HKK := Lib.hid hkk
  rw [hkk] at c1 d0 d1 d2 d3 d4 hlt
  have hq1 : (k : Int) < (f.L.length : Int) := by omega
  have HK := Lib.hid hk
  have HE := Lib.hid e
  have HS := Lib.hid hs
  clear hs
  clear h hx hA hkk hk e
  go_enter Tryz.func72, Tryz.ntmps72
  go_upto_region 3 with fail
  generalize w.alloc (.cells #[.int .i64 0, .int .i64 0, .string ⟨#[]⟩, .slice none 0 0] 32) = W0 at *
  go_region
  all_goals
    obtain ⟨xb, kb⟩ := ra_box (W0 := W0) t0
    have X1 := Lib.hid xb
    have B6 := Lib.hid kb
    clear c0 c1 c4 d0 d1 d2 d3 d4 xb kb
    have G6 : Hid (w.heap.size < W0.heap.size) := Lib.hid (by rw [HSZ.out]; omega)
    have D6 := Lib.hid (rclr_box H.out (Nat.le_refl _) B6.out.lt)
    generalize (W0.alloc (.cells #[.int .i64 t0.kind, .string t0.s, .int .i64 t0.n, .int .i64 t0.at_, .bool t0.lay] 55)).drew = WB at *
    generalize W0.heap.size = g6 at *
    rw [HK.out, HS.out] at B6
    have HB := Lib.hid (H.out.ext X1.out)
    have SB := Lib.hid (PStep.ext (S := f.S) (nv := nv) (HX.out.trans X1.out))
    have ZB := Lib.hid (HZ.out.ext X1.out)
    have CB := Lib.hid ((PStep.ext (S := f.S) (nv := nv) X1.out).clr CZ.out)
    have k6 := B6.out.cell
    clear H HZ CZ
    have s1 := HB.out.setI t1 hqn HL.out ((plI f.L r : Int) + 1) (by rw [HT3.out]; omega)
    rw [HKK.out] at s1
    have c1 := HB.out.cells.c1
    rw [HKK.out] at c1
    have f1 := HB.out.blk.frozen 1
    have H6 := Lib.hid s1.1
    have S6 := Lib.hid (SB.out.trans s1.2)
    have Z6 := Lib.hid (ZB.out.mods s1.2.mods CB.out.no)
    have B66 := Lib.hid (B6.out.mods s1.2.mods D6.out.no)
    have C6 := Lib.hid (s1.2.clr CB.out)
    have D66 := Lib.hid (s1.2.clr D6.out)
    clear s1
    go_upto_region 8 with fail
    generalize WB.setCell ⟨f.pb, 1, none⟩ (.int .i64 ((k : Int) + 1)) = W6 at *
    clear c1 f1 k6 HB SB ZB CB B6 D6
    have HB := H6
    have SB := S6
    have ZB := Z6
    have CB := C6
    have B6 := B66
    have D6 := D66
    have GB : Hid (w.heap.size < W6.heap.size) := Lib.hid Z6.out.lt
    have k6 := B6.out.cell
    clear H6 S6 Z6 C6 B66 D66
    have HI := Lib.hid (raIs ⟨#[93]⟩ HB.out 0 (by omega) (t := q.headD zeroT) (by obtain ⟨t, p, e⟩ := ToksOk.ne HB.out.suf HB.out.nil; rw [e]; rfl))
    have hie : isAt q 0 ⟨#[93]⟩ = isPu q 93 := isPs_lit _ _
    rw [hie, HCL.out] at HI
    clear hie
    go_upto_region 27 with (go_at_call 113; refine HI.out.mono ?_; rintro e W4 ⟨rfl, x4⟩; have X4 := Lib.hid x4; have k7 := (B6.out.ext x4).cell; clear x4)
    have H7 := Lib.hid (HB.out.ext X4.out)
    have SC := Lib.hid (SB.out.trans (PStep.ext X4.out))
    have ZC := Lib.hid (ZB.out.ext X4.out)
    have CC := Lib.hid ((PStep.ext (S := f.S) (nv := nv) X4.out).clr CB.out)
    have GC : Hid (w.heap.size < W4.heap.size) := Lib.hid ZC.out.lt
    clear k6
    have HT := Lib.hid (raList IH (by have := HNN.out; have := HQL.out; omega) H7.out (n := j) (by have := HM.out; have := HQL.out; omega))
    rw [HLX.out] at HT
    go_wp2_with (go_at_call 114; refine HT.out.mono ?_; rintro e W5 ⟨t, A, c, nv5, r5, ns5, b5, rfl, hres, h5, s5, ht5, hl5⟩; have HRES := Lib.hid hres; have H5 := Lib.hid h5; have S5 := Lib.hid (SC.out.trans s5); have T5 := Lib.hid ht5; have L5 := Lib.hid hl5; have Z5 := Lib.hid (ZC.out.mods s5.mods CC.out.no); have zc := (ZC.out.mods s5.mods CC.out.no).cell; have zf := (ZC.out.mods s5.mods CC.out.no).frozen; clear hres h5 s5 ht5 hl5)
    have kb := blk_set4 Z5.out (.int .i64 (Tm.k t)) (.int .i64 (Tm.n t)) (.string (Tm.s t)) (.slice A (Tm.l t).length c)
    have kc := kb.cell
    have h7 := H5.out.set4 HO.out (Nat.le_refl _) Z5.out (.int .i64 (Tm.k t)) (.int .i64 (Tm.n t)) (.string (Tm.s t)) (.slice A (Tm.l t).length c)
    have s7 := pstep_set4 S5.out (Nat.le_refl _) (.int .i64 (Tm.k t)) (.int .i64 (Tm.n t)) (.string (Tm.s t)) (.slice A (Tm.l t).length c)
    refine bodyPost_ret (v := .tuple #[.agg #[.int .i64 (Tm.k t), .int .i64 (Tm.n t), .string (Tm.s t), .slice A (Tm.l t).length c], .int .i64 0]) ?_ rfl ⟨t, 0, A, c, nv5, r5, ns5, b5, rfl, ?_, h7, s7, tmN_wide (w := w) (tmN_set4 T5.out (z := w.heap.size) GC.out (.int .i64 (Tm.k t)) (.int .i64 (Tm.n t)) (.string (Tm.s t)) (.slice A (Tm.l t).length c)) (Nat.le_of_lt GC.out), Nat.le_trans L5.out (by have := HQL.out; omega)⟩
    · simp [results, Tryz.results72, go_sem, kc]
    · exact prM_res (g := g0) HRES.out

set_option maxRecDepth 100000 in
set_option maxHeartbeats 4000000 in
theorem raOper_cur {f : RF} {N : Nat} (IH : RTermC f N) (most : Int) {r : List TokV} (hN : r.length ≤ N + 1) {w : World} {nv : Value} {ns : List ByteArray} (h : RaAt f w r nv ns false) {n : Nat} (hn : 5 * r.length + 3 ≤ n) {t0 : TokV} {q : List TokV} (e : r = t0 :: q) (hk : t0.kind = 5) (hs : t0.s = ⟨#[123]⟩) (hcl : isPu q 125 = false) :
    Calls Tryz.prog 72 #[.pointer (some ⟨f.pb, 0, none⟩), .int .i64 most] w (ROPost f w nv r (operN f.O n most r ns)) := by
  obtain ⟨m, rfl⟩ : ∃ m, n = m + 1 := ⟨n - 1, by omega⟩
  have hop : operN f.O (m + 1) most r ns = bracN f.O m t0 q ns := by rw [e]; simp [operN, hk]
  obtain ⟨j, rfl⟩ : ∃ j, m = j + 1 := ⟨m - 1, by omega⟩
  rw [hop, brac_cur f.O j t0 q ns hs]
  rw [if_neg (by simp [hcl])]
  obtain ⟨X, hX⟩ : ∃ X, termN f.O j 1200 q ns = X := ⟨_, rfl⟩
  rw [hX]
  have HLX := Lib.hid hX
  clear hX
  obtain ⟨u, qq, hq⟩ := h.toks.more h.suf e (by rw [hk]; decide)
  have t1 := suf_tail h.suf e
  have t3 := plI_tail h.suf e
  have hqn : q ≠ [] := by rw [hq]; simp
  have HL : Hid (ns.length + q.length ≤ f.L.length) := Lib.hid (by have := h.nl; rw [e] at this; simp at this; omega)
  have HQL : Hid (q.length + 1 = r.length) := Lib.hid (by rw [e]; simp)
  have HL2 := Lib.hid h.nl
  have HT3 := Lib.hid t3
  have HNN := Lib.hid hN
  have HM := Lib.hid hn
  clear t3 hq hN hn
  have HCL := Lib.hid hcl
  clear hcl
  have hx := ext_box4 w (.cells #[.int .i64 0, .int .i64 0, .string ⟨#[]⟩, .slice none 0 0] 32)
  have HO := Lib.hid h.old
  have HX := Lib.hid hx
  have H := Lib.hid (h.ext hx)
  have HZ := Lib.hid (Blk.new w 32 #[.int .i64 0, .int .i64 0, .string ⟨#[]⟩, .slice none 0 0])
  have HSZ := Lib.hid (World.size_alloc w (.cells #[.int .i64 0, .int .i64 0, .string ⟨#[]⟩, .slice none 0 0] 32))
  have CZ := Lib.hid (rclr_box h (Nat.le_refl _) HZ.out.lt)
  have hp : f.pb < w.heap.size := h.blk.lt
  obtain ⟨b, off, hA, d0, d1, d2, d3, d4⟩ := ra_here (h.ext hx) e
  have hlt := plI_lt h.suf h.nil
  have hL := h.toks.len
  have c0 := (h.ext hx).cells.c0
  have c1 := (h.ext hx).cells.c1
  have c4 := (h.ext hx).cells.c4
  rw [hA] at c0
  have hbb : b < (w.alloc (.cells #[.int .i64 0, .int .i64 0, .string ⟨#[]⟩, .slice none 0 0] 32)).heap.size := cell_lt d0
  have hpp : f.pb < (w.alloc (.cells #[.int .i64 0, .int .i64 0, .string ⟨#[]⟩, .slice none 0 0] 32)).heap.size := (h.ext hx).blk.lt
  obtain ⟨k, hkk⟩ : ∃ k, plI f.L r = k := ⟨_, rfl⟩
  have HKK := Lib.hid hkk
  rw [hkk] at c1 d0 d1 d2 d3 d4 hlt
  have hq1 : (k : Int) < (f.L.length : Int) := by omega
  have HK := Lib.hid hk
  have HE := Lib.hid e
  have HS := Lib.hid hs
  clear hs
  clear h hx hA hkk hk e
  go_enter Tryz.func72, Tryz.ntmps72
  go_upto_region 3 with fail
  generalize w.alloc (.cells #[.int .i64 0, .int .i64 0, .string ⟨#[]⟩, .slice none 0 0] 32) = W0 at *
  go_region
  all_goals
    obtain ⟨xb, kb⟩ := ra_box (W0 := W0) t0
    have X1 := Lib.hid xb
    have B6 := Lib.hid kb
    clear c0 c1 c4 d0 d1 d2 d3 d4 xb kb
    have G6 : Hid (w.heap.size < W0.heap.size) := Lib.hid (by rw [HSZ.out]; omega)
    have D6 := Lib.hid (rclr_box H.out (Nat.le_refl _) B6.out.lt)
    generalize (W0.alloc (.cells #[.int .i64 t0.kind, .string t0.s, .int .i64 t0.n, .int .i64 t0.at_, .bool t0.lay] 55)).drew = WB at *
    generalize W0.heap.size = g6 at *
    rw [HK.out, HS.out] at B6
    have HB := Lib.hid (H.out.ext X1.out)
    have SB := Lib.hid (PStep.ext (S := f.S) (nv := nv) (HX.out.trans X1.out))
    have ZB := Lib.hid (HZ.out.ext X1.out)
    have CB := Lib.hid ((PStep.ext (S := f.S) (nv := nv) X1.out).clr CZ.out)
    have k6 := B6.out.cell
    clear H HZ CZ
    have s1 := HB.out.setI t1 hqn HL.out ((plI f.L r : Int) + 1) (by rw [HT3.out]; omega)
    rw [HKK.out] at s1
    have c1 := HB.out.cells.c1
    rw [HKK.out] at c1
    have f1 := HB.out.blk.frozen 1
    have H6 := Lib.hid s1.1
    have S6 := Lib.hid (SB.out.trans s1.2)
    have Z6 := Lib.hid (ZB.out.mods s1.2.mods CB.out.no)
    have B66 := Lib.hid (B6.out.mods s1.2.mods D6.out.no)
    have C6 := Lib.hid (s1.2.clr CB.out)
    have D66 := Lib.hid (s1.2.clr D6.out)
    clear s1
    go_upto_region 8 with fail
    generalize WB.setCell ⟨f.pb, 1, none⟩ (.int .i64 ((k : Int) + 1)) = W6 at *
    clear c1 f1 k6 HB SB ZB CB B6 D6
    have HB := H6
    have SB := S6
    have ZB := Z6
    have CB := C6
    have B6 := B66
    have D6 := D66
    have GB : Hid (w.heap.size < W6.heap.size) := Lib.hid Z6.out.lt
    have k6 := B6.out.cell
    clear H6 S6 Z6 C6 B66 D66
    have HI := Lib.hid (raIs ⟨#[125]⟩ HB.out 0 (by omega) (t := q.headD zeroT) (by obtain ⟨t, p, e⟩ := ToksOk.ne HB.out.suf HB.out.nil; rw [e]; rfl))
    have hie : isAt q 0 ⟨#[125]⟩ = isPu q 125 := isPs_lit _ _
    rw [hie, HCL.out] at HI
    clear hie
    go_upto_region 28 with (go_at_call 113; refine HI.out.mono ?_; rintro e W4 ⟨rfl, x4⟩; have X4 := Lib.hid x4; have k7 := (B6.out.ext x4).cell; clear x4)
    have H7 := Lib.hid (HB.out.ext X4.out)
    have SC := Lib.hid (SB.out.trans (PStep.ext X4.out))
    have ZC := Lib.hid (ZB.out.ext X4.out)
    have CC := Lib.hid ((PStep.ext (S := f.S) (nv := nv) X4.out).clr CB.out)
    have GC : Hid (w.heap.size < W4.heap.size) := Lib.hid ZC.out.lt
    clear k6
    clear k7
    have HT := Lib.hid (IH q ns nv W4 j 1200 (by have := HNN.out; have := HQL.out; omega) H7.out (by have := HM.out; have := HQL.out; omega))
    rw [HLX.out] at HT
    go_upto_region 29 with (go_at_call 45; refine HT.out.mono ?_; rintro e W7 ⟨t, A, c, nv5, r5, ns5, b5, rfl, hres, h5, s5, ht5, hl5⟩; have HRES0 := Lib.hid hres; have H7b := Lib.hid h5; have S7 := Lib.hid (SC.out.trans s5); have T7 := Lib.hid ht5; have L7 := Lib.hid hl5; have Z7 := Lib.hid (ZC.out.mods s5.mods CC.out.no); have C7 := Lib.hid (s5.clr CC.out); have G7 := Lib.hid s5.size; clear hres h5 s5 ht5 hl5)
    have hx8 := ext_box4 W7 (.cells #[.int .i64 (Tm.k t), .int .i64 (Tm.n t), .string (Tm.s t), .slice A (Tm.l t).length c] 32)
    have H8 := Lib.hid (H7b.out.ext hx8)
    have S8 := Lib.hid (S7.out.trans (PStep.ext hx8))
    have Z8 := Lib.hid (Z7.out.ext hx8)
    have C8 := Lib.hid ((PStep.ext (S := f.S) (nv := nv5) hx8).clr C7.out)
    have B8 := Lib.hid (Blk.new W7 32 #[.int .i64 (Tm.k t), .int .i64 (Tm.n t), .string (Tm.s t), .slice A (Tm.l t).length c])
    have D8 := Lib.hid (rclr_box H7b.out (Nat.le_refl _) B8.out.lt)
    have T8 : Hid (TmIn (NewT f.S nv5 W4 (W7.alloc (.cells #[.int .i64 (Tm.k t), .int .i64 (Tm.n t), .string (Tm.s t), .slice A (Tm.l t).length c] 32))) (W7.alloc (.cells #[.int .i64 (Tm.k t), .int .i64 (Tm.n t), .string (Tm.s t), .slice A (Tm.l t).length c] 32)) t A c) := Lib.hid (pstep_tmN (PStep.ext hx8) T7.out)
    have G8 : Hid (W4.heap.size ≤ (W7.alloc (.cells #[.int .i64 (Tm.k t), .int .i64 (Tm.n t), .string (Tm.s t), .slice A (Tm.l t).length c] 32)).heap.size) := Lib.hid (Nat.le_trans G7.out hx8.size)
    clear hx8 H7b S7 Z7 C7 T7 G7
    generalize W7.alloc (.cells #[.int .i64 (Tm.k t), .int .i64 (Tm.n t), .string (Tm.s t), .slice A (Tm.l t).length c] 32) = W8 at *
    generalize W7.heap.size = gt at *
    have HW := Lib.hid (raWant ⟨#[125]⟩ H8.out)
    rw [isPs_lit] at HW
    have k8 := B8.out.cell
    go_upto_region 30 with (go_at_call 112; refine HW.out.mono ?_; rintro e W9 ⟨rfl, h7, s7⟩; have H9 := Lib.hid h7; have S9 := Lib.hid (S8.out.trans s7); have Z9 := Lib.hid (Z8.out.mods s7.mods C8.out.no); have B9 := Lib.hid (B8.out.mods s7.mods D8.out.no); have T9 := Lib.hid (pstep_tmN s7 T8.out); have G9 := Lib.hid s7.size; have zc := Z9.out.cell; have zf := Z9.out.frozen; have k5 := B9.out.cell; clear h7 s7)
    clear k8 zc zf
    have HCM := Lib.hid (refComp_any curB [(t, A, c)] (some ⟨W9.heap.size, 0, none⟩) 1 (W9.alloc (.cells #[.int .i64 (Tm.k t), .int .i64 (Tm.n t), .string (Tm.s t), .slice A (Tm.l t).length c] 32)) (NewT f.S nv5 W4 W9) (El.Src.new W9 #[.int .i64 (Tm.k t), .int .i64 (Tm.n t), .string (Tm.s t), .slice A (Tm.l t).length c] 32 1 4 rfl) (fun e he => by simp only [List.mem_cons, List.not_mem_nil, or_false] at he; subst he; exact T9.out.ext (ext_box4 _ _)) (by simp) (by simp) (fun k hk => Nat.lt_of_lt_of_le hk.2.2.2 (ext_box4 W9 _).size))
    simp only [List.length_cons, List.length_nil, Nat.reduceAdd] at HCM
    unfold curB at HCM
    go_wp2_with (go_at_call 33; refine HCM.out.mono ?_; rintro e W5 ⟨A6, c6, rfl, ht6, hx6⟩; have T6 := Lib.hid ht6; have X6 := Lib.hid ((ext_box4 W9 _).trans hx6); have H5 := Lib.hid (H9.out.ext ((ext_box4 W9 _).trans hx6)); have S5 := Lib.hid (S9.out.trans (PStep.ext ((ext_box4 W9 _).trans hx6))); have Z5 := Lib.hid (Z9.out.ext ((ext_box4 W9 _).trans hx6)); have zc := Z5.out.cell; have zf := Z5.out.frozen; clear ht6 hx6)
    have hnew : TmIn (NewT f.S nv5 W4 W5) W5 (.mk 4 0 ⟨#[123, 125]⟩ [t]) A6 c6 := T6.out.mono (fun k hk => by
      rcases hk with hk | ⟨h1, h2⟩
      · exact hk.step (PStep.ext X6.out)
      · have h1' : W9.heap.size ≤ k := by simp at h1; omega
        exact ⟨Nat.le_trans (Nat.le_trans G8.out G9.out) h1', rclr_box H9.out h1' h2⟩)
    have hcomp : compT curB [t] = .mk 4 0 ⟨#[123, 125]⟩ [t] := if_neg (by simp)
    have hres := want_res (c := 125) (g := fun u => (compT curB [u], (0 : Int))) HRES0.out
    rw [hcomp] at hres
    have kb := blk_set4 Z5.out (.int .i64 4) (.int .i64 0) (.string ⟨#[123, 125]⟩) (.slice A6 1 c6)
    have kc := kb.cell
    have h7 := H5.out.set4 HO.out (Nat.le_refl _) Z5.out (.int .i64 4) (.int .i64 0) (.string ⟨#[123, 125]⟩) (.slice A6 1 c6)
    have s7 := pstep_set4 S5.out (Nat.le_refl _) (.int .i64 4) (.int .i64 0) (.string ⟨#[123, 125]⟩) (.slice A6 1 c6)
    refine bodyPost_ret (v := .tuple #[.agg #[.int .i64 4, .int .i64 0, .string ⟨#[123, 125]⟩, .slice A6 1 c6], .int .i64 0]) ?_ rfl ⟨(.mk 4 0 ⟨#[123, 125]⟩ [t]), 0, A6, c6, nv5, _, ns5, _, rfl, ?_, h7, s7, tmN_wide (w := w) (tmN_set4 hnew (z := w.heap.size) GC.out (.int .i64 4) (.int .i64 0) (.string ⟨#[123, 125]⟩) (.slice A6 1 c6)) (Nat.le_of_lt GC.out), Nat.le_trans (tail_le _ _) (Nat.le_trans L7.out (by have := HQL.out; omega))⟩
    · simp [results, Tryz.results72, go_sem, kc]
    · exact hres

theorem raOperand {f : RF} {N : Nat} (IH : RTermC f N) (most : Int) {r : List TokV} (hN : r.length ≤ N + 1) {w : World} {nv : Value} {ns : List ByteArray} (h : RaAt f w r nv ns false) {n : Nat} (hn : 5 * r.length + 3 ≤ n) :
    Calls Tryz.prog 72 #[.pointer (some ⟨f.pb, 0, none⟩), .int .i64 most] w (ROPost f w nv r (operN f.O n most r ns)) := by
  obtain ⟨t0, q, e⟩ := ToksOk.ne h.suf h.nil
  have hok := h.toks.head h.suf e
  rcases tok_kind hok with hk | hk | hk | hk | hk | hk
  · exact raOper_sign IH most hN h hn e hk
  · exact raOper_name IH most hN h hn e hk
  · exact raOper_var most hN h hn e hk
  · exact raOper_int most hN h hn e hk
  · have hs : t0.s = ⟨#[40]⟩ ∨ t0.s = ⟨#[41]⟩ ∨ t0.s = ⟨#[91]⟩ ∨ t0.s = ⟨#[93]⟩ ∨ t0.s = ⟨#[123]⟩ ∨ t0.s = ⟨#[125]⟩ ∨ t0.s = ⟨#[44]⟩ ∨ t0.s = ⟨#[124]⟩ := by
      unfold tokOk at hok
      simp only [Bool.and_eq_true, Bool.or_eq_true, decide_eq_true_eq] at hok
      have h5 := hok.1.1.1
      simp only [hk] at h5
      have h6 : [[40], [41], [91], [93], [123], [125], [44], [124]].contains t0.s.data.toList = true := by simpa using h5
      have h7 := List.contains_iff_mem.1 h6
      have hm : ∀ l : List UInt8, t0.s.data.toList = l → t0.s = ⟨l.toArray⟩ := fun l hl => by rw [← strB_mk t0.s, hl]; rfl
      simp only [List.mem_cons, List.not_mem_nil, or_false] at h7
      rcases h7 with h | h | h | h | h | h | h | h
      · exact .inl (hm _ h)
      · exact .inr (.inl (hm _ h))
      · exact .inr (.inr (.inl (hm _ h)))
      · exact .inr (.inr (.inr (.inl (hm _ h))))
      · exact .inr (.inr (.inr (.inr (.inl (hm _ h)))))
      · exact .inr (.inr (.inr (.inr (.inr (.inl (hm _ h))))))
      · exact .inr (.inr (.inr (.inr (.inr (.inr (.inl (hm _ h)))))))
      · exact .inr (.inr (.inr (.inr (.inr (.inr (.inr (hm _ h)))))))
    rcases hs with hs | hs | hs | hs | hs | hs | hs | hs
    · exact raOper_par IH most hN h hn e hk hs
    · exact raOper_odd41 most hN h hn e hk hs
    · cases hc : isPu q 93 with
      | true => exact raOper_nil IH most hN h hn e hk hs hc
      | false => exact raOper_list IH most hN h hn e hk hs hc
    · exact raOper_odd93 most hN h hn e hk hs
    · cases hc : isPu q 125 with
      | true => exact raOper_cur0 IH most hN h hn e hk hs hc
      | false => exact raOper_cur IH most hN h hn e hk hs hc
    · exact raOper_odd125 most hN h hn e hk hs
    · exact raOper_odd44 most hN h hn e hk hs
    · exact raOper_odd124 most hN h hn e hk hs
  · exact raOper_end most hN h hn e hk
end Go.Proofs.YtgcdhffeacdegaaGreatDoor
