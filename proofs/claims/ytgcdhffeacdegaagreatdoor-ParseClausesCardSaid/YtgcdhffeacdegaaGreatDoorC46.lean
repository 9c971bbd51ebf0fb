/- Layer 10, the reference: the walk of list. -/
import Derived.Test.YtgcdhffeacdegaaGreatDoorC41
import Derived.Test.YtgcdhffeacdegaaGreatDoorC45
import Derived.Test.YtgcdhffeacdegaaGreatDoorC21
namespace Go.Proofs.YtgcdhffeacdegaaGreatDoor
open Go.RowKit Go.El

set_option maxRecDepth 100000 in
set_option maxHeartbeats 4000000 in
theorem raList {f : RF} {N : Nat} (IH : RTermC f N) {r : List TokV} (hN : r.length ≤ N) {w : World} {nv : Value} {ns : List ByteArray} (h : RaAt f w r nv ns false) {n : Nat} (hn : 5 * r.length + 6 ≤ n) :
    Calls Tryz.prog 114 #[.pointer (some ⟨f.pb, 0, none⟩)] w (RTPost f w nv r (listM f.O n (rowN f.O n false [] r ns))) := by
  obtain ⟨i1, hi1, hz0, hz1, hz2⟩ := infoP tmInfo4
  have hx := ext_box4 w (.cells #[.int .i64 0, .int .i64 0, .string ⟨#[]⟩, .slice none 0 0] 32)
  have HOw := Lib.hid h.old
  have HO := Lib.hid (h.ext hx).old
  have HZ := Lib.hid (Blk.new w 32 #[.int .i64 0, .int .i64 0, .string ⟨#[]⟩, .slice none 0 0])
  have HC := Lib.hid (rclr_box h (Nat.le_refl _) HZ.out.lt)
  have S0 := Lib.hid (PStep.ext (S := f.S) (nv := nv) hx)
  have HSZ := Lib.hid (World.size_alloc w (.cells #[.int .i64 0, .int .i64 0, .string ⟨#[]⟩, .slice none 0 0] 32))
  have HNN := Lib.hid hN
  have HM := Lib.hid hn
  have hp : f.pb < w.heap.size := h.blk.lt
  have HA := fun W => Lib.hid (refAtom_any nilB W)
  unfold nilB at HA
  obtain ⟨X, hX⟩ : ∃ X, rowN f.O n false [] r ns = X := ⟨_, rfl⟩
  rw [hX]
  have HR0 : Hid (RLoop f (w.alloc (.cells #[.int .i64 0, .int .i64 0, .string ⟨#[]⟩, .slice none 0 0] 32)) nv false r X (w.alloc (.cells #[.int .i64 0, .int .i64 0, .string ⟨#[]⟩, .slice none 0 0] 32)) (.slice none 0 0) [] nv r ns) := Lib.hid ⟨h.ext hx, PStep.refl _ _ _, row_nil f _ nv _, by simp, Nat.le_trans h.suf.length_le h.toks.len, fun e => by (cases e), ⟨n, hn, hX⟩⟩
  clear h hx hN hn hX
  go_enter Tryz.func114, Tryz.ntmps114
  go_upto_region 2 with fail
  generalize w.alloc (.cells #[.int .i64 0, .int .i64 0, .string ⟨#[]⟩, .slice none 0 0] 32) = W0 at *
  go_loopg [3] r.length (fun g v wx => ∃ M nvx q ms, Hid (RLoop f W0 nv false r X wx v M nvx q ms) ∧ Hid (q.length ≤ g))
  case atStart => exact ⟨_, _, _, _, HR0, Lib.hid (Nat.le_refl _)⟩
  case round =>
    clear HR0
    obtain ⟨M, nvx, q, ms, HR, HG⟩ := hrel
    obtain ⟨n4, hn4, hx4⟩ := HR.out.ok
    obtain ⟨m4, rfl⟩ : ∃ m4, n4 = m4 + 1 := ⟨n4 - 1, by omega⟩
    rw [rowN_eq] at hx4
    have HX4 := Lib.hid hx4
    have HN4 := Lib.hid hn4
    have HT4 := Lib.hid (IH q ms nvx _ m4 999 (by have := HNN.out; have := HR.out.len; omega) HR.out.pa (by omega))
    obtain ⟨Av, cv, rfl⟩ := own_value HR.out.row.own
    have hml : M.length ≤ 65537 := by have := HR.out.len; have := HR.out.r0l; omega
    have c4 := HR.out.pa.cells.c4
    clear hx4 hn4
    go_upto_region 4 with (first | (go_at_call 45; refine HT4.out.mono ?_; rintro e W5 ⟨t5, A5, c5, nv5, q5, ms5, b5, rfl, hres, h5, s5, ht5, hl5⟩; have HRES := Lib.hid hres; have H5 := Lib.hid h5; have S5 := Lib.hid s5; have T5 := Lib.hid ht5; have L5 := Lib.hid hl5; have R5 := Lib.hid (HR.out.row.step s5); clear hres h5 s5 ht5 hl5) | (at_builtin; refine wpList_append_src (P := Tryz.prog) rfl (.tmp 10) (.tmp 13) 30 rfl 32 i1 _ 4 56 Tryz.underlying30 hi1 hz0 hz1 hz2 rfl (by omega) (.slice Av M.length cv) rfl _ _ _ rfl M.length (flat tmC M) (own_ext R5.out.own (ext_box4 _ _)) (tmC (t5, A5, c5)) (El.Src.new W5 #[.int .i64 (Tm.k t5), .int .i64 (Tm.n t5), .string (Tm.s t5), .slice A5 (Tm.l t5).length c5] 32 1 4 rfl) (tmC_one _) (by unfold maxLen; omega) (by omega) ?_; intro v6 w6 ho6 hm6 hb6; obtain ⟨A6, q6, rfl⟩ := own_value ho6; have hp6 := row_push R5.out H5.out HO.out (HR.out.st.trans S5.out) (p := (t5, A5, c5)) (T5.out.mono (fun k hk => ⟨⟨Nat.le_trans HR.out.st.mods.size hk.1, hk.2⟩, fun e => by have := (HR.out.row.far k e).2.2.2; have := hk.1; omega⟩)) (ext_box4 _ _) ho6 hm6 hb6; have R6 := Lib.hid hp6.1; have H6 := Lib.hid hp6.2.1; have S6 := Lib.hid hp6.2.2; have d4 := hp6.2.1.cells.c4; have e4 := hp6.2.1.blk.frozen 4; clear ho6 hm6 hb6 hp6))
    clear H5 S5 R5 T5 HT4
    have hne : M ++ [(t5, A5, c5)] ≠ [] := by simp
    have HML : Hid ((M ++ [(t5, A5, c5)]).length ≤ 70000) := Lib.hid (by simp; omega)
    have HL5 : Hid (q5.length ≤ r.length) := Lib.hid (by have := L5.out; have := HR.out.len; omega)
    have HMM : Hid ((M ++ [(t5, A5, c5)]).map (·.1) = M.map (·.1) ++ [t5]) := Lib.hid (by simp)
    have hlen : (M ++ [(t5, A5, c5)]).length = M.length + 1 := by simp
    cases b5 with
    | true =>
      have HE : Hid (RRow f W0 nv r X w6 (.slice A6 (M.length + 1) q6) (M ++ [(t5, A5, c5)]) nv5 q5 ms5 true) := Lib.hid ⟨rowm_bad HX4.out HRES.out _, H6.out, S6.out, R6.out, hne, HML.out, HL5.out⟩
      clear H6 S6 R6 HRES
      obtain ⟨M2, hM2⟩ : ∃ M2, M ++ [(t5, A5, c5)] = M2 := ⟨_, rfl⟩
      rw [hM2] at HE HML hlen
      clear hM2 hne HMM
      have Z1 := Lib.hid (HZ.out.mods HE.out.st.mods HC.out.no)
      have C1 := Lib.hid (HE.out.st.clr HC.out)
      go_upto_region 7 with (go_at_call 36; refine (HA _).out.mono ?_; rintro e W2 ⟨rfl, x2⟩; have X2 := Lib.hid x2; clear x2)
      have H2 := Lib.hid (HE.out.pa.ext X2.out)
      have hx3 := ext_box4 W2 (.cells #[.int .i64 3, .int .i64 0, .string ⟨#[91, 93]⟩, .slice none 0 0] 32)
      have H3 := Lib.hid (H2.out.ext hx3)
      have S3 := Lib.hid (PStep.ext (S := f.S) (nv := nv5) (X2.out.trans hx3))
      have Z3 := Lib.hid (Z1.out.ext (X2.out.trans hx3))
      have C3 := Lib.hid (S3.out.clr C1.out)
      have B3 : Hid (Blk (W2.alloc (.cells #[.int .i64 3, .int .i64 0, .string ⟨#[91, 93]⟩, .slice none 0 0] 32)) W2.heap.size 32 #[.int .i64 (Tm.k (atomT nilB)), .int .i64 (Tm.n (atomT nilB)), .string (Tm.s (atomT nilB)), .slice none (Tm.l (atomT nilB)).length 0]) := Lib.hid (Blk.new W2 32 #[.int .i64 3, .int .i64 0, .string ⟨#[91, 93]⟩, .slice none 0 0])
      have D3 := Lib.hid (rclr_box H2.out (Nat.le_refl _) B3.out.lt)
      have G0 : Hid (W0.heap.size ≤ W2.heap.size) := Lib.hid (Nat.le_trans HE.out.st.size X2.out.size)
      have G3 : Hid (_ ≤ W2.heap.size) := Lib.hid X2.out.size
      have hgw : w.heap.size < W2.heap.size := by have := G0.out; have := HSZ.out; omega
      have R3 := Lib.hid (HE.out.row.step S3.out)
      have P3 := Lib.hid (HE.out.st.trans S3.out)
      clear hx3 H2 X2 Z1
      generalize W2.alloc (.cells #[.int .i64 3, .int .i64 0, .string ⟨#[91, 93]⟩, .slice none 0 0] 32) = W3 at *
      generalize W2.heap.size = gB at *
      have c43 := H3.out.cells.c4
      have HRES := Lib.hid (list_no (O := f.O) (n := n) HE.out.res (rfl))
      have LX := Lib.hid HE.out.len
      go_upto_region 10 with fail
      obtain ⟨W4, hW4⟩ : ∃ W4, W4 = W3 := ⟨_, rfl⟩
      have X4 : Hid (Ext W3 W4) := Lib.hid (by rw [hW4]; exact Ext.refl _)
      rw [← hW4]
      clear hW4
      have HX := Lib.hid (H3.out.ext X4.out)
      have S4 := Lib.hid (PStep.ext (S := f.S) (nv := nv5) X4.out)
      have SXW : Hid (W0.heap.size ≤ W4.heap.size) := Lib.hid (Nat.le_trans P3.out.size X4.out.size)
      have SX := Lib.hid (S0.out.trans (P3.out.trans S4.out))
      have RX := Lib.hid (R3.out.step S4.out)
      have ZX := Lib.hid (Z3.out.ext X4.out)
      have CZ := Lib.hid (S4.out.clr C3.out)
      have BX := Lib.hid (B3.out.ext X4.out)
      have CB := Lib.hid (S4.out.clr D3.out)
      have TX : Hid (TmIn (NewT f.S nv5 W0 W4) W4 (atomT nilB) none 0) := Lib.hid (TmsIn.term (TmsIn.nil _ _ _ _) 3 0 nilB)
      generalize atomT nilB = u at *
      have HW := Lib.hid (raWant ⟨#[93]⟩ HX.out)
      rw [isPs_lit] at HW
      have bcx := BX.out.cell
      go_upto_region 11 with (go_at_call 112; refine HW.out.mono ?_; rintro e W7 ⟨rfl, h7, s7⟩; have H7 := Lib.hid h7; have S7 := Lib.hid s7; clear h7 s7)
      have B7 := Lib.hid (BX.out.mods S7.out.mods CB.out.no)
      have Z7 := Lib.hid (ZX.out.mods S7.out.mods CZ.out.no)
      have R7 := Lib.hid (RX.out.step S7.out)
      have T7 := Lib.hid (pstep_tmN S7.out TX.out)
      have hown := R7.out.own
      rw [← hlen] at hown
      have HL := Lib.hid (rlist_any M2 A6 q6 u none 0 W7 (NewT f.S nv5 W0 W7) (Src.of_own hown) (fun p hp => (R7.out.kid p hp).mono (fun k hk => hk.1)) T7.out (fun k hk => hk.2.2.2) HML.out)
      rw [hlen] at HL
      have b7 := B7.out.cell
      clear bcx hown
      go_wp2_with (go_at_call 151; refine HL.out.mono ?_; rintro e W8 ⟨A8, c8, rfl, ht8, hx8⟩; have T8 := Lib.hid ht8; have X8 := Lib.hid hx8; have Z8 := Lib.hid (Z7.out.ext hx8); have zc := (Z7.out.ext hx8).cell; have zf := (Z7.out.ext hx8).frozen; clear ht8 hx8)
      obtain ⟨tr, htr⟩ : ∃ tr, listT (M2.map (fun (p : TmP) => p.1)) u = tr := ⟨_, rfl⟩
      rw [htr] at T8 HRES ⊢
      have kb := blk_set4 Z8.out (.int .i64 (Tm.k tr)) (.int .i64 (Tm.n tr)) (.string (Tm.s tr)) (.slice A8 (Tm.l tr).length c8)
      have kc := kb.cell
      have h9 := (H7.out.ext X8.out).set4 HOw.out (Nat.le_refl _) Z8.out (.int .i64 (Tm.k tr)) (.int .i64 (Tm.n tr)) (.string (Tm.s tr)) (.slice A8 (Tm.l tr).length c8)
      have s9 := pstep_set4 (SX.out.trans (S7.out.trans (PStep.ext X8.out))) (Nat.le_refl _) (.int .i64 (Tm.k tr)) (.int .i64 (Tm.n tr)) (.string (Tm.s tr)) (.slice A8 (Tm.l tr).length c8)
      have hnew : TmIn (NewT f.S nv5 W0 W8) W8 tr A8 c8 := T8.out.mono (fun k hk => by
        rcases hk with hk | ⟨hk1, hk2⟩
        · exact hk.step (PStep.ext X8.out)
        · exact ⟨Nat.le_trans (Nat.le_trans SXW.out S7.out.size) hk1, rclr_box H7.out hk1 hk2⟩)
      have t9 := tmN_wide (w := w) (tmN_set4 hnew (z := w.heap.size) (by have := HSZ.out; omega) (.int .i64 (Tm.k tr)) (.int .i64 (Tm.n tr)) (.string (Tm.s tr)) (.slice A8 (Tm.l tr).length c8)) (by have := HSZ.out; omega)
      refine bodyPost_ret (v := .agg #[.int .i64 (Tm.k tr), .int .i64 (Tm.n tr), .string (Tm.s tr), .slice A8 (Tm.l tr).length c8]) ?_ rfl ⟨tr, A8, c8, nv5, _, _, _, rfl, HRES.out, h9, s9, t9, Nat.le_trans (tail_le _ _) LX.out⟩
      simp [results, Tryz.results114, go_sem, kc]
    | false =>
      have HI := Lib.hid (raIs ⟨#[44]⟩ H6.out 0 (by omega) (t := q5.headD zeroT) (by obtain ⟨t, p, e⟩ := ToksOk.ne H6.out.suf H6.out.nil; rw [e]; rfl))
      have hie : isAt q5 0 ⟨#[44]⟩ = isPu q5 44 := isPs_lit _ _
      rw [hie] at HI
      clear hie
      cases hq : isPu q5 44 with
      | false =>
        rw [hq] at HI
        have HQ := Lib.hid hq
        clear hq
        go_upto_region 6 with (go_at_call 113; refine HI.out.mono ?_; rintro e W6 ⟨rfl, x6⟩; have X6 := Lib.hid x6; clear x6)
        have HE : Hid (RRow f W0 nv r X W6 (.slice A6 (M.length + 1) q6) (M ++ [(t5, A5, c5)]) nv5 q5 ms5 false) := Lib.hid ⟨by rw [HMM.out]; exact rowm_end HX4.out HRES.out HQ.out, H6.out.ext X6.out, S6.out.trans (PStep.ext X6.out), R6.out.step (PStep.ext X6.out), hne, HML.out, HL5.out⟩
        clear H6 S6 R6 HRES d4 e4
        clear HI
        obtain ⟨M2, hM2⟩ : ∃ M2, M ++ [(t5, A5, c5)] = M2 := ⟨_, rfl⟩
        rw [hM2] at HE HML hlen
        clear hM2 hne HMM
        have Z1 := Lib.hid (HZ.out.mods HE.out.st.mods HC.out.no)
        have C1 := Lib.hid (HE.out.st.clr HC.out)
        go_upto_region 7 with (go_at_call 36; refine (HA _).out.mono ?_; rintro e W2 ⟨rfl, x2⟩; have X2 := Lib.hid x2; clear x2)
        have H2 := Lib.hid (HE.out.pa.ext X2.out)
        have hx3 := ext_box4 W2 (.cells #[.int .i64 3, .int .i64 0, .string ⟨#[91, 93]⟩, .slice none 0 0] 32)
        have H3 := Lib.hid (H2.out.ext hx3)
        have S3 := Lib.hid (PStep.ext (S := f.S) (nv := nv5) (X2.out.trans hx3))
        have Z3 := Lib.hid (Z1.out.ext (X2.out.trans hx3))
        have C3 := Lib.hid (S3.out.clr C1.out)
        have B3 : Hid (Blk (W2.alloc (.cells #[.int .i64 3, .int .i64 0, .string ⟨#[91, 93]⟩, .slice none 0 0] 32)) W2.heap.size 32 #[.int .i64 (Tm.k (atomT nilB)), .int .i64 (Tm.n (atomT nilB)), .string (Tm.s (atomT nilB)), .slice none (Tm.l (atomT nilB)).length 0]) := Lib.hid (Blk.new W2 32 #[.int .i64 3, .int .i64 0, .string ⟨#[91, 93]⟩, .slice none 0 0])
        have D3 := Lib.hid (rclr_box H2.out (Nat.le_refl _) B3.out.lt)
        have G0 : Hid (W0.heap.size ≤ W2.heap.size) := Lib.hid (Nat.le_trans HE.out.st.size X2.out.size)
        have G3 : Hid (_ ≤ W2.heap.size) := Lib.hid X2.out.size
        have hgw : w.heap.size < W2.heap.size := by have := G0.out; have := HSZ.out; omega
        have R3 := Lib.hid (HE.out.row.step S3.out)
        have P3 := Lib.hid (HE.out.st.trans S3.out)
        clear hx3 H2 X2 Z1
        generalize W2.alloc (.cells #[.int .i64 3, .int .i64 0, .string ⟨#[91, 93]⟩, .slice none 0 0] 32) = W3 at *
        generalize W2.heap.size = gB at *
        have c43 := H3.out.cells.c4
        have HI := Lib.hid (raIs ⟨#[124]⟩ H3.out 0 (by omega) (t := q5.headD zeroT) (by obtain ⟨t, p, e⟩ := ToksOk.ne H3.out.suf H3.out.nil; rw [e]; rfl))
        have hie : isAt q5 0 ⟨#[124]⟩ = isPu q5 124 := isPs_lit _ _
        rw [hie] at HI
        clear hie
        cases hpu : isPu q5 124
        · rw [hpu] at HI
          have HPU := Lib.hid hpu
          clear hpu
          have HRES := Lib.hid (list_no (O := f.O) (n := n) HE.out.res (by rw [HPU.out]; rfl))
          have LX := Lib.hid HE.out.len
          go_upto_region 10 with (go_at_call 113; refine HI.out.mono ?_; rintro e W4 ⟨rfl, x4⟩; have X4 := Lib.hid x4; clear x4)
          have HX := Lib.hid (H3.out.ext X4.out)
          have S4 := Lib.hid (PStep.ext (S := f.S) (nv := nv5) X4.out)
          have SXW : Hid (W0.heap.size ≤ W4.heap.size) := Lib.hid (Nat.le_trans P3.out.size X4.out.size)
          have SX := Lib.hid (S0.out.trans (P3.out.trans S4.out))
          have RX := Lib.hid (R3.out.step S4.out)
          have ZX := Lib.hid (Z3.out.ext X4.out)
          have CZ := Lib.hid (S4.out.clr C3.out)
          have BX := Lib.hid (B3.out.ext X4.out)
          have CB := Lib.hid (S4.out.clr D3.out)
          have TX : Hid (TmIn (NewT f.S nv5 W0 W4) W4 (atomT nilB) none 0) := Lib.hid (TmsIn.term (TmsIn.nil _ _ _ _) 3 0 nilB)
          generalize atomT nilB = u at *
          have HW := Lib.hid (raWant ⟨#[93]⟩ HX.out)
          rw [isPs_lit] at HW
          have bcx := BX.out.cell
          go_upto_region 11 with (go_at_call 112; refine HW.out.mono ?_; rintro e W7 ⟨rfl, h7, s7⟩; have H7 := Lib.hid h7; have S7 := Lib.hid s7; clear h7 s7)
          have B7 := Lib.hid (BX.out.mods S7.out.mods CB.out.no)
          have Z7 := Lib.hid (ZX.out.mods S7.out.mods CZ.out.no)
          have R7 := Lib.hid (RX.out.step S7.out)
          have T7 := Lib.hid (pstep_tmN S7.out TX.out)
          have hown := R7.out.own
          rw [← hlen] at hown
          have HL := Lib.hid (rlist_any M2 A6 q6 u none 0 W7 (NewT f.S nv5 W0 W7) (Src.of_own hown) (fun p hp => (R7.out.kid p hp).mono (fun k hk => hk.1)) T7.out (fun k hk => hk.2.2.2) HML.out)
          rw [hlen] at HL
          have b7 := B7.out.cell
          clear bcx hown
          go_wp2_with (go_at_call 151; refine HL.out.mono ?_; rintro e W8 ⟨A8, c8, rfl, ht8, hx8⟩; have T8 := Lib.hid ht8; have X8 := Lib.hid hx8; have Z8 := Lib.hid (Z7.out.ext hx8); have zc := (Z7.out.ext hx8).cell; have zf := (Z7.out.ext hx8).frozen; clear ht8 hx8)
          obtain ⟨tr, htr⟩ : ∃ tr, listT (M2.map (fun (p : TmP) => p.1)) u = tr := ⟨_, rfl⟩
          rw [htr] at T8 HRES ⊢
          have kb := blk_set4 Z8.out (.int .i64 (Tm.k tr)) (.int .i64 (Tm.n tr)) (.string (Tm.s tr)) (.slice A8 (Tm.l tr).length c8)
          have kc := kb.cell
          have h9 := (H7.out.ext X8.out).set4 HOw.out (Nat.le_refl _) Z8.out (.int .i64 (Tm.k tr)) (.int .i64 (Tm.n tr)) (.string (Tm.s tr)) (.slice A8 (Tm.l tr).length c8)
          have s9 := pstep_set4 (SX.out.trans (S7.out.trans (PStep.ext X8.out))) (Nat.le_refl _) (.int .i64 (Tm.k tr)) (.int .i64 (Tm.n tr)) (.string (Tm.s tr)) (.slice A8 (Tm.l tr).length c8)
          have hnew : TmIn (NewT f.S nv5 W0 W8) W8 tr A8 c8 := T8.out.mono (fun k hk => by
            rcases hk with hk | ⟨hk1, hk2⟩
            · exact hk.step (PStep.ext X8.out)
            · exact ⟨Nat.le_trans (Nat.le_trans SXW.out S7.out.size) hk1, rclr_box H7.out hk1 hk2⟩)
          have t9 := tmN_wide (w := w) (tmN_set4 hnew (z := w.heap.size) (by have := HSZ.out; omega) (.int .i64 (Tm.k tr)) (.int .i64 (Tm.n tr)) (.string (Tm.s tr)) (.slice A8 (Tm.l tr).length c8)) (by have := HSZ.out; omega)
          refine bodyPost_ret (v := .agg #[.int .i64 (Tm.k tr), .int .i64 (Tm.n tr), .string (Tm.s tr), .slice A8 (Tm.l tr).length c8]) ?_ rfl ⟨tr, A8, c8, nv5, _, _, _, rfl, HRES.out, h9, s9, t9, Nat.le_trans (tail_le _ _) LX.out⟩
          simp [results, Tryz.results114, go_sem, kc]
        · rw [hpu] at HI
          have HPU := Lib.hid hpu
          obtain ⟨t1, t2, t3⟩ := isPs_tail H3.out.toks H3.out.suf (by rw [isPs_lit]; exact hpu)
          have hkL := plI_lt H3.out.suf H3.out.nil
          have hLL := H3.out.toks.len
          have HTI := Lib.hid t3
          have htl : q5.tail.length + 1 = q5.length := by
            obtain ⟨t, p, e⟩ := ToksOk.ne H3.out.suf H3.out.nil
            rw [e]
            simp
          have HTL := Lib.hid htl
          have HLN : Hid (ms5.length + q5.tail.length ≤ f.L.length) := Lib.hid (by have := H3.out.nl; omega)
          clear hpu t3 htl
          go_upto_region 8 with (go_at_call 113; refine HI.out.mono ?_; rintro e W4 ⟨rfl, x4⟩; have X4 := Lib.hid x4; clear x4)
          have H4 := Lib.hid (H3.out.ext X4.out)
          have S4 := Lib.hid (PStep.ext (S := f.S) (nv := nv5) X4.out)
          have s7 := H4.out.setI t1 t2 HLN.out ((plI f.L q5 : Int) + 1) (by rw [HTI.out]; omega)
          have g1 := H4.out.cells.c1
          have f1 := H4.out.blk.frozen 1
          have SS := Lib.hid (S4.out.trans s7.2)
          have H5 := Lib.hid s7.1
          generalize plI f.L q5 = k at *
          clear s7 c43
          go_upto_region 9 with fail
          generalize W4.setCell ⟨f.pb, 1, none⟩ (.int .i64 ((k : Int) + 1)) = W5 at *
          clear g1 f1 H4
          have Z5 := Lib.hid (Z3.out.mods SS.out.mods C3.out.no)
          have C5 := Lib.hid (SS.out.clr C3.out)
          have B5 := Lib.hid (B3.out.mods SS.out.mods D3.out.no)
          have D5 := Lib.hid (SS.out.clr D3.out)
          have R5 := Lib.hid (R3.out.step SS.out)
          have G4 : Hid (W0.heap.size ≤ W5.heap.size) := Lib.hid (Nat.le_trans P3.out.size SS.out.size)
          have HT4 := Lib.hid (IH q5.tail ms5 nv5 W5 n 999 (by have := HTL.out; have := HE.out.len; have := HNN.out; omega) H5.out (by have := HTL.out; have := HE.out.len; have := HM.out; omega))
          go_upto_region 10 with (go_at_call 45; refine HT4.out.mono ?_; rintro e W6 ⟨u, Au, cu, nv7, r7, ns7, b7, rfl, hres, h6, s6, hu6, hl6⟩; have HRES6 := Lib.hid hres; have H6 := Lib.hid h6; have S6b := Lib.hid s6; have T6 := Lib.hid hu6; have L6 := Lib.hid hl6; have B6 := Lib.hid (B5.out.mods s6.mods D5.out.no); have fb5 := (B5.out.mods s6.mods D5.out.no).frozen; have cb5 := (B5.out.mods s6.mods D5.out.no).cell; clear hres h6 s6 hu6 hl6)
          rw [set4_eq]
          have HX := Lib.hid (H6.out.set4 HOw.out (Nat.le_of_lt hgw) B6.out (.int .i64 (Tm.k u)) (.int .i64 (Tm.n u)) (.string (Tm.s u)) (.slice Au (Tm.l u).length cu))
          have SX := Lib.hid (pstep_set4 (S0.out.trans (P3.out.trans (SS.out.trans S6b.out))) (Nat.le_of_lt hgw) (.int .i64 (Tm.k u)) (.int .i64 (Tm.n u)) (.string (Tm.s u)) (.slice Au (Tm.l u).length cu))
          have RX := Lib.hid (HE.out.row.step (pstep_set4 (S3.out.trans (SS.out.trans S6b.out)) G3.out (.int .i64 (Tm.k u)) (.int .i64 (Tm.n u)) (.string (Tm.s u)) (.slice Au (Tm.l u).length cu)))
          have ZX := Lib.hid (blk_set4_far (Z5.out.mods S6b.out.mods C5.out.no) (Nat.ne_of_lt hgw) (.int .i64 (Tm.k u)) (.int .i64 (Tm.n u)) (.string (Tm.s u)) (.slice Au (Tm.l u).length cu))
          have CZ := Lib.hid (clr_set4 (S6b.out.clr C5.out) gB (.int .i64 (Tm.k u)) (.int .i64 (Tm.n u)) (.string (Tm.s u)) (.slice Au (Tm.l u).length cu))
          have BX := Lib.hid (blk_s4 B6.out (.int .i64 (Tm.k u)) (.int .i64 (Tm.n u)) (.string (Tm.s u)) (.slice Au (Tm.l u).length cu))
          have CB := Lib.hid (clr_set4 (S6b.out.clr D5.out) gB (.int .i64 (Tm.k u)) (.int .i64 (Tm.n u)) (.string (Tm.s u)) (.slice Au (Tm.l u).length cu))
          have TX := Lib.hid (tmN_wide (w := W0) (tmN_set4 T6.out (z := gB) D5.out.2.2 (.int .i64 (Tm.k u)) (.int .i64 (Tm.n u)) (.string (Tm.s u)) (.slice Au (Tm.l u).length cu)) G4.out)
          have HRES := Lib.hid (list_yes (O := f.O) (n := n) HE.out.res (by rw [HPU.out]; rfl) HRES6.out)
          have LX : Hid (r7.length ≤ r.length) := Lib.hid (Nat.le_trans L6.out (by have := HTL.out; have := HE.out.len; omega))
          have SXW : Hid (W0.heap.size ≤ (set4 W6 gB (.int .i64 (Tm.k u)) (.int .i64 (Tm.n u)) (.string (Tm.s u)) (.slice Au (Tm.l u).length cu)).heap.size) := Lib.hid (by rw [size_set4]; exact Nat.le_trans G4.out S6b.out.size)
          generalize set4 W6 gB (.int .i64 (Tm.k u)) (.int .i64 (Tm.n u)) (.string (Tm.s u)) (.slice Au (Tm.l u).length cu) = WX at *
          clear H6 B6 fb5 cb5 T6 HRES6 Z5 C5 B5 D5 H5 HT4
          have HW := Lib.hid (raWant ⟨#[93]⟩ HX.out)
          rw [isPs_lit] at HW
          have bcx := BX.out.cell
          go_upto_region 11 with (go_at_call 112; refine HW.out.mono ?_; rintro e W7 ⟨rfl, h7, s7⟩; have H7 := Lib.hid h7; have S7 := Lib.hid s7; clear h7 s7)
          have B7 := Lib.hid (BX.out.mods S7.out.mods CB.out.no)
          have Z7 := Lib.hid (ZX.out.mods S7.out.mods CZ.out.no)
          have R7 := Lib.hid (RX.out.step S7.out)
          have T7 := Lib.hid (pstep_tmN S7.out TX.out)
          have hown := R7.out.own
          rw [← hlen] at hown
          have HL := Lib.hid (rlist_any M2 A6 q6 u Au cu W7 (NewT f.S nv7 W0 W7) (Src.of_own hown) (fun p hp => (R7.out.kid p hp).mono (fun k hk => hk.1)) T7.out (fun k hk => hk.2.2.2) HML.out)
          rw [hlen] at HL
          have b7 := B7.out.cell
          clear bcx hown
          go_wp2_with (go_at_call 151; refine HL.out.mono ?_; rintro e W8 ⟨A8, c8, rfl, ht8, hx8⟩; have T8 := Lib.hid ht8; have X8 := Lib.hid hx8; have Z8 := Lib.hid (Z7.out.ext hx8); have zc := (Z7.out.ext hx8).cell; have zf := (Z7.out.ext hx8).frozen; clear ht8 hx8)
          obtain ⟨tr, htr⟩ : ∃ tr, listT (M2.map (fun (p : TmP) => p.1)) u = tr := ⟨_, rfl⟩
          rw [htr] at T8 HRES ⊢
          have kb := blk_set4 Z8.out (.int .i64 (Tm.k tr)) (.int .i64 (Tm.n tr)) (.string (Tm.s tr)) (.slice A8 (Tm.l tr).length c8)
          have kc := kb.cell
          have h9 := (H7.out.ext X8.out).set4 HOw.out (Nat.le_refl _) Z8.out (.int .i64 (Tm.k tr)) (.int .i64 (Tm.n tr)) (.string (Tm.s tr)) (.slice A8 (Tm.l tr).length c8)
          have s9 := pstep_set4 (SX.out.trans (S7.out.trans (PStep.ext X8.out))) (Nat.le_refl _) (.int .i64 (Tm.k tr)) (.int .i64 (Tm.n tr)) (.string (Tm.s tr)) (.slice A8 (Tm.l tr).length c8)
          have hnew : TmIn (NewT f.S nv7 W0 W8) W8 tr A8 c8 := T8.out.mono (fun k hk => by
            rcases hk with hk | ⟨hk1, hk2⟩
            · exact hk.step (PStep.ext X8.out)
            · exact ⟨Nat.le_trans (Nat.le_trans SXW.out S7.out.size) hk1, rclr_box H7.out hk1 hk2⟩)
          have t9 := tmN_wide (w := w) (tmN_set4 hnew (z := w.heap.size) (by have := HSZ.out; omega) (.int .i64 (Tm.k tr)) (.int .i64 (Tm.n tr)) (.string (Tm.s tr)) (.slice A8 (Tm.l tr).length c8)) (by have := HSZ.out; omega)
          refine bodyPost_ret (v := .agg #[.int .i64 (Tm.k tr), .int .i64 (Tm.n tr), .string (Tm.s tr), .slice A8 (Tm.l tr).length c8]) ?_ rfl ⟨tr, A8, c8, nv7, _, _, _, rfl, HRES.out, h9, s9, t9, Nat.le_trans (tail_le _ _) LX.out⟩
          simp [results, Tryz.results114, go_sem, kc]
      | true =>
        rw [hq] at HI
        have HQ := Lib.hid hq
        clear hq
        obtain ⟨t1, t2, t3⟩ := isPs_tail H6.out.toks H6.out.suf (by rw [isPs_lit]; exact HQ.out)
        have hkL := plI_lt H6.out.suf H6.out.nil
        have hLL := H6.out.toks.len
        have HTI := Lib.hid t3
        have htl : q5.tail.length + 1 = q5.length := by
          obtain ⟨t, p, e⟩ := ToksOk.ne H6.out.suf H6.out.nil
          rw [e]
          simp
        have HTL := Lib.hid htl
        have HLN : Hid (ms5.length + q5.tail.length ≤ f.L.length) := Lib.hid (by have := H6.out.nl; omega)
        clear t3 htl
        go_upto_region 5 with (go_at_call 113; refine HI.out.mono ?_; rintro e W6 ⟨rfl, x6⟩; have X6 := Lib.hid x6; clear x6)
        have H66 := Lib.hid (H6.out.ext X6.out)
        have s7 := H66.out.setI t1 t2 HLN.out ((plI f.L q5 : Int) + 1) (by rw [HTI.out]; omega)
        have g1 := H66.out.cells.c1
        have f1 := H66.out.blk.frozen 1
        have HE : Hid (RLoop f W0 nv false r X (W6.setCell ⟨f.pb, 1, none⟩ (.int .i64 ((plI f.L q5 : Int) + 1))) (.slice A6 (M.length + 1) q6) (M ++ [(t5, A5, c5)]) nv5 q5.tail ms5) := Lib.hid ⟨s7.1, (S6.out.trans (PStep.ext X6.out)).trans s7.2, (R6.out.step (PStep.ext X6.out)).step s7.2, by have := HR.out.len; have := L5.out; have := HTL.out; simp; omega, HR.out.r0l, fun e => by (cases e), ⟨m4, by have := HN4.out; have := L5.out; have := HTL.out; omega, by rw [HMM.out]; exact rowm_more HX4.out HRES.out HQ.out (fun e => by cases e)⟩⟩
        clear s7 H66
        generalize plI f.L q5 = k at *
        go_wp2_with fail
        go_roundg (q.length - 1)
        case measure => have := HG.out; have := L5.out; have := HTL.out; omega
        case rel => exact ⟨_, _, _, _, HE, Lib.hid (by have := L5.out; have := HTL.out; omega)⟩
end Go.Proofs.YtgcdhffeacdegaaGreatDoor
