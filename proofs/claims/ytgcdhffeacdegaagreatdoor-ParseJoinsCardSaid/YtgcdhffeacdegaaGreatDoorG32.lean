/- Layer 10, the program: the walk of term. -/
import Derived.Test.YtgcdhffeacdegaaGreatDoorG31
namespace Go.Proofs.YtgcdhffeacdegaaGreatDoor
open Go.RowKit Go.El

set_option maxRecDepth 100000 in
set_option maxHeartbeats 16000000 in
theorem paTerm_step {f : PF} {N : Nat} (IH : PTermC f N) : PTermC f (N + 1) := by
  intro r ns nv w n most hN h hn
  obtain ⟨m, rfl⟩ : ∃ m, n = m + 1 := ⟨n - 1, by omega⟩
  rw [termN_eq]
  have hx := ext_box4 w (.cells #[.int .i64 0, .int .i64 0, .string ⟨#[]⟩, .slice none 0 0] 32)
  have HO := Lib.hid h.old
  have HT := Lib.hid (paOperand IH most hN (h.ext hx) (n := m) (by omega))
  have HZ := Lib.hid (Blk.new w 32 #[.int .i64 0, .int .i64 0, .string ⟨#[]⟩, .slice none 0 0])
  have HC := Lib.hid (clr_box h (Nat.le_refl _) HZ.out.lt)
  have S0 := Lib.hid (PStep.ext (S := f.S) (nv := nv) hx)
  have HSZ := Lib.hid (World.size_alloc w (.cells #[.int .i64 0, .int .i64 0, .string ⟨#[]⟩, .slice none 0 0] 32))
  have HNN := Lib.hid hN
  have HM := Lib.hid hn
  have hp : f.pb < w.heap.size := h.blk.lt
  obtain ⟨Y, hY⟩ : ∃ Y, operN f.O m most r ns = Y := ⟨_, rfl⟩
  obtain ⟨X, hX⟩ : ∃ X, termM f.O m most Y = X := ⟨_, rfl⟩
  rw [hY] at HT ⊢
  rw [hX]
  have HX := Lib.hid hX
  clear h hx hN hn hY hX
  go_enter Tryz.func41, Tryz.ntmps41
  go_upto_region 1 with fail
  generalize w.alloc (.cells #[.int .i64 0, .int .i64 0, .string ⟨#[]⟩, .slice none 0 0] 32) = W0 at *
  go_upto_region 2 with (go_at_call 64; refine HT.out.mono ?_; rintro e W1 ⟨t, p, A, c, nv1, q1, ms1, b1, rfl, hres, h1, s1, ht1, hl1⟩; have HRES := Lib.hid hres; have H1 := Lib.hid h1; have S1 := Lib.hid s1; have T1 := Lib.hid ht1; have L1 := Lib.hid hl1; clear hres h1 s1 ht1 hl1)
  have hx1 := ext_box4 W1 (.cells #[.int .i64 (Tm.k t), .int .i64 (Tm.n t), .string (Tm.s t), .slice A (Tm.l t).length c] 32)
  have HR0 : Hid (TermSt f w nv most r X W1.heap.size (W1.alloc (.cells #[.int .i64 (Tm.k t), .int .i64 (Tm.n t), .string (Tm.s t), .slice A (Tm.l t).length c] 32)) p t A c nv1 q1 ms1 b1) := Lib.hid (by
    have s2 := S1.out.trans (PStep.ext hx1)
    have hz2 := (HZ.out.mods S1.out.mods HC.out.no).ext hx1
    have hb := Blk.new W1 32 #[.int .i64 (Tm.k t), .int .i64 (Tm.n t), .string (Tm.s t), .slice A (Tm.l t).length c]
    have he := oper_end (O := f.O) (n := m) (most := most) HRES.out
    rw [HX.out] at he
    have hg : w.heap.size < W1.heap.size := by have := S1.out.size; have := HSZ.out; omega
    refine ⟨H1.out.ext hx1, S0.out.trans s2, hz2, s2.clr HC.out, hb, clr_box H1.out (Nat.le_refl _) hb.lt, hg, (T1.out.ext hx1).mono (fun k hk => ⟨?_, ?_, ?_⟩), L1.out, he.1, fun hb => ⟨m, by have := HM.out; have := L1.out; omega, he.2 hb⟩⟩
    · exact ⟨by have := hk.1; have := HSZ.out; omega, ((PStep.ext hx1).clr hk.2)⟩
    · have := hk.2.2.2; omega
    · have := hk.1; have := HSZ.out; omega)
  have hgB : w.heap.size < W1.heap.size := HR0.out.ne
  generalize W1.alloc (.cells #[.int .i64 (Tm.k t), .int .i64 (Tm.n t), .string (Tm.s t), .slice A (Tm.l t).length c] 32) = W3 at *
  generalize W1.heap.size = gB at *
  clear H1 S1 T1 HRES HX HM L1 HZ HC S0 hx1
  go_loopg [6] q1.length (fun g v wx => ∃ p t A c nvx q ms bx, v = .int .i64 p ∧ Hid (TermSt f w nv most r X gB wx p t A c nvx q ms bx) ∧ Hid (q.length ≤ g))
  case atStart => exact ⟨p, t, A, c, _, _, _, _, rfl, HR0, Lib.hid (Nat.le_refl _)⟩
  case round =>
    clear HR0
    obtain ⟨p, t, A, c, nvx, q, ms, bx, rfl, HR, HG⟩ := hrel
    have c5 := HR.out.pa.cells.c5
    cases bx with
    | true =>
      have HE := HR
      have kz := HE.out.zb.cell
      have fz := HE.out.zb.frozen
      have kt := HE.out.tb.cell
      have HBX := Lib.hid (HR.out.bd rfl)
      go_wp2_with fail
      have kb := blk_set4 HE.out.zb (.int .i64 (Tm.k t)) (.int .i64 (Tm.n t)) (.string (Tm.s t)) (.slice A (Tm.l t).length c)
      have kc := kb.cell
      have h7 := HE.out.pa.set4 HO.out (Nat.le_refl _) HE.out.zb (.int .i64 (Tm.k t)) (.int .i64 (Tm.n t)) (.string (Tm.s t)) (.slice A (Tm.l t).length c)
      have s7 := pstep_set4 HE.out.st (Nat.le_refl _) (.int .i64 (Tm.k t)) (.int .i64 (Tm.n t)) (.string (Tm.s t)) (.slice A (Tm.l t).length c)
      have t7 := HE.out.tmE (.int .i64 (Tm.k t)) (.int .i64 (Tm.n t)) (.string (Tm.s t)) (.slice A (Tm.l t).length c)
      refine bodyPost_ret (v := .agg #[.int .i64 (Tm.k t), .int .i64 (Tm.n t), .string (Tm.s t), .slice A (Tm.l t).length c]) ?_ rfl ⟨t, A, c, nvx, q, ms, true, rfl, by rw [HBX.out]; exact ⟨rfl, rfl⟩, h7, s7, t7, HE.out.len⟩
      simp [results, Tryz.results41, go_sem, kc]
    | false =>
      have HI := Lib.hid (pinfix_any HR.out.pa)
      have HXX := fun h => HR.out.ok h
      obtain ⟨m2, hm2, hk2⟩ := HR.out.ok rfl
      obtain ⟨m1, rfl⟩ : ∃ m1, m2 = m1 + 1 := ⟨m2 - 1, by omega⟩
      have HM2 := Lib.hid hm2
      have HK2 := Lib.hid hk2
      clear hm2 hk2 HXX
      obtain ⟨io, hio⟩ : ∃ io, infixF f.O q = io := ⟨_, rfl⟩
      rw [hio] at HI
      have HIO := Lib.hid hio
      clear hio
      cases io with
      | none =>
        have HXO := Lib.hid (loop_none f.O m1 most t p q ms HIO.out)
        unfold opR opA at HI
        simp only [Option.getD_none, Option.isSome_none] at HI
        have HE := Lib.hid HR.out
        clear HE
        go_upto_region 8 with (go_at_call 65; refine HI.out.mono ?_; rintro e W4 ⟨rfl, x4⟩; have HE := Lib.hid (HR.out.ext (x4.alloc (.cells #[.int .i64 zeroO.p, .int .i64 zeroO.t, .string zeroO.s] 70))); clear x4)
        have kz := HE.out.zb.cell
        have fz := HE.out.zb.frozen
        have kt := HE.out.tb.cell
        go_wp2_with fail
        have kb := blk_set4 HE.out.zb (.int .i64 (Tm.k t)) (.int .i64 (Tm.n t)) (.string (Tm.s t)) (.slice A (Tm.l t).length c)
        have kc := kb.cell
        have h7 := HE.out.pa.set4 HO.out (Nat.le_refl _) HE.out.zb (.int .i64 (Tm.k t)) (.int .i64 (Tm.n t)) (.string (Tm.s t)) (.slice A (Tm.l t).length c)
        have s7 := pstep_set4 HE.out.st (Nat.le_refl _) (.int .i64 (Tm.k t)) (.int .i64 (Tm.n t)) (.string (Tm.s t)) (.slice A (Tm.l t).length c)
        have t7 := HE.out.tmE (.int .i64 (Tm.k t)) (.int .i64 (Tm.n t)) (.string (Tm.s t)) (.slice A (Tm.l t).length c)
        refine bodyPost_ret (v := .agg #[.int .i64 (Tm.k t), .int .i64 (Tm.n t), .string (Tm.s t), .slice A (Tm.l t).length c]) ?_ rfl ⟨t, A, c, nvx, q, ms, false, rfl, loop_end HXO.out HK2.out, h7, s7, t7, HE.out.len⟩
        simp [results, Tryz.results41, go_sem, kc]
      | some o =>
        unfold opR opA at HI
        simp only [Option.getD_some, Option.isSome_some] at HI
        go_upto_region 4 with (go_at_call 65; refine HI.out.mono ?_; rintro e W4 ⟨rfl, x4⟩; have HE := Lib.hid ((HR.out.ext x4).ext (ext_box4 _ (.cells #[.int .i64 o.p, .int .i64 o.t, .string o.s] 70))); have B7 := Lib.hid (Blk.new W4 70 #[.int .i64 o.p, .int .i64 o.t, .string o.s]); have G7 : Hid (gB < W4.heap.size) := Lib.hid (HR.out.ext x4).tb.lt; have D7 := Lib.hid (clr_box (HR.out.ext x4).pa (Nat.le_refl _) B7.out.lt); clear x4)
        generalize W4.alloc (.cells #[.int .i64 o.p, .int .i64 o.t, .string o.s] 70) = W5 at *
        generalize W4.heap.size = g7 at *
        clear c5
        have kz := HE.out.zb.cell
        have fz := HE.out.zb.frozen
        have kt := HE.out.tb.cell
        have k7 := B7.out.cell
        have HLE := Lib.hid (pLeft_any o.p o.t o.s W5 HE.out.pa.typ)
        by_cases hc1 : most < o.p
        · have HXO := Lib.hid (loop_stop f.O m1 most t p q ms HIO.out (.inl hc1))
          go_wp2_with fail
          have kb := blk_set4 HE.out.zb (.int .i64 (Tm.k t)) (.int .i64 (Tm.n t)) (.string (Tm.s t)) (.slice A (Tm.l t).length c)
          have kc := kb.cell
          have h7 := HE.out.pa.set4 HO.out (Nat.le_refl _) HE.out.zb (.int .i64 (Tm.k t)) (.int .i64 (Tm.n t)) (.string (Tm.s t)) (.slice A (Tm.l t).length c)
          have s7 := pstep_set4 HE.out.st (Nat.le_refl _) (.int .i64 (Tm.k t)) (.int .i64 (Tm.n t)) (.string (Tm.s t)) (.slice A (Tm.l t).length c)
          have t7 := HE.out.tmE (.int .i64 (Tm.k t)) (.int .i64 (Tm.n t)) (.string (Tm.s t)) (.slice A (Tm.l t).length c)
          refine bodyPost_ret (v := .agg #[.int .i64 (Tm.k t), .int .i64 (Tm.n t), .string (Tm.s t), .slice A (Tm.l t).length c]) ?_ rfl ⟨t, A, c, nvx, q, ms, false, rfl, loop_end HXO.out HK2.out, h7, s7, t7, HE.out.len⟩
          simp [results, Tryz.results41, go_sem, kc]
        · have hc1b : o.p ≤ most := by omega
          by_cases hc2 : leftI o.p o.t < p
          · have HXO := Lib.hid (loop_stop f.O m1 most t p q ms HIO.out (.inr hc2))
            go_upto_region 8 with (go_at_call 66; refine HLE.out.mono ?_; rintro e W6 ⟨rfl, x6⟩; have HE6 := Lib.hid (HE.out.ext x6); clear x6)
            have HE := HE6
            clear kz fz kt k7
            have kz := HE.out.zb.cell
            have fz := HE.out.zb.frozen
            have kt := HE.out.tb.cell
            go_wp2_with fail
            have kb := blk_set4 HE.out.zb (.int .i64 (Tm.k t)) (.int .i64 (Tm.n t)) (.string (Tm.s t)) (.slice A (Tm.l t).length c)
            have kc := kb.cell
            have h7 := HE.out.pa.set4 HO.out (Nat.le_refl _) HE.out.zb (.int .i64 (Tm.k t)) (.int .i64 (Tm.n t)) (.string (Tm.s t)) (.slice A (Tm.l t).length c)
            have s7 := pstep_set4 HE.out.st (Nat.le_refl _) (.int .i64 (Tm.k t)) (.int .i64 (Tm.n t)) (.string (Tm.s t)) (.slice A (Tm.l t).length c)
            have t7 := HE.out.tmE (.int .i64 (Tm.k t)) (.int .i64 (Tm.n t)) (.string (Tm.s t)) (.slice A (Tm.l t).length c)
            refine bodyPost_ret (v := .agg #[.int .i64 (Tm.k t), .int .i64 (Tm.n t), .string (Tm.s t), .slice A (Tm.l t).length c]) ?_ rfl ⟨t, A, c, nvx, q, ms, false, rfl, loop_end HXO.out HK2.out, h7, s7, t7, HE.out.len⟩
            simp [results, Tryz.results41, go_sem, kc]
          · have hc2b : p ≤ leftI o.p o.t := by omega
            have HXO := Lib.hid (loop_go f.O m1 most t p q ms HIO.out (by omega))
            obtain ⟨t1, t2, t3, t4⟩ := infix_more HR.out.pa HIO.out
            have HTL := Lib.hid t4
            have hkL := plI_lt HR.out.pa.suf HR.out.pa.nil
            have hLL := HR.out.pa.toks.len
            have HT3 := Lib.hid t3
            have HL : Hid (ms.length + q.tail.length ≤ f.L.length) := Lib.hid (by have := HR.out.pa.nl; omega)
            clear t3 t4
            go_upto_region 5 with (go_at_call 66; refine HLE.out.mono ?_; rintro e W6 ⟨rfl, x6⟩; have HE6 := Lib.hid (HE.out.ext x6); have B76 := Lib.hid (B7.out.ext x6); have D76 := Lib.hid ((PStep.ext (S := f.S) (nv := nvx) x6).clr D7.out); clear x6)
            clear kz fz kt k7 HE B7 D7
            have s1 := HE6.out.pa.setI t1 t2 HL.out ((plI f.L q : Int) + 1) (by rw [HT3.out]; omega)
            have c1 := HE6.out.pa.cells.c1
            have f1 := HE6.out.pa.blk.frozen 1
            have hgp : gB ≠ f.pb := by omega
            have hg7 : g7 ≠ f.pb := by have := G7.out; omega
            have H7 := Lib.hid s1.1
            have S7 := Lib.hid (HE6.out.st.trans s1.2)
            have Z7 : Hid (Blk (W6.setCell ⟨f.pb, 1, none⟩ (.int .i64 ((plI f.L q : Int) + 1))) w.heap.size 32 #[.int .i64 0, .int .i64 0, .string ⟨#[]⟩, .slice none 0 0]) := Lib.hid (HE6.out.zb.far (p := ⟨f.pb, 1, none⟩) (by simp; omega) _)
            have TB7 : Hid (Blk (W6.setCell ⟨f.pb, 1, none⟩ (.int .i64 ((plI f.L q : Int) + 1))) gB 32 #[.int .i64 (Tm.k t), .int .i64 (Tm.n t), .string (Tm.s t), .slice A (Tm.l t).length c]) := Lib.hid (HE6.out.tb.far (p := ⟨f.pb, 1, none⟩) (by simpa using hgp) _)
            have B77 : Hid (Blk (W6.setCell ⟨f.pb, 1, none⟩ (.int .i64 ((plI f.L q : Int) + 1))) g7 70 #[.int .i64 o.p, .int .i64 o.t, .string o.s]) := Lib.hid (B76.out.far (p := ⟨f.pb, 1, none⟩) (by simpa using hg7) _)
            have CZ7 := Lib.hid (s1.2.clr HE6.out.cz)
            have CB7 := Lib.hid (s1.2.clr HE6.out.cb)
            have D77 := Lib.hid (s1.2.clr D76.out)
            have T7 := Lib.hid (TmIn.mods (D' := fun k => NewT f.S nvx w (W6.setCell ⟨f.pb, 1, none⟩ (.int .i64 ((plI f.L q : Int) + 1))) k ∧ k ≠ gB ∧ k ≠ w.heap.size) s1.2.mods (fun _ hk => hk.1.2.no) (fun _ hk => ⟨hk.1.step s1.2, hk.2⟩) HE6.out.tm)
            generalize plI f.L q = k at *
            clear s1
            go_upto_region 6 with fail
            generalize W6.setCell ⟨f.pb, 1, none⟩ (.int .i64 ((k : Int) + 1)) = W7 at *
            clear c1 f1 HE6 B76 D76
            obtain ⟨Y2, hY2⟩ : ∃ Y2, termN f.O m1 (rightI o.p o.t) q.tail ms = Y2 := ⟨_, rfl⟩
            have HY2 := Lib.hid hY2
            rw [hY2] at HXO
            clear hY2
            have HRT := fun V (x : Ext W7 V) => Lib.hid (pRight_any o.p o.t o.s V (H7.out.ext x).typ)
            have HTT := fun V (x : Ext W7 V) => Lib.hid (show Calls Tryz.prog 41 #[.pointer (some ⟨f.pb, 0, none⟩), .int .i64 (rightI o.p o.t)] V (TPost f V nvx q.tail Y2) from by
              have := IH q.tail ms nvx V m1 (rightI o.p o.t) (by have := HR.out.len; have := HNN.out; have := HTL.out; omega) (H7.out.ext x) (by have := HM2.out; have := HTL.out; omega)
              rw [HY2.out] at this
              exact this)
            have m7 := B77.out.cell
            have mt := TB7.out.cell
            have hn1 : ¬ g7 = gB := by have := G7.out; omega
            have hn2 : ¬ gB = g7 := by have := G7.out; omega
            have hg7l := B77.out.lt
            have hgBl := TB7.out.lt
            go_region_law ((first
              | (go_simp; go_at_call 68; refine (HRT _ ((Ext.refl _).drew)).out.mono ?_; rintro e V1 ⟨rfl, x1⟩; have X1 := Lib.hid ((Ext.refl _).drew.trans x1); have v7 := (B77.out.ext X1.out).cell; have vt := (TB7.out.ext X1.out).cell; clear x1)
              | (go_simp; go_at_call 41; refine (HTT _ X1.out).out.mono ?_; rintro e W8 ⟨u, Au, cu, nv8, q8, ms8, b8, rfl, hres, h8, s8, hu8, hl8⟩; have HRES := Lib.hid hres; have H8 := Lib.hid h8; have PX := Lib.hid ((PStep.ext (S := f.S) (nv := nvx) X1.out).trans s8); have L8 := Lib.hid hl8; have TB8 := Lib.hid (TB7.out.mods PX.out.mods CB7.out.no); have B78 := Lib.hid (B77.out.mods PX.out.mods D77.out.no); have u7 := B78.out.cell; have ut := TB8.out.cell; have T8 := Lib.hid (TmIn.mods (D' := (fun k => NewT f.S nv8 w W8 k ∧ k ≠ gB ∧ k ≠ w.heap.size)) PX.out.mods (fun _ hk => hk.1.2.no) (fun _ hk => ⟨hk.1.step PX.out, hk.2⟩) T7.out); have U8 := Lib.hid (hu8.mono (D' := (fun k => NewT f.S nv8 w W8 k ∧ k ≠ gB ∧ k ≠ w.heap.size)) (fun k hk => by have h1 := hk.1; have h2 := X1.out.size; have h3 := TB7.out.lt; exact ⟨⟨by omega, hk.2⟩, by omega, by omega⟩)); have HCM := Lib.hid (pComp_any o.s [(t, A, c), (u, Au, cu)] (some ⟨W8.heap.size, 0, none⟩) 2 (W8.alloc (.cells #[.int .i64 (Tm.k t), .int .i64 (Tm.n t), .string (Tm.s t), .slice A (Tm.l t).length c, .int .i64 (Tm.k u), .int .i64 (Tm.n u), .string (Tm.s u), .slice Au (Tm.l u).length cu] 32)) (fun k => NewT f.S nv8 w W8 k ∧ k ≠ gB ∧ k ≠ w.heap.size) (El.Src.new W8 #[.int .i64 (Tm.k t), .int .i64 (Tm.n t), .string (Tm.s t), .slice A (Tm.l t).length c, .int .i64 (Tm.k u), .int .i64 (Tm.n u), .string (Tm.s u), .slice Au (Tm.l u).length cu] 32 2 4 rfl) (fun e he => by simp only [List.mem_cons, List.not_mem_nil, or_false] at he; rcases he with rfl | rfl; exact T8.out.ext (ext_box4 _ _); exact U8.out.ext (ext_box4 _ _)) (by simp) (by simp)); simp only [List.length_cons, List.length_nil, Nat.reduceAdd] at HCM; have y7 := (B78.out.ext (ext_box4 W8 (.cells #[.int .i64 (Tm.k t), .int .i64 (Tm.n t), .string (Tm.s t), .slice A (Tm.l t).length c, .int .i64 (Tm.k u), .int .i64 (Tm.n u), .string (Tm.s u), .slice Au (Tm.l u).length cu] 32))).cell; have hl7 := B78.out.lt; clear hres h8 s8 hu8 hl8)
              | (go_simp; go_at_call 67; refine HCM.out.mono ?_; rintro e W9 ⟨A9, c9, rfl, ht9, hx9⟩; have T9 := Lib.hid ht9; have X9 := Lib.hid ((ext_box4 W8 _).trans hx9); have TB9 := Lib.hid (TB8.out.ext X9.out); have zc := TB9.out.cell; have zf := TB9.out.frozen; have w7 := (B78.out.ext X9.out).cell; clear ht9 hx9)))
            all_goals
              go_wp2_with fail
              go_roundg (q.length - 1)
              case measure => have := HG.out; have := HTL.out; omega
              case rel =>
                exact ⟨o.p, .mk 4 0 o.s [t, u], A9, c9, nv8, q8, ms8, b8, rfl, Lib.hid (TermSt.next (HXO.out.symm.trans HK2.out) H8.out (S7.out.trans PX.out) (Z7.out.mods PX.out.mods CZ7.out.no) (PX.out.clr CZ7.out) TB8.out (PX.out.clr CB7.out) hgB HRES.out HO.out (by have := L8.out; have := HTL.out; have := HR.out.len; omega) (by have := L8.out; have := HTL.out; have := HM2.out; omega) X9.out (T9.out.mono (fun k hk => by rcases hk with hk | ⟨h1, h2⟩; exact .inl hk; simp at h1; exact .inr ⟨by omega, h2⟩))), Lib.hid (by have := L8.out; have := HTL.out; omega)⟩

/-- Whatever is left: term does as the plain parser does. -/
theorem paTerm {f : PF} : ∀ N, PTermC f N
  | 0 => fun _ _ _ _ _ _ hN h _ => absurd (List.eq_nil_of_length_eq_zero (Nat.le_zero.1 hN)) h.nil
  | N + 1 => paTerm_step (paTerm N)
end Go.Proofs.YtgcdhffeacdegaaGreatDoor
