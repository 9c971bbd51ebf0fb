/- Layer 10, the program: the walk of term. -/
import Derived.Test.YtgcdhffeacdegaaGreatDoorH30
import Derived.Test.YtgcdhffeacdegaaGreatDoorH04
import Derived.Test.YtgcdhffeacdegaaGreatDoorH08
namespace Go.Proofs.YtgcdhffeacdegaaGreatDoor
open Go.RowKit Go.El
set_option maxRecDepth 100000 in
set_option maxHeartbeats 16000000 in
theorem paTerm_step {f : PF} {N : Nat} (IH : PTermC f N) : PTermC f (N + 1) := by
 intro r ns nv w n most hN h hn
 obtain ⟨m, rfl⟩ : ∃ m, n = m + 1 := ⟨n - 1, by omega⟩
 rw [termN_eq]
 have hx := ext_box4 w (.cells #[.int .i64 0, .int .i64 0, .string ⟨#[]⟩, .slice none 0 0] 32)
 have HO := Lib.hid h.old
 have HT := Lib.hid (paOperand IH most hN (h.ext hx) (n := m) (by omega))
 have HZ := Lib.hid (Blk.new w 32 #[.int .i64 0, .int .i64 0, .string ⟨#[]⟩, .slice none 0 0])
 have HC := Lib.hid (clr_box h (Nat.le_refl _) HZ.out.lt)
 have S0 := Lib.hid (PStep.ext (S := f.S) (nv := nv) hx)
 have HSZ := Lib.hid (World.size_alloc w (.cells #[.int .i64 0, .int .i64 0, .string ⟨#[]⟩, .slice none 0 0] 32))
 have HNN := Lib.hid hN
 have HM := Lib.hid hn
 have hp : f.pb < w.heap.size := h.blk.lt
 obtain ⟨Y, hY⟩ : ∃ Y, operN f.O m most r ns = Y := ⟨_, rfl⟩
 obtain ⟨X, hX⟩ : ∃ X, termM f.O m most Y = X := ⟨_, rfl⟩
 rw [hY] at HT ⊢
 rw [hX]
 have HX := Lib.hid hX
 clear h hx hN hn hY hX
 go_enter Tryz.func41, Tryz.ntmps41
 go_upto_region 1 with fail
 generalize w.alloc (.cells #[.int .i64 0, .int .i64 0, .string ⟨#[]⟩, .slice none 0 0] 32) = W0 at *
 go_upto_region 2 with (go_at_call 64; refine HT.out.mono ?_; rintro e W1 ⟨t, p, A, c, nv1, q1, ms1, b1, rfl, hres, h1, s1, ht1, hl1⟩; have HRES := Lib.hid hres; have H1 := Lib.hid h1; have S1 := Lib.hid s1; have T1 := Lib.hid ht1; have L1 := Lib.hid hl1; clear hres h1 s1 ht1 hl1)
 have hx1 := ext_box4 W1 (.cells #[.int .i64 (Tm.k t), .int .i64 (Tm.n t), .string (Tm.s t), .slice A (Tm.l t).length c] 32)
 have HR0 : Hid (TermSt f w nv most r X W1.heap.size (W1.alloc (.cells #[.int .i64 (Tm.k t), .int .i64 (Tm.n t), .string (Tm.s t), .slice A (Tm.l t).length c] 32)) p t A c nv1 q1 ms1 b1) := Lib.hid (by
  have s2 := S1.out.trans (PStep.ext hx1)
  have hz2 := (HZ.out.mods S1.out.mods HC.out.no).ext hx1
  have hb := Blk.new W1 32 #[.int .i64 (Tm.k t), .int .i64 (Tm.n t), .string (Tm.s t), .slice A (Tm.l t).length c]
  have he := oper_end (O := f.O) (n := m) (most := most) HRES.out
  rw [HX.out] at he
  have hg : w.heap.size < W1.heap.size := by have := S1.out.size; have := HSZ.out; omega
  refine ⟨H1.out.ext hx1, S0.out.trans s2, hz2, s2.clr HC.out, hb, clr_box H1.out (Nat.le_refl _) hb.lt, hg, (T1.out.ext hx1).mono (fun k hk => ⟨?_, ?_, ?_⟩), L1.out, he.1, fun hb => ⟨m, by have := HM.out; have := L1.out; omega, he.2 hb⟩⟩
  ·exact ⟨by have := hk.1; have := HSZ.out; omega, ((PStep.ext hx1).clr hk.2)⟩
  ·have := hk.2.2.2; omega
  ·have := hk.1; have := HSZ.out; omega)
 have hgB : w.heap.size < W1.heap.size := HR0.out.ne
 generalize W1.alloc (.cells #[.int .i64 (Tm.k t), .int .i64 (Tm.n t), .string (Tm.s t), .slice A (Tm.l t).length c] 32) = W3 at *
 generalize W1.heap.size = gB at *
 clear H1 S1 T1 HRES HX HM L1 HZ HC S0 hx1
 go_loopg [6] q1.length (fun g v wx => ∃ p t A c nvx q ms bx, v = .int .i64 p ∧ Hid (TermSt f w nv most r X gB wx p t A c nvx q ms bx) ∧ Hid (q.length ≤ g))
 case atStart => exact ⟨p, t, A, c, _, _, _, _, rfl, HR0, Lib.hid (Nat.le_refl _)⟩
 case round =>
  clear HR0
  obtain ⟨p, t, A, c, nvx, q, ms, bx, rfl, HR, HG⟩ := hrel
  have c5 := HR.out.pa.cells.c5
  cases bx with
  | true =>
   have HE := HR
   have kz := HE.out.zb.cell
   have fz := HE.out.zb.frozen
   have kt := HE.out.tb.cell
   have HBX := Lib.hid (HR.out.bd rfl)
   go_wp2_with fail
   have kb := blk_set4 HE.out.zb (.int .i64 (Tm.k t)) (.int .i64 (Tm.n t)) (.string (Tm.s t)) (.slice A (Tm.l t).length c)
   have kc := kb.cell
   have h7 := HE.out.pa.set4 HO.out (Nat.le_refl _) HE.out.zb (.int .i64 (Tm.k t)) (.int .i64 (Tm.n t)) (.string (Tm.s t)) (.slice A (Tm.l t).length c)
   have s7 := pstep_set4 HE.out.st (Nat.le_refl _) (.int .i64 (Tm.k t)) (.int .i64 (Tm.n t)) (.string (Tm.s t)) (.slice A (Tm.l t).length c)
   have t7 := HE.out.tmE (.int .i64 (Tm.k t)) (.int .i64 (Tm.n t)) (.string (Tm.s t)) (.slice A (Tm.l t).length c)
   refine bodyPost_ret (v := .agg #[.int .i64 (Tm.k t), .int .i64 (Tm.n t), .string (Tm.s t), .slice A (Tm.l t).length c]) ?_ rfl ⟨t, A, c, nvx, q, ms, true, rfl, by rw [HBX.out]; exact ⟨rfl, rfl⟩, h7, s7, t7, HE.out.len⟩
   simp [results, Tryz.results41, go_sem, kc]
  | false =>
   have HI := Lib.hid (pinfix_any HR.out.pa)
   have HXX := fun h => HR.out.ok h
   obtain ⟨m2, hm2, hk2⟩ := HR.out.ok rfl
   obtain ⟨m1, rfl⟩ : ∃ m1, m2 = m1 + 1 := ⟨m2 - 1, by omega⟩
   have HM2 := Lib.hid hm2
   have HK2 := Lib.hid hk2
   clear hm2 hk2 HXX
   obtain ⟨io, hio⟩ : ∃ io, infixF f.O q = io := ⟨_, rfl⟩
   rw [hio] at HI
   have HIO := Lib.hid hio
   clear hio
   cases io with
   | none =>
    have HXO := Lib.hid (loop_none f.O m1 most t p q ms HIO.out)
    unfold opR opA at HI
    simp only [Option.getD_none, Option.isSome_none] at HI
    have HE := Lib.hid HR.out
    clear HE
    go_upto_region 8 with (go_at_call 65; refine HI.out.mono ?_; rintro e W4 ⟨rfl, x4⟩; have HE := Lib.hid (HR.out.ext (x4.alloc (.cells #[.int .i64 zeroO.p, .int .i64 zeroO.t, .string zeroO.s] 70))); clear x4)
    have kz := HE.out.zb.cell
    have fz := HE.out.zb.frozen
    have kt := HE.out.tb.cell
    go_wp2_with fail
    have kb := blk_set4 HE.out.zb (.int .i64 (Tm.k t)) (.int .i64 (Tm.n t)) (.string (Tm.s t)) (.slice A (Tm.l t).length c)
    have kc := kb.cell
    have h7 := HE.out.pa.set4 HO.out (Nat.le_refl _) HE.out.zb (.int .i64 (Tm.k t)) (.int .i64 (Tm.n t)) (.string (Tm.s t)) (.slice A (Tm.l t).length c)
    have s7 := pstep_set4 HE.out.st (Nat.le_refl _) (.int .i64 (Tm.k t)) (.int .i64 (Tm.n t)) (.string (Tm.s t)) (.slice A (Tm.l t).length c)
    have t7 := HE.out.tmE (.int .i64 (Tm.k t)) (.int .i64 (Tm.n t)) (.string (Tm.s t)) (.slice A (Tm.l t).length c)
    refine bodyPost_ret (v := .agg #[.int .i64 (Tm.k t), .int .i64 (Tm.n t), .string (Tm.s t), .slice A (Tm.l t).length c]) ?_ rfl ⟨t, A, c, nvx, q, ms, false, rfl, loop_end HXO.out HK2.out, h7, s7, t7, HE.out.len⟩
    simp [results, Tryz.results41, go_sem, kc]
   | some o =>
    unfold opR opA at HI
    simp only [Option.getD_some, Option.isSome_some] at HI
    go_upto_region 4 with (go_at_call 65; refine HI.out.mono ?_; rintro e W4 ⟨rfl, x4⟩; have HE := Lib.hid ((HR.out.ext x4).ext (ext_box4 _ (.cells #[.int .i64 o.p, .int .i64 o.t, .string o.s] 70))); have B7 := Lib.hid (Blk.new W4 70 #[.int .i64 o.p, .int .i64 o.t, .string o.s]); have G7 : Hid (gB < W4.heap.size) := Lib.hid (HR.out.ext x4).tb.lt; have D7 := Lib.hid (clr_box (HR.out.ext x4).pa (Nat.le_refl _) B7.out.lt); clear x4)
    generalize W4.alloc (.cells #[.int .i64 o.p, .int .i64 o.t, .string o.s] 70) = W5 at *
    generalize W4.heap.size = g7 at *
    clear c5
    have kz := HE.out.zb.cell
    have fz := HE.out.zb.frozen
    have kt := HE.out.tb.cell
    have k7 := B7.out.cell
    have HLE := Lib.hid (pLeft_any o.p o.t o.s W5 HE.out.pa.typ)
    by_cases hc1 : most < o.p
    ·have HXO := Lib.hid (loop_stop f.O m1 most t p q ms HIO.out (.inl hc1))
     go_wp2_with fail
     have kb := blk_set4 HE.out.zb (.int .i64 (Tm.k t)) (.int .i64 (Tm.n t)) (.string (Tm.s t)) (.slice A (Tm.l t).length c)
     have kc := kb.cell
     have h7 := HE.out.pa.set4 HO.out (Nat.le_refl _) HE.out.zb (.int .i64 (Tm.k t)) (.int .i64 (Tm.n t)) (.string (Tm.s t)) (.slice A (Tm.l t).length c)
     have s7 := pstep_set4 HE.out.st (Nat.le_refl _) (.int .i64 (Tm.k t)) (.int .i64 (Tm.n t)) (.string (Tm.s t)) (.slice A (Tm.l t).length c)
     have t7 := HE.out.tmE (.int .i64 (Tm.k t)) (.int .i64 (Tm.n t)) (.string (Tm.s t)) (.slice A (Tm.l t).length c)
     refine bodyPost_ret (v := .agg #[.int .i64 (Tm.k t), .int .i64 (Tm.n t), .string (Tm.s t), .slice A (Tm.l t).length c]) ?_ rfl ⟨t, A, c, nvx, q, ms, false, rfl, loop_end HXO.out HK2.out, h7, s7, t7, HE.out.len⟩
     simp [results, Tryz.results41, go_sem, kc]
    ·have hc1b : o.p ≤ most := by omega
     by_cases hc2 : leftI o.p o.t < p
     ·have HXO := Lib.hid (loop_stop f.O m1 most t p q ms HIO.out (.inr hc2))
      go_upto_region 8 with (go_at_call 66; refine HLE.out.mono ?_; rintro e W6 ⟨rfl, x6⟩; have HE6 := Lib.hid (HE.out.ext x6); clear x6)
      have HE := HE6
      clear kz fz kt k7
      have kz := HE.out.zb.cell
      have fz := HE.out.zb.frozen
      have kt := HE.out.tb.cell
      go_wp2_with fail
      have kb := blk_set4 HE.out.zb (.int .i64 (Tm.k t)) (.int .i64 (Tm.n t)) (.string (Tm.s t)) (.slice A (Tm.l t).length c)
      have kc := kb.cell
      have h7 := HE.out.pa.set4 HO.out (Nat.le_refl _) HE.out.zb (.int .i64 (Tm.k t)) (.int .i64 (Tm.n t)) (.string (Tm.s t)) (.slice A (Tm.l t).length c)
      have s7 := pstep_set4 HE.out.st (Nat.le_refl _) (.int .i64 (Tm.k t)) (.int .i64 (Tm.n t)) (.string (Tm.s t)) (.slice A (Tm.l t).length c)
      have t7 := HE.out.tmE (.int .i64 (Tm.k t)) (.int .i64 (Tm.n t)) (.string (Tm.s t)) (.slice A (Tm.l t).length c)
      refine bodyPost_ret (v := .agg #[.int .i64 (Tm.k t), .int .i64 (Tm.n t), .string (Tm.s t), .slice A (Tm.l t).length c]) ?_ rfl ⟨t, A, c, nvx, q, ms, false, rfl, loop_end HXO.out HK2.out, h7, s7, t7, HE.out.len⟩
      simp [results, Tryz.results41, go_sem, kc]
     ·have hc2b : p ≤ leftI o.p o.t := by omega
      have HXO := Lib.hid (loop_go f.O m1 most t p q ms HIO.out (by omega))
      obtain ⟨t1, t2, t3, t4⟩ := infix_more HR.out.pa HIO.out
      have HTL := Lib.hid t4
      have hkL := plI_lt HR.out.pa.suf HR.out.pa.nil
      have hLL := HR.out.pa.toks.len
      have HT3 := Lib.hid t3
      have HL : Hid (ms.length + q.tail.length ≤ f.L.length) := Lib.hid (by have := HR.out.pa.nl; omega)
      clear t3 t4
      go_upto_region 5 with (go_at_call 66; refine HLE.out.mono ?_; rintro e W6 ⟨rfl, x6⟩; have HE6 := Lib.hid (HE.out.ext x6); have B76 := Lib.hid (B7.out.ext x6); have D76 := Lib.hid ((PStep.ext (S := f.S) (nv := nvx) x6).clr D7.out); clear x6)
      clear kz fz kt k7 HE B7 D7
      have s1 := HE6.out.pa.setI t1 t2 HL.out ((plI f.L q : Int) + 1) (by rw [HT3.out]; omega)
      have c1 := HE6.out.pa.cells.c1
      have f1 := HE6.out.pa.blk.frozen 1
      have hgp : gB ≠ f.pb := by omega
      have hg7 : g7 ≠ f.pb := by have := G7.out; omega
      have H7 := Lib.hid s1.1
      have S7 := Lib.hid (HE6.out.st.trans s1.2)
      have Z7 : Hid (Blk (W6.setCell ⟨f.pb, 1, none⟩ (.int .i64 ((plI f.L q : Int) + 1))) w.heap.size 32 #[.int .i64 0, .int .i64 0, .string ⟨#[]⟩, .slice none 0 0]) := Lib.hid (HE6.out.zb.far (p := ⟨f.pb, 1, none⟩) (by simp; omega) _)
      have TB7 : Hid (Blk (W6.setCell ⟨f.pb, 1, none⟩ (.int .i64 ((plI f.L q : Int) + 1))) gB 32 #[.int .i64 (Tm.k t), .int .i64 (Tm.n t), .string (Tm.s t), .slice A (Tm.l t).length c]) := Lib.hid (HE6.out.tb.far (p := ⟨f.pb, 1, none⟩) (by simpa using hgp) _)
      have B77 : Hid (Blk (W6.setCell ⟨f.pb, 1, none⟩ (.int .i64 ((plI f.L q : Int) + 1))) g7 70 #[.int .i64 o.p, .int .i64 o.t, .string o.s]) := Lib.hid (B76.out.far (p := ⟨f.pb, 1, none⟩) (by simpa using hg7) _)
      have CZ7 := Lib.hid (s1.2.clr HE6.out.cz)
      have CB7 := Lib.hid (s1.2.clr HE6.out.cb)
      have D77 := Lib.hid (s1.2.clr D76.out)
      have T7 := Lib.hid (TmIn.mods (D' := fun k => NewT f.S nvx w (W6.setCell ⟨f.pb, 1, none⟩ (.int .i64 ((plI f.L q : Int) + 1))) k ∧ k ≠ gB ∧ k ≠ w.heap.size) s1.2.mods (fun _ hk => hk.1.2.no) (fun _ hk => ⟨hk.1.step s1.2, hk.2⟩) HE6.out.tm)
      generalize plI f.L q = k at *
      clear s1
      go_upto_region 6 with fail
      generalize W6.setCell ⟨f.pb, 1, none⟩ (.int .i64 ((k : Int) + 1)) = W7 at *
      clear c1 f1 HE6 B76 D76
      obtain ⟨Y2, hY2⟩ : ∃ Y2, termN f.O m1 (rightI o.p o.t) q.tail ms = Y2 := ⟨_, rfl⟩
      have HY2 := Lib.hid hY2
      rw [hY2] at HXO
      clear hY2
      have HRT := fun V (x : Ext W7 V) => Lib.hid (pRight_any o.p o.t o.s V (H7.out.ext x).typ)
      have HTT := fun V (x : Ext W7 V) => Lib.hid (show Calls Tryz.prog 41 #[.pointer (some ⟨f.pb, 0, none⟩), .int .i64 (rightI o.p o.t)] V (TPost f V nvx q.tail Y2) from by
       have := IH q.tail ms nvx V m1 (rightI o.p o.t) (by have := HR.out.len; have := HNN.out; have := HTL.out; omega) (H7.out.ext x) (by have := HM2.out; have := HTL.out; omega)
       rw [HY2.out] at this
       exact this)
      have m7 := B77.out.cell
      have mt := TB7.out.cell
      have hn1 : ¬ g7 = gB := by have := G7.out; omega
      have hn2 : ¬ gB = g7 := by have := G7.out; omega
      have hg7l := B77.out.lt
      have hgBl := TB7.out.lt
      go_region_law ((first
       | (go_simp; go_at_call 68; refine (HRT _ ((Ext.refl _).drew)).out.mono ?_; rintro e V1 ⟨rfl, x1⟩; have X1 := Lib.hid ((Ext.refl _).drew.trans x1); have v7 := (B77.out.ext X1.out).cell; have vt := (TB7.out.ext X1.out).cell; clear x1)
       | (go_simp; go_at_call 41; refine (HTT _ X1.out).out.mono ?_; rintro e W8 ⟨u, Au, cu, nv8, q8, ms8, b8, rfl, hres, h8, s8, hu8, hl8⟩; have HRES := Lib.hid hres; have H8 := Lib.hid h8; have PX := Lib.hid ((PStep.ext (S := f.S) (nv := nvx) X1.out).trans s8); have L8 := Lib.hid hl8; have TB8 := Lib.hid (TB7.out.mods PX.out.mods CB7.out.no); have B78 := Lib.hid (B77.out.mods PX.out.mods D77.out.no); have u7 := B78.out.cell; have ut := TB8.out.cell; have T8 := Lib.hid (TmIn.mods (D' := (fun k => NewT f.S nv8 w W8 k ∧ k ≠ gB ∧ k ≠ w.heap.size)) PX.out.mods (fun _ hk => hk.1.2.no) (fun _ hk => ⟨hk.1.step PX.out, hk.2⟩) T7.out); have U8 := Lib.hid (hu8.mono (D' := (fun k => NewT f.S nv8 w W8 k ∧ k ≠ gB ∧ k ≠ w.heap.size)) (fun k hk => by have h1 := hk.1; have h2 := X1.out.size; have h3 := TB7.out.lt; exact ⟨⟨by omega, hk.2⟩, by omega, by omega⟩)); have HCM := Lib.hid (pComp_any o.s [(t, A, c), (u, Au, cu)] (some ⟨W8.heap.size, 0, none⟩) 2 (W8.alloc (.cells #[.int .i64 (Tm.k t), .int .i64 (Tm.n t), .string (Tm.s t), .slice A (Tm.l t).length c, .int .i64 (Tm.k u), .int .i64 (Tm.n u), .string (Tm.s u), .slice Au (Tm.l u).length cu] 32)) (fun k => NewT f.S nv8 w W8 k ∧ k ≠ gB ∧ k ≠ w.heap.size) (El.Src.new W8 #[.int .i64 (Tm.k t), .int .i64 (Tm.n t), .string (Tm.s t), .slice A (Tm.l t).length c, .int .i64 (Tm.k u), .int .i64 (Tm.n u), .string (Tm.s u), .slice Au (Tm.l u).length cu] 32 2 4 rfl) (fun e he => by simp only [List.mem_cons, List.not_mem_nil, or_false] at he; rcases he with rfl | rfl; exact T8.out.ext (ext_box4 _ _); exact U8.out.ext (ext_box4 _ _)) (by simp) (by simp)); simp only [List.length_cons, List.length_nil, Nat.reduceAdd] at HCM; have y7 := (B78.out.ext (ext_box4 W8 (.cells #[.int .i64 (Tm.k t), .int .i64 (Tm.n t), .string (Tm.s t), .slice A (Tm.l t).length c, .int .i64 (Tm.k u), .int .i64 (Tm.n u), .string (Tm.s u), .slice Au (Tm.l u).length cu] 32))).cell; have hl7 := B78.out.lt; clear hres h8 s8 hu8 hl8)
       | (go_simp; go_at_call 67; refine HCM.out.mono ?_; rintro e W9 ⟨A9, c9, rfl, ht9, hx9⟩; have T9 := Lib.hid ht9; have X9 := Lib.hid ((ext_box4 W8 _).trans hx9); have TB9 := Lib.hid (TB8.out.ext X9.out); have zc := TB9.out.cell; have zf := TB9.out.frozen; have w7 := (B78.out.ext X9.out).cell; clear ht9 hx9)))
      all_goals
       go_wp2_with fail
       go_roundg (q.length - 1)
       case measure => have := HG.out; have := HTL.out; omega
       case rel =>
        exact ⟨o.p, .mk 4 0 o.s [t, u], A9, c9, nv8, q8, ms8, b8, rfl, Lib.hid (TermSt.next (HXO.out.symm.trans HK2.out) H8.out (S7.out.trans PX.out) (Z7.out.mods PX.out.mods CZ7.out.no) (PX.out.clr CZ7.out) TB8.out (PX.out.clr CB7.out) hgB HRES.out HO.out (by have := L8.out; have := HTL.out; have := HR.out.len; omega) (by have := L8.out; have := HTL.out; have := HM2.out; omega) X9.out (T9.out.mono (fun k hk => by rcases hk with hk | ⟨h1, h2⟩; exact .inl hk; simp at h1; exact .inr ⟨by omega, h2⟩))), Lib.hid (by have := L8.out; have := HTL.out; omega)⟩
theorem paTerm {f : PF} : ∀ N, PTermC f N
 | 0 => fun _ _ _ _ _ _ hN h _ => absurd (List.eq_nil_of_length_eq_zero (Nat.le_zero.1 hN)) h.nil
 | N + 1 => paTerm_step (paTerm N)
end Go.Proofs.YtgcdhffeacdegaaGreatDoor

/- Layer 10, plain: a term is no larger than the tokens that it was read from. -/
namespace Go.El
def PR.fit {α : Type} (g : α → Nat) (m : Nat) : PR α → Prop
 | .bad _ => True
 | .ok a r _ => g a + r.length ≤ m
theorem fit_want {α : Type} {g : α → Nat} {m : Nat} {c : UInt8} {a : α} {r : List TokV} {ns : List ByteArray} (h : g a + r.length ≤ m + 1) : (wantP c a r ns).fit g m := by
 unfold wantP
 cases r with
 | nil => exact trivial
 | cons t r =>
  split
  ·simp only [PR.fit, List.tail_cons]
   simp only [List.length_cons] at h
   omega
  ·exact trivial
def szO (a : Tm × Int) : Nat := szT a.1
def szR (l : List Tm) : Nat := szL l + l.length
theorem szL_app : ∀ (a b : List Tm), szL (a ++ b) = szL a + szL b
 | [], b => by simp [szL]
 | t :: a, b => by simp [szL, szL_app a b]; omega
theorem szR_app (a : List Tm) (u : Tm) : szR (a ++ [u]) = szR a + szT u + 1 := by
 simp [szR, szL_app, szL]
 omega
theorem szT_comp (s : ByteArray) (l : List Tm) : szT (compT s l) ≤ 1 + szL l := by
 unfold compT
 split
 ·simp [atomT, szT, szL]
 ·simp [szT]
theorem szT_list : ∀ (l : List Tm) (u : Tm), szT (listT l u) = szR l + szT u
 | [], u => by simp [listT, szR, szL]
 | t :: l, u => by
  have ih := szT_list l u
  simp only [listT, List.foldr_cons, szT, szL, szR, List.length_cons] at ih ⊢
  omega
theorem pu_len {r : List TokV} {c : UInt8} (h : isPu r c = true) : r.tail.length + 1 = r.length := by
 cases r with
 | nil => cases h
 | cons t r => rfl
structure FitN (O : Ops) (n : Nat) : Prop where
 term : ∀ most r ns, (termN O n most r ns).fit szT r.length
 loop : ∀ most t p r ns, (loopN O n most t p r ns).fit szT (szT t + r.length)
 oper : ∀ most r ns, (operN O n most r ns).fit szO r.length
 brac : ∀ t r ns, (bracN O n t r ns).fit szO (r.length + 1)
 named : ∀ s r ns, (namedN O n s r ns).fit szO (r.length + 1)
 row : ∀ lim acc r ns, (rowN O n lim acc r ns).fit szR (szR acc + r.length + 1)
 sign : ∀ s most r ns, (signN O n s most r ns).fit szO (r.length + 1)
theorem fit_all (O : Ops) : ∀ n, FitN O n
 | 0 => ⟨fun _ _ _ => trivial, fun _ _ _ _ _ => trivial, fun _ _ _ => trivial, fun _ _ _ => trivial, fun _ _ _ => trivial, fun _ _ _ _ => trivial, fun _ _ _ _ => trivial⟩
 | n + 1 => by
  have ih := fit_all O n
  refine ⟨fun most r ns => ?_, fun most t p r ns => ?_, fun most r ns => ?_, fun t r ns => ?_, fun s r ns => ?_, fun lim acc r ns => ?_, fun s most r ns => ?_⟩
  ·have h1 := ih.oper most r ns
   simp only [termN]
   cases ho : operN O n most r ns with
   | bad q => exact trivial
   | ok a q ms =>
    rw [ho] at h1
    have h2 := ih.loop most a.1 a.2 q ms
    simp only
    cases hl : loopN O n most a.1 a.2 q ms with
    | bad q2 => exact trivial
    | ok b q2 m2 =>
     rw [hl] at h2
     simp only [PR.fit, szO] at h1 h2 ⊢
     omega
  ·simp only [loopN]
   cases hi : infixF O r with
   | none => exact Nat.le_refl _
   | some o =>
    simp only
    split
    ·exact Nat.le_refl _
    ·have h1 := ih.term (rightI o.p o.t) r.tail ns
     have hr : r.tail.length + 1 = r.length := by
      cases r with
      | nil => cases hi
      | cons x r => rfl
     cases ht : termN O n (rightI o.p o.t) r.tail ns with
     | bad q => exact trivial
     | ok u q ms =>
      rw [ht] at h1
      have h2 := ih.loop most (.mk 4 0 o.s [t, u]) o.p q ms
      simp only
      cases hl : loopN O n most (.mk 4 0 o.s [t, u]) o.p q ms with
      | bad q2 => exact trivial
      | ok b q2 m2 =>
       rw [hl] at h2
       simp only [PR.fit, szT, szL] at h1 h2 ⊢
       omega
  ·cases r with
   | nil => exact trivial
   | cons t r =>
    simp only [operN]
    split
    ·exact ih.brac t r ns
    ·split
     ·exact trivial
     ·split
      ·simp only [PR.fit, szO, intT, szT, szL, List.length_cons]
       omega
      ·split
       ·simp only [PR.fit, szO, varT, List.length_cons]
        cases varI t.s ns <;> simp [szT, szL] <;> omega
       ·split
        ·exact ih.named _ r ns
        ·exact ih.sign _ _ r ns
  ·simp only [bracN]
   split
   ·have h1 := ih.term 1200 r ns
    cases ht : termN O n 1200 r ns with
    | bad q => exact trivial
    | ok u q ms =>
     rw [ht] at h1
     exact fit_want (by simp only [PR.fit, szO] at h1 ⊢; omega)
   ·split
    ·split
     ·next hp =>
      have h1 := ih.named nilB r.tail ns
      have h2 := pu_len hp
      cases ht : namedN O n nilB r.tail ns with
      | bad q => exact trivial
      | ok u q ms =>
       rw [ht] at h1
       simp only [PR.fit] at h1 ⊢
       omega
     ·have h1 := ih.row false [] r ns
      cases ht : rowN O n false [] r ns with
      | bad q => exact trivial
      | ok l q ms =>
       rw [ht] at h1
       simp only [PR.fit, szR, szL, List.length_nil] at h1
       simp only
       split
       ·next hp =>
        have h2 := ih.term 999 q.tail ms
        have h3 := pu_len hp
        cases hu : termN O n 999 q.tail ms with
        | bad q2 => exact trivial
        | ok u q2 m2 =>
         rw [hu] at h2
         refine fit_want ?_
         simp only [PR.fit] at h2
         simp only [szO, szT_list, szR]
         omega
       ·refine fit_want ?_
        simp only [szO, szT_list, szR, atomT, szT, szL]
        omega
    ·split
     ·split
      ·next hp =>
       have h1 := ih.named curB r.tail ns
       have h2 := pu_len hp
       cases ht : namedN O n curB r.tail ns with
       | bad q => exact trivial
       | ok u q ms =>
        rw [ht] at h1
        simp only [PR.fit] at h1 ⊢
        omega
      ·have h1 := ih.term 1200 r ns
       cases ht : termN O n 1200 r ns with
       | bad q => exact trivial
       | ok u q ms =>
        rw [ht] at h1
        have h2 := szT_comp curB [u]
        refine fit_want ?_
        simp only [PR.fit] at h1
        simp only [szO]
        simp only [szL] at h2
        omega
     ·exact trivial
  ·simp only [namedN]
   split
   ·next ho =>
    have hp : isPu r 40 = true := by
     unfold opensB at ho
     rw [Bool.and_eq_true] at ho
     exact ho.1
    have h0 := pu_len hp
    have h1 := ih.row true [] r.tail ns
    cases ht : rowN O n true [] r.tail ns with
    | bad q => exact trivial
    | ok l q ms =>
     rw [ht] at h1
     have h2 := szT_comp s l
     refine fit_want ?_
     simp only [PR.fit, szR, szL, List.length_nil] at h1
     simp only [szO]
     omega
   ·simp only [PR.fit, szO, atomT, szT, szL]
    omega
  ·have h1 := ih.term 999 r ns
   simp only [rowN]
   cases ht : termN O n 999 r ns with
   | bad q => exact trivial
   | ok u q ms =>
    rw [ht] at h1
    simp only [PR.fit] at h1
    simp only
    split
    ·next hp =>
     split
     ·exact trivial
     ·have h2 := ih.row lim (acc ++ [u]) q.tail ms
      have h3 := pu_len hp
      cases hw : rowN O n lim (acc ++ [u]) q.tail ms with
      | bad q2 => exact trivial
      | ok l q2 m2 =>
       rw [hw] at h2
       simp only [PR.fit, szR_app] at h2 ⊢
       omega
    ·simp only [PR.fit, szR_app]
     omega
  ·simp only [signN]
   split
   ·exact ih.named s r ns
   ·split
    ·simp only [PR.fit, szO, intT, szT, szL]
     have := List.length_tail (l := r)
     omega
    ·cases O.fp s with
     | none =>
      simp only [PR.fit, szO, atomT, szT, szL]
      omega
     | some o =>
      simp only
      split
      ·have h1 := ih.term (rightI o.p o.t) r ns
       cases ht : termN O n (rightI o.p o.t) r ns with
       | bad q => exact trivial
       | ok u q ms =>
        rw [ht] at h1
        have h2 := szT_comp s [u]
        simp only [PR.fit, szO, szL] at h1 h2 ⊢
        omega
      ·simp only [PR.fit, szO, atomT, szT, szL]
       omega
theorem szT_read {O : Ops} {n : Nat} {most : Int} {r q : List TokV} {ns ms : List ByteArray} {t : Tm} (h : termN O n most r ns = .ok t q ms) : szT t ≤ r.length := by
 have h1 := (fit_all O n).term most r ns
 rw [h] at h1
 simp only [PR.fit] at h1
 omega
end Go.El

/- Layer 10, plain: the tokens of a clause are tokens. -/
namespace Go.El
theorem punct_in (c : UInt8) (h : isPunct c = true) : ([[40], [41], [91], [93], [123], [125], [44], [124]] : List (List UInt8)).contains [c] = true := by
 unfold isPunct at h
 simp at h ⊢
 rcases h with ((((((h | h) | h) | h) | h) | h) | h) | h <;> simp [h]
theorem oneS_tok {B : List UInt8} {i : Nat} {c : UInt8} {kd : Int} {s : List UInt8} {n : Int} {e : Nat} (h : oneS B i c = .ok (kd, s, n, e)) {a : Int} (ha : 0 ≤ a ∧ a ≤ 100000) (l : Bool) : tokOk ⟨kd, ⟨s.toArray⟩, n, a, l⟩ = true := by
 have key : ∀ {k : Int} {u : List UInt8} {j : Nat}, nameS k u j = .ok (kd, s, n, e) → (k = 1 ∨ k = 2 ∨ k = 3 ∨ k = 6 ∨ (k = 5 ∧ ([[40], [41], [91], [93], [123], [125], [44], [124]] : List (List UInt8)).contains u = true)) → tokOk ⟨kd, ⟨s.toArray⟩, n, a, l⟩ = true := fun hn hk => by
  obtain ⟨h1, h2⟩ := nameS_eq hn
  injection h1 with h3 h4
  injection h4 with h5 h6
  injection h6 with h7 h8
  subst h3 h5 h7
  have hsz : (⟨s.toArray⟩ : ByteArray).size ≤ 64 := by
   show s.toArray.size ≤ 64
   simpa using h2
  rcases hk with rfl | rfl | rfl | rfl | ⟨rfl, hc⟩
  all_goals simp [tokOk, ha, hsz]
  simpa using hc
 unfold oneS at h
 split at h
 ·exact key h (by simp)
 ·split at h
  ·exact key h (by simp)
  ·split at h
   ·exact key h (by simp)
   ·split at h
    ·exact key h (by simp)
    ·split at h
     ·split at h
      ·next hb =>
       injection h with h
       injection h with h3 h4
       injection h4 with h5 h6
       injection h6 with h7 h8
       subst h3 h5 h7
       have : (⟨([] : List UInt8).toArray⟩ : ByteArray).size ≤ 64 := by decide
       simp [tokOk, ha, this]
       omega
      ·cases h
     ·split at h
      ·exact key h (by simp)
      ·split at h
       ·next hp => exact key h (.inr (.inr (.inr (.inr ⟨rfl, punct_in c hp⟩))))
       ·split at h
        ·cases hq : quoS B (i + 1) [] with
         | none => rw [hq] at h; cases h
         | some p =>
          obtain ⟨u, j⟩ := p
          rw [hq] at h
          exact key h (by simp)
        ·cases h
theorem scan_tokOk {B : List UInt8} {i : Nat} (hi : i ≤ B.length) (hB : B.length ≤ 65536) {t : TokV} {e : Nat} (h : scanS B i = (t, e, 0)) : tokOk t = true ∧ i < e ∧ e ≤ B.length := by
 have hst := scanS_step (B := B) (i := i) (by rw [h])
 rw [h] at hst
 refine ⟨?_, hst⟩
 have hsk := skipTo_le hi
 unfold scanS at h
 cases hs : skipTo B i with
 | mk k ok =>
  rw [hs] at h hsk
  cases ok with
  | false => simp at h
  | true =>
   simp only at h hsk
   cases hc : B[k]? with
   | none => rw [hc] at h; simp at h
   | some c =>
    rw [hc] at h
    simp only at h
    cases ho : oneS B k c with
    | error x =>
     rw [ho] at h
     simp only at h
     injection h with _ h2
     injection h2 with _ h3
     have := oneS_err ho
     omega
    | ok p =>
     obtain ⟨kd, s, n, j⟩ := p
     rw [ho] at h
     simp only at h
     injection h with h1 _
     rw [← h1]
     exact oneS_tok ho ⟨by omega, by omega⟩ _
theorem ctoksN_ok : ∀ (n : Nat) {B : List UInt8} {i : Nat} {acc l : List TokV} {e : Nat}, ctoksN n B i acc = .ok (l, e) → (∀ t ∈ acc, tokOk t = true) → acc.length ≤ i → i ≤ B.length → B.length ≤ 65536 → ToksOk l ∧ e ≤ B.length ∧ i < e
 | 0, _, _, _, _, _, h, _, _, _, _ => by cases h
 | n + 1, B, i, acc, l, e, h, ha, hl, hi, hB => by
  simp only [ctoksN] at h
  cases hs : scanS B i with
  | mk t r =>
   obtain ⟨j, x⟩ := r
   rw [hs] at h
   simp only at h
   split at h
   ·cases h
   ·split at h
    ·cases h
    ·next hx =>
     have hx0 : x = 0 := Decidable.byContradiction fun hne => hx hne
     subst hx0
     obtain ⟨ht, h1, h2⟩ := scan_tokOk hi hB hs
     split at h
     ·next hk =>
      injection h with h
      injection h with h3 h4
      subst h3 h4
      refine ⟨⟨fun u hu => ?_, by simp; omega, acc, t, rfl, hk⟩, h2, h1⟩
      rcases List.mem_append.1 hu with hu | hu
      ·exact ha u hu
      ·simp at hu
       rw [hu]
       exact ht
     ·have := ctoksN_ok n h (fun u hu => by
       rcases List.mem_append.1 hu with hu | hu
       ·exact ha u hu
       ·simp at hu
        rw [hu]
        exact ht) (by simp; omega) h2 hB
      exact ⟨this.1, this.2.1, by omega⟩
theorem ctoks_ok {B : List UInt8} {i : Nat} (hi : i ≤ B.length) (hB : B.length ≤ 65536) {l : List TokV} {e : Nat} (h : ctoks B i = .ok (l, e)) : ToksOk l ∧ e ≤ B.length ∧ i < e :=
 ctoksN_ok _ h (fun t ht => by simp at ht) (Nat.zero_le _) hi hB
theorem ctoksN_more : ∀ (n m : Nat) (B : List UInt8) (i : Nat) (acc : List TokV), i ≤ B.length → B.length + 1 - i ≤ n → n ≤ m → ctoksN m B i acc = ctoksN n B i acc
 | 0, _, B, i, _, hi, h, _ => by omega
 | n + 1, 0, _, _, _, _, _, h => by omega
 | n + 1, m + 1, B, i, acc, hi, h, hm => by
  simp only [ctoksN]
  cases hs : scanS B i with
  | mk t r =>
   obtain ⟨j, x⟩ := r
   simp only
   split
   ·rfl
   ·split
    ·rfl
    ·next hx =>
     have hx0 : x = 0 := Decidable.byContradiction fun hne => hx hne
     subst hx0
     have hst := scanS_step (B := B) (i := i) (by rw [hs])
     rw [hs] at hst
     split
     ·rfl
     ·exact ctoksN_more n m B j _ hst.2 (by have := hst.1; simp only at this; omega) (by omega)
end Go.El
