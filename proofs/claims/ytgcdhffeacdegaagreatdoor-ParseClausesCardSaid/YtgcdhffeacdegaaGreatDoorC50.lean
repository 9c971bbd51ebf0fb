/- Layer 10, the reference: the state and the walk of term. -/
import Derived.Test.YtgcdhffeacdegaaGreatDoorC49
import Derived.Test.YtgcdhffeacdegaaGreatDoorC27
namespace Go.Proofs.YtgcdhffeacdegaaGreatDoor
open Go.RowKit Go.El

/-- The state of term. -/
structure RTermSt (f : RF) (w : World) (nv0 : Value) (most : Int) (r0 : List TokV) (X : PR Tm) (gB : Nat) (W : World) (p : Int) (t : Tm) (A : Option Addr) (c : Nat) (nv : Value) (q : List TokV) (ms : List ByteArray) (bad : Bool) : Prop where
  pa : RaAt f W q nv ms bad
  st : PStep f.S nv0 w nv W
  zb : Blk W w.heap.size 32 #[.int .i64 0, .int .i64 0, .string ⟨#[]⟩, .slice none 0 0]
  cz : Clr2 f.S nv W w.heap.size
  tb : Blk W gB 32 #[.int .i64 (Tm.k t), .int .i64 (Tm.n t), .string (Tm.s t), .slice A (Tm.l t).length c]
  cb : Clr2 f.S nv W gB
  ne : w.heap.size < gB
  tm : TmIn (fun k => NewT f.S nv w W k ∧ k ≠ gB ∧ k ≠ w.heap.size) W t A c
  len : q.length ≤ r0.length
  bd : bad = true → X = .bad q
  ok : bad = false → ∃ n, 5 * q.length + 1 ≤ n ∧ loopN f.O n most t p q ms = X
theorem RTermSt.ext {f : RF} {w : World} {nv0 : Value} {most : Int} {r0 : List TokV} {X : PR Tm} {gB : Nat} {W W' : World} {p : Int} {t : Tm} {A : Option Addr} {c : Nat} {nv : Value} {q : List TokV} {ms : List ByteArray} {bad : Bool} (h : RTermSt f w nv0 most r0 X gB W p t A c nv q ms bad) (x : Ext W W') : RTermSt f w nv0 most r0 X gB W' p t A c nv q ms bad :=
  ⟨h.pa.ext x, h.st.trans (PStep.ext x), h.zb.ext x, (PStep.ext x).clr h.cz, h.tb.ext x, (PStep.ext x).clr h.cb, h.ne, (h.tm.ext x).mono (fun _ hk => ⟨hk.1.step (PStep.ext x), hk.2⟩), h.len, h.bd, h.ok⟩
theorem rinfix_more {f : RF} {W : World} {q : List TokV} {nv : Value} {ms : List ByteArray} {bad : Bool} (h : RaAt f W q nv ms bad) {o : OpV} (hi : infixF f.O q = some o) : q.tail <:+ f.L ∧ q.tail ≠ [] ∧ plI f.L q.tail = plI f.L q + 1 ∧ q.tail.length + 1 = q.length := by
  obtain ⟨t, q2, e⟩ := ToksOk.ne h.suf h.nil
  have hk : t.kind ≠ 6 := by
    intro hk
    rw [e] at hi
    unfold infixF at hi
    simp only at hi
    split at hi
    · next hc =>
      rcases hc with hc | hc
      · omega
      · simp [isPu, hk] at hc
    · cases hi
  obtain ⟨u, p, e2⟩ := h.toks.more h.suf e hk
  have hq : q.tail = q2 := by rw [e]; rfl
  rw [hq]
  exact ⟨suf_tail h.suf e, by simp [e2], plI_tail h.suf e, by rw [e]; simp⟩
theorem RTermSt.tmE {f : RF} {w : World} {nv0 : Value} {most : Int} {r0 : List TokV} {X : PR Tm} {gB : Nat} {W : World} {p : Int} {t : Tm} {A : Option Addr} {c : Nat} {nv : Value} {q : List TokV} {ms : List ByteArray} {bad : Bool} (h : RTermSt f w nv0 most r0 X gB W p t A c nv q ms bad) (a b c2 d : Value) : TmIn (NewT f.S nv w (set4 W w.heap.size a b c2 d)) (set4 W w.heap.size a b c2 d) t A c :=
  TmIn.mods (mods_set4 [w.heap.size] W w.heap.size (by simp) a b c2 d) (fun _ hk => by simpa using hk.2.2) (fun _ hk => ⟨hk.1.1, clr_set4 hk.1.2 _ _ _ _ _⟩) h.tm
theorem RTermSt.next {f : RF} {w : World} {nv0 : Value} {most : Int} {r0 : List TokV} {X : PR Tm} {gB : Nat} {W8 W9 : World} {t u : Tm} {A c9A : Option Addr} {c c9 : Nat} {nv8 : Value} {q8 : List TokV} {ms8 : List ByteArray} {b8 : Bool} {o : OpV} {m1 : Nat} {Y2 : PR Tm}
    (hk : loopM f.O m1 most t o Y2 = X) (h8 : RaAt f W8 q8 nv8 ms8 b8) (s8 : PStep f.S nv0 w nv8 W8) (z8 : Blk W8 w.heap.size 32 #[.int .i64 0, .int .i64 0, .string ⟨#[]⟩, .slice none 0 0]) (cz8 : Clr2 f.S nv8 W8 w.heap.size) (tb8 : Blk W8 gB 32 #[.int .i64 (Tm.k t), .int .i64 (Tm.n t), .string (Tm.s t), .slice A (Tm.l t).length c]) (cb8 : Clr2 f.S nv8 W8 gB) (ne : w.heap.size < gB) (hres : resIs Y2 u q8 ms8 b8) (ho : f.old w.heap.size) (l8 : q8.length ≤ r0.length) (hf : 5 * q8.length + 1 ≤ m1) (x9 : Ext W8 W9)
    (t9 : TmIn (fun k => (NewT f.S nv8 w W8 k ∧ k ≠ gB ∧ k ≠ w.heap.size) ∨ (W8.heap.size ≤ k ∧ k < W9.heap.size)) W9 (.mk 4 0 o.s [t, u]) c9A c9) :
    RTermSt f w nv0 most r0 X gB (set4 W9 gB (.int .i64 4) (.int .i64 0) (.string o.s) (.slice c9A 2 c9)) o.p (.mk 4 0 o.s [t, u]) c9A c9 nv8 q8 ms8 b8 := by
  have he := loopM_end (O := f.O) (n := m1) (most := most) (t := t) (o := o) hres
  rw [hk] at he
  have px := PStep.ext (S := f.S) (nv := nv8) x9
  refine ⟨(h8.ext x9).set4 ho (Nat.le_of_lt ne) (tb8.ext x9) _ _ _ _, pstep_set4 (s8.trans px) (Nat.le_of_lt ne) _ _ _ _, blk_set4_far (z8.ext x9) (Nat.ne_of_lt ne) _ _ _ _, clr_set4 (px.clr cz8) _ _ _ _ _, blk_s4 (tb8.ext x9) _ _ _ _, clr_set4 (px.clr cb8) _ _ _ _ _, ne, ?_, l8, he.1, fun hb => ⟨m1, hf, he.2 hb⟩⟩
  have hb := tb8.lt
  refine TmIn.mods (mods_set4 [gB] W9 gB (by simp) _ _ _ _) (fun k hk => ?_) (fun k hk => ?_) t9
  · rcases hk with hk | hk
    · simpa using hk.2.1
    · simp; omega
  · rcases hk with hk | hk
    · exact ⟨⟨hk.1.1, clr_set4 (px.clr hk.1.2) _ _ _ _ _⟩, hk.2⟩
    · exact ⟨⟨by omega, clr_set4 (rclr_box h8 hk.1 hk.2) _ _ _ _ _⟩, by omega, by omega⟩

set_option maxRecDepth 100000 in
set_option maxHeartbeats 16000000 in
theorem raTerm_step {f : RF} {N : Nat} (IH : RTermC f N) : RTermC f (N + 1) := by
  intro r ns nv w n most hN h hn
  obtain ⟨m, rfl⟩ : ∃ m, n = m + 1 := ⟨n - 1, by omega⟩
  rw [termN_eq]
  have hx := ext_box4 w (.cells #[.int .i64 0, .int .i64 0, .string ⟨#[]⟩, .slice none 0 0] 32)
  have HO := Lib.hid h.old
  have HT := Lib.hid (raOperand IH most hN (h.ext hx) (n := m) (by omega))
  have HZ := Lib.hid (Blk.new w 32 #[.int .i64 0, .int .i64 0, .string ⟨#[]⟩, .slice none 0 0])
  have HC := Lib.hid (rclr_box h (Nat.le_refl _) HZ.out.lt)
  have S0 := Lib.hid (PStep.ext (S := f.S) (nv := nv) hx)
  have HSZ := Lib.hid (World.size_alloc w (.cells #[.int .i64 0, .int .i64 0, .string ⟨#[]⟩, .slice none 0 0] 32))
  have HNN := Lib.hid hN
  have HM := Lib.hid hn
  have hp : f.pb < w.heap.size := h.blk.lt
  obtain ⟨Y, hY⟩ : ∃ Y, operN f.O m most r ns = Y := ⟨_, rfl⟩
  obtain ⟨X, hX⟩ : ∃ X, termM f.O m most Y = X := ⟨_, rfl⟩
  rw [hY] at HT ⊢
  rw [hX]
  have HX := Lib.hid hX
  clear h hx hN hn hY hX
  go_enter Tryz.func45, Tryz.ntmps45
  go_upto_region 1 with fail
  generalize w.alloc (.cells #[.int .i64 0, .int .i64 0, .string ⟨#[]⟩, .slice none 0 0] 32) = W0 at *
  go_upto_region 2 with (go_at_call 72; refine HT.out.mono ?_; rintro e W1 ⟨t, p, A, c, nv1, q1, ms1, b1, rfl, hres, h1, s1, ht1, hl1⟩; have HRES := Lib.hid hres; have H1 := Lib.hid h1; have S1 := Lib.hid s1; have T1 := Lib.hid ht1; have L1 := Lib.hid hl1; clear hres h1 s1 ht1 hl1)
  have hx1 := ext_box4 W1 (.cells #[.int .i64 (Tm.k t), .int .i64 (Tm.n t), .string (Tm.s t), .slice A (Tm.l t).length c] 32)
  have HR0 : Hid (RTermSt f w nv most r X W1.heap.size (W1.alloc (.cells #[.int .i64 (Tm.k t), .int .i64 (Tm.n t), .string (Tm.s t), .slice A (Tm.l t).length c] 32)) p t A c nv1 q1 ms1 b1) := Lib.hid (by
    have s2 := S1.out.trans (PStep.ext hx1)
    have hz2 := (HZ.out.mods S1.out.mods HC.out.no).ext hx1
    have hb := Blk.new W1 32 #[.int .i64 (Tm.k t), .int .i64 (Tm.n t), .string (Tm.s t), .slice A (Tm.l t).length c]
    have he := oper_end (O := f.O) (n := m) (most := most) HRES.out
    rw [HX.out] at he
    have hg : w.heap.size < W1.heap.size := by have := S1.out.size; have := HSZ.out; omega
    refine ⟨H1.out.ext hx1, S0.out.trans s2, hz2, s2.clr HC.out, hb, rclr_box H1.out (Nat.le_refl _) hb.lt, hg, (T1.out.ext hx1).mono (fun k hk => ⟨?_, ?_, ?_⟩), L1.out, he.1, fun hb => ⟨m, by have := HM.out; have := L1.out; omega, he.2 hb⟩⟩
    · exact ⟨by have := hk.1; have := HSZ.out; omega, ((PStep.ext hx1).clr hk.2)⟩
    · have := hk.2.2.2; omega
    · have := hk.1; have := HSZ.out; omega)
  have hgB : w.heap.size < W1.heap.size := HR0.out.ne
  generalize W1.alloc (.cells #[.int .i64 (Tm.k t), .int .i64 (Tm.n t), .string (Tm.s t), .slice A (Tm.l t).length c] 32) = W3 at *
  generalize W1.heap.size = gB at *
  clear H1 S1 T1 HRES HX HM L1 HZ HC S0 hx1
  go_loopg [6] q1.length (fun g v wx => ∃ p t A c nvx q ms bx, v = .int .i64 p ∧ Hid (RTermSt f w nv most r X gB wx p t A c nvx q ms bx) ∧ Hid (q.length ≤ g))
  case atStart => exact ⟨p, t, A, c, _, _, _, _, rfl, HR0, Lib.hid (Nat.le_refl _)⟩
  case round =>
    clear HR0
    obtain ⟨p, t, A, c, nvx, q, ms, bx, rfl, HR, HG⟩ := hrel
    have c5 := HR.out.pa.cells.c4
    cases bx with
    | true =>
      have HE := HR
      have kz := HE.out.zb.cell
      have fz := HE.out.zb.frozen
      have kt := HE.out.tb.cell
      have HBX := Lib.hid (HR.out.bd rfl)
      go_wp2_with fail
      have kb := blk_set4 HE.out.zb (.int .i64 (Tm.k t)) (.int .i64 (Tm.n t)) (.string (Tm.s t)) (.slice A (Tm.l t).length c)
      have kc := kb.cell
      have h7 := HE.out.pa.set4 HO.out (Nat.le_refl _) HE.out.zb (.int .i64 (Tm.k t)) (.int .i64 (Tm.n t)) (.string (Tm.s t)) (.slice A (Tm.l t).length c)
      have s7 := pstep_set4 HE.out.st (Nat.le_refl _) (.int .i64 (Tm.k t)) (.int .i64 (Tm.n t)) (.string (Tm.s t)) (.slice A (Tm.l t).length c)
      have t7 := HE.out.tmE (.int .i64 (Tm.k t)) (.int .i64 (Tm.n t)) (.string (Tm.s t)) (.slice A (Tm.l t).length c)
      refine bodyPost_ret (v := .agg #[.int .i64 (Tm.k t), .int .i64 (Tm.n t), .string (Tm.s t), .slice A (Tm.l t).length c]) ?_ rfl ⟨t, A, c, nvx, q, ms, true, rfl, by rw [HBX.out]; exact ⟨rfl, rfl⟩, h7, s7, t7, HE.out.len⟩
      simp [results, Tryz.results45, go_sem, kc]
    | false =>
      have HI := Lib.hid (rinfix_any HR.out.pa)
      have HXX := fun h => HR.out.ok h
      obtain ⟨m2, hm2, hk2⟩ := HR.out.ok rfl
      obtain ⟨m1, rfl⟩ : ∃ m1, m2 = m1 + 1 := ⟨m2 - 1, by omega⟩
      have HM2 := Lib.hid hm2
      have HK2 := Lib.hid hk2
      clear hm2 hk2 HXX
      obtain ⟨io, hio⟩ : ∃ io, infixF f.O q = io := ⟨_, rfl⟩
      rw [hio] at HI
      have HIO := Lib.hid hio
      clear hio
      cases io with
      | none =>
        have HXO := Lib.hid (loop_none f.O m1 most t p q ms HIO.out)
        unfold opR opA at HI
        simp only [Option.getD_none, Option.isSome_none] at HI
        go_upto_region 8 with (go_at_call 73; refine HI.out.mono ?_; rintro e W4 ⟨rfl, x4⟩; have HE := Lib.hid (HR.out.ext (x4.alloc (.cells #[.int .i64 zeroO.p, .int .i64 zeroO.t, .string zeroO.s] 70))); clear x4)
        have kz := HE.out.zb.cell
        have fz := HE.out.zb.frozen
        have kt := HE.out.tb.cell
        go_wp2_with fail
        have kb := blk_set4 HE.out.zb (.int .i64 (Tm.k t)) (.int .i64 (Tm.n t)) (.string (Tm.s t)) (.slice A (Tm.l t).length c)
        have kc := kb.cell
        have h7 := HE.out.pa.set4 HO.out (Nat.le_refl _) HE.out.zb (.int .i64 (Tm.k t)) (.int .i64 (Tm.n t)) (.string (Tm.s t)) (.slice A (Tm.l t).length c)
        have s7 := pstep_set4 HE.out.st (Nat.le_refl _) (.int .i64 (Tm.k t)) (.int .i64 (Tm.n t)) (.string (Tm.s t)) (.slice A (Tm.l t).length c)
        have t7 := HE.out.tmE (.int .i64 (Tm.k t)) (.int .i64 (Tm.n t)) (.string (Tm.s t)) (.slice A (Tm.l t).length c)
        refine bodyPost_ret (v := .agg #[.int .i64 (Tm.k t), .int .i64 (Tm.n t), .string (Tm.s t), .slice A (Tm.l t).length c]) ?_ rfl ⟨t, A, c, nvx, q, ms, false, rfl, loop_end HXO.out HK2.out, h7, s7, t7, HE.out.len⟩
        simp [results, Tryz.results45, go_sem, kc]
      | some o =>
        unfold opR opA at HI
        simp only [Option.getD_some, Option.isSome_some] at HI
        go_upto_region 4 with (go_at_call 73; refine HI.out.mono ?_; rintro e W4 ⟨rfl, x4⟩; have HE := Lib.hid ((HR.out.ext x4).ext (ext_box4 _ (.cells #[.int .i64 o.p, .int .i64 o.t, .string o.s] 70))); have B7 := Lib.hid (Blk.new W4 70 #[.int .i64 o.p, .int .i64 o.t, .string o.s]); have G7 : Hid (gB < W4.heap.size) := Lib.hid (HR.out.ext x4).tb.lt; have D7 := Lib.hid (rclr_box (HR.out.ext x4).pa (Nat.le_refl _) B7.out.lt); clear x4)
        generalize W4.alloc (.cells #[.int .i64 o.p, .int .i64 o.t, .string o.s] 70) = W5 at *
        generalize W4.heap.size = g7 at *
        clear c5
        have kz := HE.out.zb.cell
        have fz := HE.out.zb.frozen
        have kt := HE.out.tb.cell
        have k7 := B7.out.cell
        have HLE := Lib.hid (rLeft_any o.p o.t o.s W5)
        by_cases hc1 : most < o.p
        · have HXO := Lib.hid (loop_stop f.O m1 most t p q ms HIO.out (.inl hc1))
          go_wp2_with fail
          have kb := blk_set4 HE.out.zb (.int .i64 (Tm.k t)) (.int .i64 (Tm.n t)) (.string (Tm.s t)) (.slice A (Tm.l t).length c)
          have kc := kb.cell
          have h7 := HE.out.pa.set4 HO.out (Nat.le_refl _) HE.out.zb (.int .i64 (Tm.k t)) (.int .i64 (Tm.n t)) (.string (Tm.s t)) (.slice A (Tm.l t).length c)
          have s7 := pstep_set4 HE.out.st (Nat.le_refl _) (.int .i64 (Tm.k t)) (.int .i64 (Tm.n t)) (.string (Tm.s t)) (.slice A (Tm.l t).length c)
          have t7 := HE.out.tmE (.int .i64 (Tm.k t)) (.int .i64 (Tm.n t)) (.string (Tm.s t)) (.slice A (Tm.l t).length c)
          refine bodyPost_ret (v := .agg #[.int .i64 (Tm.k t), .int .i64 (Tm.n t), .string (Tm.s t), .slice A (Tm.l t).length c]) ?_ rfl ⟨t, A, c, nvx, q, ms, false, rfl, loop_end HXO.out HK2.out, h7, s7, t7, HE.out.len⟩
          simp [results, Tryz.results45, go_sem, kc]
        · have hc1b : o.p ≤ most := by omega
          by_cases hc2 : leftI o.p o.t < p
          · have HXO := Lib.hid (loop_stop f.O m1 most t p q ms HIO.out (.inr hc2))
            go_upto_region 8 with (go_at_call 74; refine HLE.out.mono ?_; rintro e W6 ⟨rfl, x6⟩; have HE6 := Lib.hid (HE.out.ext x6); clear x6)
            have HE := HE6
            clear kz fz kt k7
            have kz := HE.out.zb.cell
            have fz := HE.out.zb.frozen
            have kt := HE.out.tb.cell
            go_wp2_with fail
            have kb := blk_set4 HE.out.zb (.int .i64 (Tm.k t)) (.int .i64 (Tm.n t)) (.string (Tm.s t)) (.slice A (Tm.l t).length c)
            have kc := kb.cell
            have h7 := HE.out.pa.set4 HO.out (Nat.le_refl _) HE.out.zb (.int .i64 (Tm.k t)) (.int .i64 (Tm.n t)) (.string (Tm.s t)) (.slice A (Tm.l t).length c)
            have s7 := pstep_set4 HE.out.st (Nat.le_refl _) (.int .i64 (Tm.k t)) (.int .i64 (Tm.n t)) (.string (Tm.s t)) (.slice A (Tm.l t).length c)
            have t7 := HE.out.tmE (.int .i64 (Tm.k t)) (.int .i64 (Tm.n t)) (.string (Tm.s t)) (.slice A (Tm.l t).length c)
            refine bodyPost_ret (v := .agg #[.int .i64 (Tm.k t), .int .i64 (Tm.n t), .string (Tm.s t), .slice A (Tm.l t).length c]) ?_ rfl ⟨t, A, c, nvx, q, ms, false, rfl, loop_end HXO.out HK2.out, h7, s7, t7, HE.out.len⟩
            simp [results, Tryz.results45, go_sem, kc]
          · have hc2b : p ≤ leftI o.p o.t := by omega
            have HXO := Lib.hid (loop_go f.O m1 most t p q ms HIO.out (by omega))
            obtain ⟨t1, t2, t3, t4⟩ := rinfix_more HR.out.pa HIO.out
            have HTL := Lib.hid t4
            have hkL := plI_lt HR.out.pa.suf HR.out.pa.nil
            have hLL := HR.out.pa.toks.len
            have HT3 := Lib.hid t3
            have HL : Hid (ms.length + q.tail.length ≤ f.L.length) := Lib.hid (by have := HR.out.pa.nl; omega)
            clear t3 t4
            go_upto_region 5 with (go_at_call 74; refine HLE.out.mono ?_; rintro e W6 ⟨rfl, x6⟩; have HE6 := Lib.hid (HE.out.ext x6); have B76 := Lib.hid (B7.out.ext x6); have D76 := Lib.hid ((PStep.ext (S := f.S) (nv := nvx) x6).clr D7.out); clear x6)
            clear kz fz kt k7 HE B7 D7
            have s1 := HE6.out.pa.setI t1 t2 HL.out ((plI f.L q : Int) + 1) (by rw [HT3.out]; omega)
            have c1 := HE6.out.pa.cells.c1
            have f1 := HE6.out.pa.blk.frozen 1
            have hgp : gB ≠ f.pb := by omega
            have hg7 : g7 ≠ f.pb := by have := G7.out; omega
            have H7 := Lib.hid s1.1
            have S7 := Lib.hid (HE6.out.st.trans s1.2)
            have Z7 : Hid (Blk (W6.setCell ⟨f.pb, 1, none⟩ (.int .i64 ((plI f.L q : Int) + 1))) w.heap.size 32 #[.int .i64 0, .int .i64 0, .string ⟨#[]⟩, .slice none 0 0]) := Lib.hid (HE6.out.zb.far (p := ⟨f.pb, 1, none⟩) (by simp; omega) _)
            have TB7 : Hid (Blk (W6.setCell ⟨f.pb, 1, none⟩ (.int .i64 ((plI f.L q : Int) + 1))) gB 32 #[.int .i64 (Tm.k t), .int .i64 (Tm.n t), .string (Tm.s t), .slice A (Tm.l t).length c]) := Lib.hid (HE6.out.tb.far (p := ⟨f.pb, 1, none⟩) (by simpa using hgp) _)
            have B77 : Hid (Blk (W6.setCell ⟨f.pb, 1, none⟩ (.int .i64 ((plI f.L q : Int) + 1))) g7 70 #[.int .i64 o.p, .int .i64 o.t, .string o.s]) := Lib.hid (B76.out.far (p := ⟨f.pb, 1, none⟩) (by simpa using hg7) _)
            have CZ7 := Lib.hid (s1.2.clr HE6.out.cz)
            have CB7 := Lib.hid (s1.2.clr HE6.out.cb)
            have D77 := Lib.hid (s1.2.clr D76.out)
            have T7 := Lib.hid (TmIn.mods (D' := fun k => NewT f.S nvx w (W6.setCell ⟨f.pb, 1, none⟩ (.int .i64 ((plI f.L q : Int) + 1))) k ∧ k ≠ gB ∧ k ≠ w.heap.size) s1.2.mods (fun _ hk => hk.1.2.no) (fun _ hk => ⟨hk.1.step s1.2, hk.2⟩) HE6.out.tm)
            generalize plI f.L q = k at *
            clear s1
            go_upto_region 6 with fail
            generalize W6.setCell ⟨f.pb, 1, none⟩ (.int .i64 ((k : Int) + 1)) = W7 at *
            clear c1 f1 HE6 B76 D76
            obtain ⟨Y2, hY2⟩ : ∃ Y2, termN f.O m1 (rightI o.p o.t) q.tail ms = Y2 := ⟨_, rfl⟩
            have HY2 := Lib.hid hY2
            rw [hY2] at HXO
            clear hY2
            have HRT := Lib.hid (rRight_any o.p o.t o.s W7)
            have HTT := fun V (x : Ext W7 V) => Lib.hid (show Calls Tryz.prog 45 #[.pointer (some ⟨f.pb, 0, none⟩), .int .i64 (rightI o.p o.t)] V (RTPost f V nvx q.tail Y2) from by
              have := IH q.tail ms nvx V m1 (rightI o.p o.t) (by have := HR.out.len; have := HNN.out; have := HTL.out; omega) (H7.out.ext x) (by have := HM2.out; have := HTL.out; omega)
              rw [HY2.out] at this
              exact this)
            have m7 := B77.out.cell
            go_upto_region 7 with (first
              | (go_at_call 75; refine HRT.out.mono ?_; rintro e V1 ⟨rfl, x1⟩; have X1 := Lib.hid x1; clear x1)
              | (go_at_call 45; refine (HTT _ X1.out).out.mono ?_; rintro e W8 ⟨u, Au, cu, nv8, q8, ms8, b8, rfl, hres, h8, s8, hu8, hl8⟩; have HRES := Lib.hid hres; have H8 := Lib.hid h8; have PX := Lib.hid ((PStep.ext (S := f.S) (nv := nvx) X1.out).trans s8); have L8 := Lib.hid hl8; have U8 := Lib.hid hu8; clear hres h8 s8 hu8 hl8))
            have hx9 := ext_box4 W8 (.cells #[.int .i64 (Tm.k u), .int .i64 (Tm.n u), .string (Tm.s u), .slice Au (Tm.l u).length cu] 32)
            have H9 := Lib.hid (H8.out.ext hx9)
            have P9 := Lib.hid (PX.out.trans (PStep.ext hx9))
            have TB9 := Lib.hid ((TB7.out.mods PX.out.mods CB7.out.no).ext hx9)
            have B79 := Lib.hid ((B77.out.mods PX.out.mods D77.out.no).ext hx9)
            have B99 := Lib.hid (Blk.new W8 32 #[.int .i64 (Tm.k u), .int .i64 (Tm.n u), .string (Tm.s u), .slice Au (Tm.l u).length cu])
            have hgB8 : gB < W8.heap.size := Nat.lt_of_lt_of_le TB7.out.lt PX.out.size
            have hg78 : g7 < W8.heap.size := Nat.lt_of_lt_of_le B77.out.lt PX.out.size
            have T9 : Hid (TmIn (fun k => NewT f.S nv8 w (W8.alloc (.cells #[.int .i64 (Tm.k u), .int .i64 (Tm.n u), .string (Tm.s u), .slice Au (Tm.l u).length cu] 32)) k ∧ k ≠ gB ∧ k ≠ w.heap.size) (W8.alloc (.cells #[.int .i64 (Tm.k u), .int .i64 (Tm.n u), .string (Tm.s u), .slice Au (Tm.l u).length cu] 32)) t A c) := Lib.hid (TmIn.mods P9.out.mods (fun _ hk => hk.1.2.no) (fun _ hk => ⟨hk.1.step P9.out, hk.2⟩) T7.out)
            have U9 : Hid (TmIn (fun k => NewT f.S nv8 w (W8.alloc (.cells #[.int .i64 (Tm.k u), .int .i64 (Tm.n u), .string (Tm.s u), .slice Au (Tm.l u).length cu] 32)) k ∧ k ≠ gB ∧ k ≠ w.heap.size) (W8.alloc (.cells #[.int .i64 (Tm.k u), .int .i64 (Tm.n u), .string (Tm.s u), .slice Au (Tm.l u).length cu] 32)) u Au cu) := Lib.hid ((U8.out.ext hx9).mono (fun k hk => by have h1 := hk.1; have h2 := X1.out.size; have h3 := TB7.out.lt; exact ⟨⟨by omega, ((PStep.ext hx9).clr hk.2)⟩, by omega, by omega⟩))
            clear H8 U8 hx9
            generalize W8.alloc (.cells #[.int .i64 (Tm.k u), .int .i64 (Tm.n u), .string (Tm.s u), .slice Au (Tm.l u).length cu] 32) = W9 at *
            generalize W8.heap.size = g9 at *
            have n7 := B79.out.cell
            have nt := TB9.out.cell
            have n9 := B99.out.cell
            have hn1 : ¬ g7 = gB := by have := G7.out; omega
            have hn2 : ¬ gB = g7 := by have := G7.out; omega
            have hn3 : ¬ g9 = gB := by omega
            have hn4 : ¬ gB = g9 := by omega
            have hl7 := B79.out.lt
            have hlB := TB9.out.lt
            have hl9 := B99.out.lt
            have HCM := fun V (x : Ext W9 V) => Lib.hid (refComp_any o.s [(t, A, c), (u, Au, cu)] (some ⟨V.heap.size, 0, none⟩) 2 (V.alloc (.cells #[.int .i64 (Tm.k t), .int .i64 (Tm.n t), .string (Tm.s t), .slice A (Tm.l t).length c, .int .i64 (Tm.k u), .int .i64 (Tm.n u), .string (Tm.s u), .slice Au (Tm.l u).length cu] 32)) (fun k => NewT f.S nv8 w W9 k ∧ k ≠ gB ∧ k ≠ w.heap.size) (El.Src.new V #[.int .i64 (Tm.k t), .int .i64 (Tm.n t), .string (Tm.s t), .slice A (Tm.l t).length c, .int .i64 (Tm.k u), .int .i64 (Tm.n u), .string (Tm.s u), .slice Au (Tm.l u).length cu] 32 2 4 rfl) (fun e he => by simp only [List.mem_cons, List.not_mem_nil, or_false] at he; rcases he with rfl | rfl; exact T9.out.ext (x.alloc _); exact U9.out.ext (x.alloc _)) (by simp) (by simp) (fun k hk => Nat.lt_of_lt_of_le hk.1.2.2.2 (x.alloc _).size))
            simp only [List.length_cons, List.length_nil, Nat.reduceAdd] at HCM
            clear m7
            go_region_law ((go_simp; go_at_call 33; refine (HCM _ (Ext.refl _).drew).out.mono ?_; rintro e WA ⟨A9, c9, rfl, ht9, hx9⟩; have TA := Lib.hid ht9; have XA := Lib.hid (((Ext.refl _).drew.alloc (.cells #[.int .i64 (Tm.k t), .int .i64 (Tm.n t), .string (Tm.s t), .slice A (Tm.l t).length c, .int .i64 (Tm.k u), .int .i64 (Tm.n u), .string (Tm.s u), .slice Au (Tm.l u).length cu] 32)).trans hx9); have zc := (TB9.out.ext XA.out).cell; have zf := (TB9.out.ext XA.out).frozen; have w7 := (B79.out.ext XA.out).cell; clear ht9 hx9))
            all_goals
              go_wp2_with fail
              go_roundg (q.length - 1)
              case measure => have := HG.out; have := HTL.out; omega
              case rel =>
                exact ⟨o.p, .mk 4 0 o.s [t, u], A9, c9, nv8, q8, ms8, b8, rfl, Lib.hid (RTermSt.next (HXO.out.symm.trans HK2.out) H9.out (S7.out.trans P9.out) (Z7.out.mods P9.out.mods CZ7.out.no) (P9.out.clr CZ7.out) TB9.out (P9.out.clr CB7.out) hgB HRES.out HO.out (by have := L8.out; have := HTL.out; have := HR.out.len; omega) (by have := L8.out; have := HTL.out; have := HM2.out; omega) XA.out (TA.out.mono (fun k hk => by rcases hk with hk | ⟨h1, h2⟩; exact .inl hk; simp at h1; exact .inr ⟨by omega, h2⟩))), Lib.hid (by have := L8.out; have := HTL.out; omega)⟩

/-- Whatever is left: the reference's term does as the plain parser does. -/
theorem raTerm {f : RF} : ∀ N, RTermC f N
  | 0 => fun _ _ _ _ _ _ hN h _ => absurd (List.eq_nil_of_length_eq_zero (Nat.le_zero.1 hN)) h.nil
  | N + 1 => raTerm_step (raTerm N)
end Go.Proofs.YtgcdhffeacdegaaGreatDoor
