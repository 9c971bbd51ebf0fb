/- Layer 10, the reference: the walk of named. -/
import Derived.Test.YtgcdhffeacdegaaGreatDoorC41
import Derived.Test.YtgcdhffeacdegaaGreatDoorC23
namespace Go.Proofs.YtgcdhffeacdegaaGreatDoor
open Go.RowKit Go.El

/-- What a call that reads an operand leaves. -/
def ROPost (f : RF) (w : World) (nv : Value) (r0 : List TokV) (x : PR (Tm × Int)) (e : Ending) (w' : World) : Prop :=
  ∃ t p A c nv' r ns bad, e = .returned (.tuple #[.agg #[.int .i64 (Tm.k t), .int .i64 (Tm.n t), .string (Tm.s t), .slice A (Tm.l t).length c], .int .i64 p]) ∧ resIs x (t, p) r ns bad ∧ RaAt f w' r nv' ns bad ∧ PStep f.S nv w nv' w' ∧ TmIn (NewT f.S nv' w w') w' t A c ∧ r.length ≤ r0.length

set_option maxRecDepth 100000 in
set_option maxHeartbeats 4000000 in
theorem raNamed_opens {f : RF} {N : Nat} (IH : RTermC f N) (s : ByteArray) (sign : Bool) (most : Int) {r : List TokV} {w : World} {nv : Value} {ns : List ByteArray} (hN : r.tail.length ≤ N) (h : RaAt f w r nv ns false) {m : Nat} (hm : 5 * r.tail.length + 6 ≤ m) (ho : opensB r = true) :
    Calls Tryz.prog 111 #[.pointer (some ⟨f.pb, 0, none⟩), .string s, .bool sign, .int .i64 most] w (ROPost f w nv r (wantM 41 (fun l => (compT s l, (0 : Int))) (rowN f.O m true [] r.tail ns))) := by
  have HO := Lib.hid h.old
  have hx := ext_box4 w (.cells #[.int .i64 0, .int .i64 0, .string ⟨#[]⟩, .slice none 0 0] 32)
  have HX := Lib.hid hx
  have HZ := Lib.hid (Blk.new w 32 #[.int .i64 0, .int .i64 0, .string ⟨#[]⟩, .slice none 0 0])
  have H := Lib.hid (h.ext hx)
  have HSZ := Lib.hid (World.size_alloc w (.cells #[.int .i64 0, .int .i64 0, .string ⟨#[]⟩, .slice none 0 0] 32))
  have hp : f.pb < w.heap.size := h.blk.lt
  obtain ⟨t0, q, e⟩ := ToksOk.ne h.suf h.nil
  have HOP := Lib.hid (raOpens (h.ext hx) 0 (by omega) (t := t0) (by rw [e]; rfl))
  rw [List.drop_zero, ho] at HOP
  have hpu : isPs r ⟨#[40]⟩ = true := by
    rw [isPs_lit]
    unfold opensB at ho
    rw [Bool.and_eq_true] at ho
    exact ho.1
  obtain ⟨Y, hY⟩ : ∃ Y, rowN f.O m true [] r.tail ns = Y := ⟨_, rfl⟩
  have HAR := fun W (x : Ext (w.alloc (.cells #[.int .i64 0, .int .i64 0, .string ⟨#[]⟩, .slice none 0 0] 32)) W) => Lib.hid (raArgs IH hN ((h.ext hx).ext x) hpu hm)
  rw [hY] at HAR ⊢
  have CZ := Lib.hid (rclr_box h (Nat.le_refl _) HZ.out.lt)
  clear h hx ho hm hN hpu hY e
  go_enter Tryz.func111, Tryz.ntmps111
  go_upto_region 2 with (go_at_call 148; refine HOP.out.mono ?_; rintro e W1 ⟨rfl, x1⟩; have X1 := Lib.hid x1; clear x1)
  have H1 := Lib.hid (H.out.ext X1.out)
  have Z1 := Lib.hid (HZ.out.ext X1.out)
  have C1 := Lib.hid ((PStep.ext (S := f.S) (nv := nv) X1.out).clr CZ.out)
  have S1 := Lib.hid (PStep.ext (S := f.S) (nv := nv) (HX.out.trans X1.out))
  have G1 : Hid (w.heap.size < W1.heap.size) := Lib.hid Z1.out.lt
  have HAR1 := HAR _ X1.out
  clear H HZ CZ HAR HOP
  go_wp2_with (first | (go_at_call 149; refine HAR1.out.mono ?_; rintro e W3 ⟨v3, M, nv3, r3, ns3, b3, rfl, hres, h3, s3, hr3, hne, hml, hl3⟩; obtain ⟨A3, c3, rfl⟩ := own_value hr3.own; have HRES := Lib.hid hres; have H3 := Lib.hid h3; have S3 := Lib.hid s3; have HNE := Lib.hid hne; have HL3 := Lib.hid hl3; have Z3 := Lib.hid (Z1.out.mods s3.mods C1.out.no); have HCM := Lib.hid (refComp_any s M A3 c3 W3 (NewT f.S nv3 W1 W3) (Src.of_own hr3.own) (fun p hp => (hr3.kid p hp).mono (fun _ hk => hk.1)) hne hml (fun k hk => hk.2.2.2)); clear hres h3 s3 hr3 hne hml hl3) | (go_at_call 33; refine HCM.out.mono ?_; rintro e W5 ⟨A5, c5, rfl, ht5, hx5⟩; have T5 := Lib.hid ht5; have X5 := Lib.hid hx5; have Z5 := Lib.hid (Z3.out.ext hx5); have zc := (Z3.out.ext hx5).cell; have zf := (Z3.out.ext hx5).frozen; clear ht5 hx5))
  have kb := blk_set4 Z5.out (.int .i64 4) (.int .i64 0) (.string s) (.slice A5 M.length c5)
  have kc := kb.cell
  have h7 := (H3.out.ext X5.out).set4 HO.out (Nat.le_refl _) Z5.out (.int .i64 4) (.int .i64 0) (.string s) (.slice A5 M.length c5)
  have s7 := pstep_set4 (S1.out.trans (S3.out.trans (PStep.ext X5.out))) (Nat.le_refl _) (.int .i64 4) (.int .i64 0) (.string s) (.slice A5 M.length c5)
  have hnew : TmIn (NewT f.S nv3 W1 W5) W5 (.mk 4 0 s (M.map (·.1))) A5 c5 := T5.out.mono (fun k hk => by
    rcases hk with hk | ⟨h1, h2⟩
    · exact hk.step (PStep.ext X5.out)
    · exact ⟨Nat.le_trans S3.out.size h1, rclr_box H3.out h1 h2⟩)
  have t7 := tmN_wide (w := w) (tmN_set4 hnew (z := w.heap.size) G1.out (.int .i64 4) (.int .i64 0) (.string s) (.slice A5 M.length c5)) (Nat.le_of_lt G1.out)
  have hcomp : compT s (M.map (·.1)) = .mk 4 0 s (M.map (·.1)) := if_neg (by have := HNE.out; simpa using this)
  have hres := want_map (g := fun l => (compT s l, (0 : Int))) HRES.out
  refine bodyPost_ret (v := .tuple #[.agg #[.int .i64 4, .int .i64 0, .string s, .slice A5 M.length c5], .int .i64 0]) ?_ rfl ⟨.mk 4 0 s (M.map (fun (p : TmP) => p.1)), 0, A5, c5, nv3, _, _, _, by simp [Tm.k, Tm.n, Tm.s, Tm.l], ?_, h7, s7, t7, HL3.out⟩
  · simp [results, Tryz.results111, go_sem, kc]
  · rw [← hcomp]
    exact hres

set_option maxRecDepth 100000 in
set_option maxHeartbeats 4000000 in
theorem raNamed_atom {f : RF} (s : ByteArray) (sign : Bool) (most : Int) {r : List TokV} {w : World} {nv : Value} {ns : List ByteArray} (h : RaAt f w r nv ns false) (hsg : sign = false) (ho : opensB r = false) :
    Calls Tryz.prog 111 #[.pointer (some ⟨f.pb, 0, none⟩), .string s, .bool sign, .int .i64 most] w (ROPost f w nv r (.ok (atomT s, 0) r ns)) := by
  have HO := Lib.hid h.old
  have hx := ext_box4 w (.cells #[.int .i64 0, .int .i64 0, .string ⟨#[]⟩, .slice none 0 0] 32)
  have HX := Lib.hid hx
  have HZ := Lib.hid (Blk.new w 32 #[.int .i64 0, .int .i64 0, .string ⟨#[]⟩, .slice none 0 0])
  have H := Lib.hid (h.ext hx)
  have HSZ := Lib.hid (World.size_alloc w (.cells #[.int .i64 0, .int .i64 0, .string ⟨#[]⟩, .slice none 0 0] 32))
  have hp : f.pb < w.heap.size := h.blk.lt
  obtain ⟨t0, q, e⟩ := ToksOk.ne h.suf h.nil
  have HOP := Lib.hid (raOpens (h.ext hx) 0 (by omega) (t := t0) (by rw [e]; rfl))
  rw [List.drop_zero, ho] at HOP
  have HA := fun W => Lib.hid (refAtom_any s W)
  subst hsg
  clear h hx ho e
  go_enter Tryz.func111, Tryz.ntmps111
  go_wp2_with (first | (go_at_call 148; refine HOP.out.mono ?_; rintro e W1 ⟨rfl, x1⟩; have X1 := Lib.hid x1; clear x1) | (go_at_call 36; refine (HA _).out.mono ?_; rintro e W2 ⟨rfl, x2⟩; have X2 := Lib.hid (X1.out.trans x2); have Z2 := Lib.hid (HZ.out.ext X2.out); have zc := Z2.out.cell; have zf := Z2.out.frozen; clear x2))
  have kb := blk_set4 Z2.out (.int .i64 3) (.int .i64 0) (.string s) (.slice none 0 0)
  have kc := kb.cell
  have h4 := (H.out.ext X2.out).set4 HO.out (Nat.le_refl _) Z2.out (.int .i64 3) (.int .i64 0) (.string s) (.slice none 0 0)
  have s4 := pstep_set4 (PStep.ext (S := f.S) (nv := nv) (HX.out.trans X2.out)) (Nat.le_refl _) (.int .i64 3) (.int .i64 0) (.string s) (.slice none 0 0)
  refine bodyPost_ret (v := .tuple #[.agg #[.int .i64 3, .int .i64 0, .string s, .slice none 0 0], .int .i64 0]) ?_ rfl ⟨atomT s, 0, none, 0, nv, r, ns, false, rfl, ⟨rfl, rfl, rfl, rfl⟩, h4, s4, TmsIn.term (TmsIn.nil _ _ _ _) 3 0 s, Nat.le_refl _⟩
  simp [results, Tryz.results111, go_sem, kc]

set_option maxRecDepth 100000 in
set_option maxHeartbeats 4000000 in
theorem raNamed_int {f : RF} (s : ByteArray) (sign : Bool) (most : Int) {r : List TokV} {w : World} {nv : Value} {ns : List ByteArray} (h : RaAt f w r nv ns false) (hsg : sign = true) (ho : opensB r = false) {t0 : TokV} {q : List TokV} (e : r = t0 :: q) (hs : s = minB) (hk : t0.kind = 4) (hly : t0.lay = false) :
    Calls Tryz.prog 111 #[.pointer (some ⟨f.pb, 0, none⟩), .string s, .bool sign, .int .i64 most] w (ROPost f w nv r (.ok (intT (-headN r), 0) r.tail ns)) := by
  have HO := Lib.hid h.old
  have hx := ext_box4 w (.cells #[.int .i64 0, .int .i64 0, .string ⟨#[]⟩, .slice none 0 0] 32)
  have HX := Lib.hid hx
  have HZ := Lib.hid (Blk.new w 32 #[.int .i64 0, .int .i64 0, .string ⟨#[]⟩, .slice none 0 0])
  have H := Lib.hid (h.ext hx)
  have HSZ := Lib.hid (World.size_alloc w (.cells #[.int .i64 0, .int .i64 0, .string ⟨#[]⟩, .slice none 0 0] 32))
  have hp : f.pb < w.heap.size := h.blk.lt
  have HOP := Lib.hid (raOpens (h.ext hx) 0 (by omega) (t := t0) (by rw [e]; rfl))
  rw [List.drop_zero, ho] at HOP
  obtain ⟨b, off, hA, d0, d1, d2, d3, d4⟩ := ra_here (h.ext hx) e
  have hlt := plI_lt h.suf h.nil
  have hL := h.toks.len
  have c0 := (h.ext hx).cells.c0
  have c1 := (h.ext hx).cells.c1
  rw [hA] at c0
  have hbb : b < (w.alloc (.cells #[.int .i64 0, .int .i64 0, .string ⟨#[]⟩, .slice none 0 0] 32)).heap.size := cell_lt d0
  have HI := fun n W => Lib.hid (refInt_any n W)
  obtain ⟨u, p, hq⟩ := h.toks.more h.suf e (by omega)
  have hsq := suf_tail h.suf e
  have hqn : q ≠ [] := by rw [hq]; simp
  have hpl := plI_tail h.suf e
  have HT := Lib.hid hpl
  have hnr : headN r = t0.n := by rw [e]; rfl
  have htl : r.tail = q := by rw [e]; rfl
  have htlq : q.length ≤ r.length := by rw [e]; simp
  have HL : Hid (ns.length + q.length ≤ f.L.length) := Lib.hid (by have := h.nl; omega)
  have hN := h.toks.head h.suf e
  have hN2 : 0 ≤ t0.n ∧ t0.n ≤ 9007199254740991 := by
    unfold tokOk at hN
    simp only [Bool.and_eq_true, decide_eq_true_eq] at hN
    exact hN.1.2
  have e1 : (s.toList == [45]) = true := by rw [hs, ByteArray.toList_eq]; rfl
  rw [hnr, htl]
  have HA0 := Lib.hid hA
  have HG : Hid (f.L[plI f.L r]? = some t0) := Lib.hid (by have := plI_get h.suf 0; rw [Nat.add_zero] at this; rw [this, e]; rfl)
  obtain ⟨k, hkk⟩ : ∃ k, plI f.L r = k := ⟨_, rfl⟩
  have HKK := Lib.hid hkk
  rw [hkk] at c1 d0 d2 d4 hlt
  clear hkk
  rw [hk] at d0
  rw [hly] at d4
  obtain ⟨N, hNN⟩ : ∃ N, t0.n = N := ⟨_, rfl⟩
  have HNQ := Lib.hid hNN
  rw [hNN] at d2 hN2 ⊢
  have HQ := Lib.hid htlq
  subst hsg
  clear h hx ho hs hk hly hpl hnr htl htlq hq hN hNN e d1 d3 hA
  go_enter Tryz.func111, Tryz.ntmps111
  go_upto_region 5 with (go_at_call 148; refine HOP.out.mono ?_; rintro e W1 ⟨rfl, x1⟩; have X1 := Lib.hid x1; have y0 := x1.cell c0; have y1 := x1.cell c1; have z0 := x1.cell d0; have z2 := x1.cell d2; have z4 := x1.cell d4; clear x1)
  have hq1 : (k : Int) < (f.L.length : Int) := by omega
  go_region
  all_goals
    have XD : Hid (Ext (w.alloc (.cells #[.int .i64 0, .int .i64 0, .string ⟨#[]⟩, .slice none 0 0] 32)) W1.drew) := Lib.hid X1.out.drew
    have v0 : W1.drew.cell? ⟨f.pb, 0, none⟩ = _ := y0
    have v2 : W1.drew.cell? ⟨b, off + k * 5 + 2, none⟩ = _ := z2
    clear y0 y1 z0 z2 z4 c0 c1 d0 d2 d4
    generalize W1.drew = W2 at *
    have H2 := Lib.hid (H.out.ext XD.out)
    have c1 := H2.out.cells.c1
    have f1 := H2.out.blk.frozen 1
    have s1 := H2.out.setI hsq hqn HL.out ((plI f.L r : Int) + 1) (by rw [HT.out]; omega)
    have S3 := Lib.hid ((PStep.ext (S := f.S) (nv := nv) (HX.out.trans XD.out)).trans s1.2)
    have H3 := Lib.hid s1.1
    have hne : w.heap.size ≠ f.pb := by omega
    have Z3 : Hid (Blk (W2.setCell ⟨f.pb, 1, none⟩ (.int .i64 ((plI f.L r : Int) + 1))) w.heap.size 32 #[.int .i64 0, .int .i64 0, .string ⟨#[]⟩, .slice none 0 0]) := Lib.hid ((HZ.out.ext XD.out).far (p := ⟨f.pb, 1, none⟩) (by simpa using hne) _)
    have w0 : (W2.setCell ⟨f.pb, 1, none⟩ (.int .i64 ((plI f.L r : Int) + 1))).cell? ⟨f.pb, 0, none⟩ = some (.slice (some ⟨b, off, none⟩) f.L.length f.cap) := by have := H3.out.cells.c0; rw [HA0.out] at this; exact this
    have w1 : (W2.setCell ⟨f.pb, 1, none⟩ (.int .i64 ((plI f.L r : Int) + 1))).cell? ⟨f.pb, 1, none⟩ = some (.int .i64 ((plI f.L r : Int) + 1)) := by have := H3.out.cells.c1; rw [HT.out] at this; simpa using this
    have w2 : (W2.setCell ⟨f.pb, 1, none⟩ (.int .i64 ((plI f.L r : Int) + 1))).cell? ⟨b, off + plI f.L r * 5 + 2, none⟩ = some (.int .i64 N) := by
      obtain ⟨b', o', ha, _, _, e2, _⟩ := tok_cells H3.out.tok HG.out
      rw [HA0.out] at ha
      injection ha with ha
      injection ha with h1 h2
      subst h1 h2
      rw [HNQ.out] at e2
      exact e2
    rw [HKK.out] at c1 S3 H3 Z3 w0 w1 w2
    clear s1
    go_upto_region 7 with fail
    generalize W2.setCell ⟨f.pb, 1, none⟩ (.int .i64 ((k : Int) + 1)) = W3 at *
    clear c1 f1 v0 v2
    have hq2 : (k : Int) + 1 - 1 = (k : Int) := by omega
    have hq3 : IntKind.i64.wrap (k : Int) = (k : Int) := IntWalk.i64_in _ (by omega)
    have hq4 : IntKind.i64.wrap (-N) = -N := IntWalk.i64_in _ (by omega)
    go_region_law ((go_simp; go_at_call 35; refine (HI _ _).out.mono ?_; rintro e V4 ⟨rfl, hx⟩; have X4 := Lib.hid ((Ext.refl _).drew.trans hx); have Z4 := Lib.hid (Z3.out.ext X4.out); have zc := Z4.out.cell; have zf := Z4.out.frozen; clear hx))
    all_goals
      go_wp2_with fail
      have kb := blk_set4 Z4.out (.int .i64 2) (.int .i64 (-N)) (.string ⟨#[]⟩) (.slice none 0 0)
      have kc := kb.cell
      have h4 := (H3.out.ext X4.out).set4 HO.out (Nat.le_refl _) Z4.out (.int .i64 2) (.int .i64 (-N)) (.string ⟨#[]⟩) (.slice none 0 0)
      have s4 := pstep_set4 (S3.out.trans (PStep.ext X4.out)) (Nat.le_refl _) (.int .i64 2) (.int .i64 (-N)) (.string ⟨#[]⟩) (.slice none 0 0)
      refine bodyPost_ret (v := .tuple #[.agg #[.int .i64 2, .int .i64 (-N), .string ⟨#[]⟩, .slice none 0 0], .int .i64 0]) ?_ rfl ⟨intT (-N), 0, none, 0, nv, q, ns, false, rfl, ⟨rfl, rfl, rfl, rfl⟩, h4, s4, TmsIn.term (TmsIn.nil _ _ _ _) 2 (-N) ⟨#[]⟩, HQ.out⟩
      simp [results, Tryz.results111, go_sem, kc]

set_option maxRecDepth 100000 in
set_option maxHeartbeats 4000000 in
theorem raNamed_no {f : RF} (s : ByteArray) (sign : Bool) (most : Int) {r : List TokV} {w : World} {nv : Value} {ns : List ByteArray} (h : RaAt f w r nv ns false) (hsg : sign = true) (ho : opensB r = false) {t0 : TokV} {q : List TokV} (e : r = t0 :: q) (hc : ¬ (s = minB ∧ numB r = true)) {o : OpV} (hoq : (findO s f.Q).getD zeroO = o) {bq : Bool} (hbq : (findO s f.Q).isSome = bq) (hb : bq = false ∨ most < o.p) :
    Calls Tryz.prog 111 #[.pointer (some ⟨f.pb, 0, none⟩), .string s, .bool sign, .int .i64 most] w (ROPost f w nv r (.ok (atomT s, 0) r ns)) := by
  have HO := Lib.hid h.old
  have hx := ext_box4 w (.cells #[.int .i64 0, .int .i64 0, .string ⟨#[]⟩, .slice none 0 0] 32)
  have HX := Lib.hid hx
  have HZ := Lib.hid (Blk.new w 32 #[.int .i64 0, .int .i64 0, .string ⟨#[]⟩, .slice none 0 0])
  have H := Lib.hid (h.ext hx)
  have HSZ := Lib.hid (World.size_alloc w (.cells #[.int .i64 0, .int .i64 0, .string ⟨#[]⟩, .slice none 0 0] 32))
  have hp : f.pb < w.heap.size := h.blk.lt
  have HOP := Lib.hid (raOpens (h.ext hx) 0 (by omega) (t := t0) (by rw [e]; rfl))
  rw [List.drop_zero, ho] at HOP
  obtain ⟨b, off, hA, d0, d1, d2, d3, d4⟩ := ra_here (h.ext hx) e
  have hlt := plI_lt h.suf h.nil
  have hL := h.toks.len
  have c0 := (h.ext hx).cells.c0
  have c1 := (h.ext hx).cells.c1
  rw [hA] at c0
  have hbb : b < (w.alloc (.cells #[.int .i64 0, .int .i64 0, .string ⟨#[]⟩, .slice none 0 0] 32)).heap.size := cell_lt d0
  have HA := fun W => Lib.hid (refAtom_any s W)
  have hc4 := cond4 e hc
  have HFQ := fun W (x : Ext (w.alloc (.cells #[.int .i64 0, .int .i64 0, .string ⟨#[]⟩, .slice none 0 0] 32)) W) => Lib.hid (((h.ext hx).ext x).fq s)
  unfold opR opA at HFQ
  rw [hoq, hbq] at HFQ
  have c2 := (h.ext hx).cells.c2
  subst hsg
  clear h hx ho hc hoq hbq e d1 d2 d3
  generalize plI f.L r = k at *
  have hb3 : bq = false ∨ (bq = true ∧ ¬ o.p ≤ most) := by
    cases bq
    · exact .inl rfl
    · exact .inr ⟨rfl, by rcases hb with h | h; cases h; omega⟩
  have hq1 : (k : Int) < (f.L.length : Int) := by omega
  clear hb
  go_enter Tryz.func111, Tryz.ntmps111
  go_upto_region 5 with (go_at_call 148; refine HOP.out.mono ?_; rintro e W1 ⟨rfl, x1⟩; have X1 := Lib.hid x1; have y0 := x1.cell c0; have y1 := x1.cell c1; have y2 := x1.cell c2; have z0 := x1.cell d0; have z4 := x1.cell d4; clear x1)
  clear c0 c1 c2 d0 d4
  rcases hc4 with e1 | ⟨e1, e4⟩ | ⟨e1, e4, e5⟩
  · go_region
    all_goals
      have XD : Hid (Ext (w.alloc (.cells #[.int .i64 0, .int .i64 0, .string ⟨#[]⟩, .slice none 0 0] 32)) W1.drew) := Lib.hid X1.out.drew
      have v2 : W1.drew.cell? ⟨f.pb, 2, none⟩ = _ := y2
      clear y0 y1 y2 z0 z4
      generalize W1.drew = W2 at *
      have HF := HFQ _ XD.out
      clear HFQ
      go_upto_region 9 with (go_at_call 115; refine HF.out.mono ?_; rintro e W4 ⟨rfl, x4⟩; have X4 := Lib.hid ((XD.out.trans x4).alloc (.cells #[.int .i64 o.p, .int .i64 o.t, .string o.s] 70)); have BO := Lib.hid (Blk.new W4 70 #[.int .i64 o.p, .int .i64 o.t, .string o.s]); clear x4)
      generalize W4.alloc (.cells #[.int .i64 o.p, .int .i64 o.t, .string o.s] 70) = W5 at *
      generalize W4.heap.size = g10 at *
      have k10 := BO.out.cell
      clear v2 HF
      rcases hb3 with rfl | ⟨rfl, hpm⟩
      · go_wp2_with (go_at_call 36; refine (HA _).out.mono ?_; rintro e W6 ⟨rfl, x6⟩; have X6 := Lib.hid (X4.out.trans x6); have Z6 := Lib.hid (HZ.out.ext X6.out); have zc := Z6.out.cell; have zf := Z6.out.frozen; clear x6)
        have kb := blk_set4 Z6.out (.int .i64 3) (.int .i64 0) (.string s) (.slice none 0 0)
        have kc := kb.cell
        have h4 := (H.out.ext X6.out).set4 HO.out (Nat.le_refl _) Z6.out (.int .i64 3) (.int .i64 0) (.string s) (.slice none 0 0)
        have s4 := pstep_set4 (PStep.ext (S := f.S) (nv := nv) (HX.out.trans X6.out)) (Nat.le_refl _) (.int .i64 3) (.int .i64 0) (.string s) (.slice none 0 0)
        refine bodyPost_ret (v := .tuple #[.agg #[.int .i64 3, .int .i64 0, .string s, .slice none 0 0], .int .i64 0]) ?_ rfl ⟨atomT s, 0, none, 0, nv, r, ns, false, rfl, ⟨rfl, rfl, rfl, rfl⟩, h4, s4, TmsIn.term (TmsIn.nil _ _ _ _) 3 0 s, Nat.le_refl _⟩
        simp [results, Tryz.results111, go_sem, kc]
      · go_wp2_with (go_at_call 36; refine (HA _).out.mono ?_; rintro e W6 ⟨rfl, x6⟩; have X6 := Lib.hid (X4.out.trans x6); have Z6 := Lib.hid (HZ.out.ext X6.out); have zc := Z6.out.cell; have zf := Z6.out.frozen; clear x6)
        have kb := blk_set4 Z6.out (.int .i64 3) (.int .i64 0) (.string s) (.slice none 0 0)
        have kc := kb.cell
        have h4 := (H.out.ext X6.out).set4 HO.out (Nat.le_refl _) Z6.out (.int .i64 3) (.int .i64 0) (.string s) (.slice none 0 0)
        have s4 := pstep_set4 (PStep.ext (S := f.S) (nv := nv) (HX.out.trans X6.out)) (Nat.le_refl _) (.int .i64 3) (.int .i64 0) (.string s) (.slice none 0 0)
        refine bodyPost_ret (v := .tuple #[.agg #[.int .i64 3, .int .i64 0, .string s, .slice none 0 0], .int .i64 0]) ?_ rfl ⟨atomT s, 0, none, 0, nv, r, ns, false, rfl, ⟨rfl, rfl, rfl, rfl⟩, h4, s4, TmsIn.term (TmsIn.nil _ _ _ _) 3 0 s, Nat.le_refl _⟩
        simp [results, Tryz.results111, go_sem, kc]
  · go_region
    all_goals
      have XD : Hid (Ext (w.alloc (.cells #[.int .i64 0, .int .i64 0, .string ⟨#[]⟩, .slice none 0 0] 32)) W1.drew) := Lib.hid X1.out.drew
      have v2 : W1.drew.cell? ⟨f.pb, 2, none⟩ = _ := y2
      clear y0 y1 y2 z0 z4
      generalize W1.drew = W2 at *
      have HF := HFQ _ XD.out
      clear HFQ
      go_upto_region 9 with (go_at_call 115; refine HF.out.mono ?_; rintro e W4 ⟨rfl, x4⟩; have X4 := Lib.hid ((XD.out.trans x4).alloc (.cells #[.int .i64 o.p, .int .i64 o.t, .string o.s] 70)); have BO := Lib.hid (Blk.new W4 70 #[.int .i64 o.p, .int .i64 o.t, .string o.s]); clear x4)
      generalize W4.alloc (.cells #[.int .i64 o.p, .int .i64 o.t, .string o.s] 70) = W5 at *
      generalize W4.heap.size = g10 at *
      have k10 := BO.out.cell
      clear v2 HF
      rcases hb3 with rfl | ⟨rfl, hpm⟩
      · go_wp2_with (go_at_call 36; refine (HA _).out.mono ?_; rintro e W6 ⟨rfl, x6⟩; have X6 := Lib.hid (X4.out.trans x6); have Z6 := Lib.hid (HZ.out.ext X6.out); have zc := Z6.out.cell; have zf := Z6.out.frozen; clear x6)
        have kb := blk_set4 Z6.out (.int .i64 3) (.int .i64 0) (.string s) (.slice none 0 0)
        have kc := kb.cell
        have h4 := (H.out.ext X6.out).set4 HO.out (Nat.le_refl _) Z6.out (.int .i64 3) (.int .i64 0) (.string s) (.slice none 0 0)
        have s4 := pstep_set4 (PStep.ext (S := f.S) (nv := nv) (HX.out.trans X6.out)) (Nat.le_refl _) (.int .i64 3) (.int .i64 0) (.string s) (.slice none 0 0)
        refine bodyPost_ret (v := .tuple #[.agg #[.int .i64 3, .int .i64 0, .string s, .slice none 0 0], .int .i64 0]) ?_ rfl ⟨atomT s, 0, none, 0, nv, r, ns, false, rfl, ⟨rfl, rfl, rfl, rfl⟩, h4, s4, TmsIn.term (TmsIn.nil _ _ _ _) 3 0 s, Nat.le_refl _⟩
        simp [results, Tryz.results111, go_sem, kc]
      · go_wp2_with (go_at_call 36; refine (HA _).out.mono ?_; rintro e W6 ⟨rfl, x6⟩; have X6 := Lib.hid (X4.out.trans x6); have Z6 := Lib.hid (HZ.out.ext X6.out); have zc := Z6.out.cell; have zf := Z6.out.frozen; clear x6)
        have kb := blk_set4 Z6.out (.int .i64 3) (.int .i64 0) (.string s) (.slice none 0 0)
        have kc := kb.cell
        have h4 := (H.out.ext X6.out).set4 HO.out (Nat.le_refl _) Z6.out (.int .i64 3) (.int .i64 0) (.string s) (.slice none 0 0)
        have s4 := pstep_set4 (PStep.ext (S := f.S) (nv := nv) (HX.out.trans X6.out)) (Nat.le_refl _) (.int .i64 3) (.int .i64 0) (.string s) (.slice none 0 0)
        refine bodyPost_ret (v := .tuple #[.agg #[.int .i64 3, .int .i64 0, .string s, .slice none 0 0], .int .i64 0]) ?_ rfl ⟨atomT s, 0, none, 0, nv, r, ns, false, rfl, ⟨rfl, rfl, rfl, rfl⟩, h4, s4, TmsIn.term (TmsIn.nil _ _ _ _) 3 0 s, Nat.le_refl _⟩
        simp [results, Tryz.results111, go_sem, kc]
  · go_region
    all_goals
      have XD : Hid (Ext (w.alloc (.cells #[.int .i64 0, .int .i64 0, .string ⟨#[]⟩, .slice none 0 0] 32)) W1.drew) := Lib.hid X1.out.drew
      have v2 : W1.drew.cell? ⟨f.pb, 2, none⟩ = _ := y2
      clear y0 y1 y2 z0 z4
      generalize W1.drew = W2 at *
      have HF := HFQ _ XD.out
      clear HFQ
      go_upto_region 9 with (go_at_call 115; refine HF.out.mono ?_; rintro e W4 ⟨rfl, x4⟩; have X4 := Lib.hid ((XD.out.trans x4).alloc (.cells #[.int .i64 o.p, .int .i64 o.t, .string o.s] 70)); have BO := Lib.hid (Blk.new W4 70 #[.int .i64 o.p, .int .i64 o.t, .string o.s]); clear x4)
      generalize W4.alloc (.cells #[.int .i64 o.p, .int .i64 o.t, .string o.s] 70) = W5 at *
      generalize W4.heap.size = g10 at *
      have k10 := BO.out.cell
      clear v2 HF
      rcases hb3 with rfl | ⟨rfl, hpm⟩
      · go_wp2_with (go_at_call 36; refine (HA _).out.mono ?_; rintro e W6 ⟨rfl, x6⟩; have X6 := Lib.hid (X4.out.trans x6); have Z6 := Lib.hid (HZ.out.ext X6.out); have zc := Z6.out.cell; have zf := Z6.out.frozen; clear x6)
        have kb := blk_set4 Z6.out (.int .i64 3) (.int .i64 0) (.string s) (.slice none 0 0)
        have kc := kb.cell
        have h4 := (H.out.ext X6.out).set4 HO.out (Nat.le_refl _) Z6.out (.int .i64 3) (.int .i64 0) (.string s) (.slice none 0 0)
        have s4 := pstep_set4 (PStep.ext (S := f.S) (nv := nv) (HX.out.trans X6.out)) (Nat.le_refl _) (.int .i64 3) (.int .i64 0) (.string s) (.slice none 0 0)
        refine bodyPost_ret (v := .tuple #[.agg #[.int .i64 3, .int .i64 0, .string s, .slice none 0 0], .int .i64 0]) ?_ rfl ⟨atomT s, 0, none, 0, nv, r, ns, false, rfl, ⟨rfl, rfl, rfl, rfl⟩, h4, s4, TmsIn.term (TmsIn.nil _ _ _ _) 3 0 s, Nat.le_refl _⟩
        simp [results, Tryz.results111, go_sem, kc]
      · go_wp2_with (go_at_call 36; refine (HA _).out.mono ?_; rintro e W6 ⟨rfl, x6⟩; have X6 := Lib.hid (X4.out.trans x6); have Z6 := Lib.hid (HZ.out.ext X6.out); have zc := Z6.out.cell; have zf := Z6.out.frozen; clear x6)
        have kb := blk_set4 Z6.out (.int .i64 3) (.int .i64 0) (.string s) (.slice none 0 0)
        have kc := kb.cell
        have h4 := (H.out.ext X6.out).set4 HO.out (Nat.le_refl _) Z6.out (.int .i64 3) (.int .i64 0) (.string s) (.slice none 0 0)
        have s4 := pstep_set4 (PStep.ext (S := f.S) (nv := nv) (HX.out.trans X6.out)) (Nat.le_refl _) (.int .i64 3) (.int .i64 0) (.string s) (.slice none 0 0)
        refine bodyPost_ret (v := .tuple #[.agg #[.int .i64 3, .int .i64 0, .string s, .slice none 0 0], .int .i64 0]) ?_ rfl ⟨atomT s, 0, none, 0, nv, r, ns, false, rfl, ⟨rfl, rfl, rfl, rfl⟩, h4, s4, TmsIn.term (TmsIn.nil _ _ _ _) 3 0 s, Nat.le_refl _⟩
        simp [results, Tryz.results111, go_sem, kc]
end Go.Proofs.YtgcdhffeacdegaaGreatDoor
