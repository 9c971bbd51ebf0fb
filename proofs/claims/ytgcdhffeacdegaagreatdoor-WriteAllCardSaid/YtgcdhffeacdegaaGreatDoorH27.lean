/- Layer 10, the program: the walk of sign. -/
import Derived.Test.YtgcdhffeacdegaaGreatDoorH26
namespace Go.Proofs.YtgcdhffeacdegaaGreatDoor
open Go.RowKit Go.El
theorem named_atom (O : Ops) {n : Nat} (hn : 1 ≤ n) (s : ByteArray) {r : List TokV} (ns : List ByteArray) (ho : opensB r = false) : namedN O n s r ns = .ok (atomT s, 0) r ns := by
 obtain ⟨m, rfl⟩ : ∃ m, n = m + 1 := ⟨n - 1, by omega⟩
 simp [namedN, ho]
theorem sign_named (O : Ops) (n : Nat) (s : ByteArray) (most : Int) (r : List TokV) (ns : List ByteArray) (ho : opensB r = true) : signN O (n + 1) s most r ns = namedN O n s r ns := by
 simp [signN, ho]
theorem sign_int (O : Ops) (n : Nat) (s : ByteArray) (most : Int) (r : List TokV) (ns : List ByteArray) (ho : opensB r = false) (h : s = minB ∧ numB r = true) : signN O (n + 1) s most r ns = .ok (intT (-headN r), 0) r.tail ns := by
 simp [signN, ho, h]
theorem sign_op (O : Ops) (n : Nat) (s : ByteArray) (most : Int) (r : List TokV) (ns : List ByteArray) (ho : opensB r = false) (h : ¬ (s = minB ∧ numB r = true)) (hb : (O.fp s).isSome = true ∧ ((O.fp s).getD zeroO).p ≤ most ∧ beginsB O r = true) :
  signN O (n + 1) s most r ns = prM (fun u => (compT s [u], ((O.fp s).getD zeroO).p)) (termN O n (rightI ((O.fp s).getD zeroO).p ((O.fp s).getD zeroO).t) r ns) := by
 obtain ⟨h1, h2, h3⟩ := hb
 cases hf : O.fp s with
 | none => rw [hf] at h1; cases h1
 | some o =>
  rw [hf] at h2
  simp only [Option.getD_some] at h2 ⊢
  simp only [signN, ho, hf]
  rw [if_neg (by simp), if_neg h, if_pos ⟨h2, h3⟩]
  cases termN O n (rightI o.p o.t) r ns <;> rfl
theorem sign_atom (O : Ops) {n : Nat} (hn : 1 ≤ n) (s : ByteArray) (most : Int) (r : List TokV) (ns : List ByteArray) (ho : opensB r = false) (h : ¬ (s = minB ∧ numB r = true)) (hb : ¬ ((O.fp s).isSome = true ∧ ((O.fp s).getD zeroO).p ≤ most ∧ beginsB O r = true)) :
  signN O (n + 1) s most r ns = namedN O n s r ns := by
 rw [named_atom O hn s ns ho]
 cases hf : O.fp s with
 | none =>
  simp only [signN, ho, hf]
  rw [if_neg (by simp), if_neg h]
 | some o =>
  rw [hf] at hb
  simp only [Option.getD_some, Option.isSome_some, true_and] at hb
  simp only [signN, ho, hf]
  rw [if_neg (by simp), if_neg h, if_neg hb]
theorem cond4 {s : ByteArray} {r : List TokV} {t0 : TokV} {q : List TokV} (e : r = t0 :: q) (hc : ¬ (s = minB ∧ numB r = true)) : ((s.toList == [45]) = false ∨ ((s.toList == [45]) = true ∧ (t0.kind == 4) = false) ∨ ((s.toList == [45]) = true ∧ (t0.kind == 4) = true ∧ t0.lay = true)) := by
 cases h1 : (s.toList == [45])
 ·exact .inl rfl
 ·cases h2 : (t0.kind == 4)
  ·exact .inr (.inl ⟨rfl, rfl⟩)
  ·refine .inr (.inr ⟨rfl, rfl, ?_⟩)
   cases h3 : t0.lay
   ·refine absurd ⟨?_, ?_⟩ hc
    ·have := @str_beq s minB
     have e : minB.toList = [45] := by rw [ByteArray.toList_eq]; rfl
     rw [e, h1] at this
     exact of_decide_eq_true this.symm
    ·have h4 : t0.kind = 4 := by simpa using h2
     rw [e]
     simp [numB, h4, h3]
   ·rfl
set_option maxRecDepth 100000 in
set_option maxHeartbeats 8000000 in
theorem paSign_named {f : PF} {N : Nat} (IH : PTermC f N) (s : ByteArray) (most : Int) {r : List TokV} (hN : r.length ≤ N) {w : World} {nv : Value} {ns : List ByteArray} (h : PaAt f w r nv ns false) {n : Nat} (hn : 5 * r.length + 6 ≤ n) {t0 : TokV} {q : List TokV} (e : r = t0 :: q) {o : OpV} (hoq : (findO s f.Q).getD zeroO = o) {bq : Bool} (hbq : (findO s f.Q).isSome = bq) (ho : opensB r = true) :
  Calls Tryz.prog 99 #[.pointer (some ⟨f.pb, 0, none⟩), .string s, .int .i64 most] w (OPost f w nv r (signN f.O n s most r ns)) := by
 obtain ⟨m, rfl⟩ : ∃ m, n = m + 1 := ⟨n - 1, by omega⟩
 rw [sign_named _ _ _ _ _ _ ho]
 obtain ⟨X, hX⟩ : ∃ X, namedN f.O m s r ns = X := ⟨_, rfl⟩
 rw [hX]
 have HLX := Lib.hid hX
 clear hX
 have HO := Lib.hid h.old
 have hx := ext_box4 w (.cells #[.int .i64 0, .int .i64 0, .string ⟨#[]⟩, .slice none 0 0] 32)
 have HXB := Lib.hid hx
 have H := Lib.hid h
 have HZ := Lib.hid (Blk.new w 32 #[.int .i64 0, .int .i64 0, .string ⟨#[]⟩, .slice none 0 0])
 have HN := fun W (x : Ext w W) => Lib.hid (paNext (h.ext x) e)
 have HPF := fun W (x : Ext w W) => Lib.hid ((h.ext x).pre s)
 have c2 := hx.cell h.cells.c2
 have HSZ := Lib.hid (World.size_alloc w (.cells #[.int .i64 0, .int .i64 0, .string ⟨#[]⟩, .slice none 0 0] 32))
 have hp : f.pb < w.heap.size := h.blk.lt
 unfold tokA at HN
 unfold opR opA at HPF
 rw [hoq, hbq] at HPF
 have HNN := Lib.hid hN
 have HM := Lib.hid hn
 have HE := Lib.hid e
 clear h hx hN hn e hoq hbq
 go_enter Tryz.func99, Tryz.ntmps99
 go_upto_region 2 with (go_at_call 42; refine (HN _ HXB.out).out.mono ?_; rintro e W1 ⟨rfl, x1⟩; have X1 := Lib.hid ((HXB.out.trans x1).alloc (.cells #[.int .i64 t0.kind, .string t0.s, .int .i64 t0.n, .int .i64 t0.at_, .bool t0.lay] 55)); have Z1 := Lib.hid ((HZ.out.ext x1).ext (ext_box4 _ (.cells #[.int .i64 t0.kind, .string t0.s, .int .i64 t0.n, .int .i64 t0.at_, .bool t0.lay] 55))); have B8 := Lib.hid (Blk.new W1 55 #[.int .i64 t0.kind, .string t0.s, .int .i64 t0.n, .int .i64 t0.at_, .bool t0.lay]); have G8 : Hid (w.heap.size < W1.heap.size) := Lib.hid (by have := x1.size; rw [HSZ.out] at this; omega); have c2 := (x1.alloc (.cells #[.int .i64 t0.kind, .string t0.s, .int .i64 t0.n, .int .i64 t0.at_, .bool t0.lay] 55)).cell c2; clear x1)
 generalize W1.alloc (.cells #[.int .i64 t0.kind, .string t0.s, .int .i64 t0.n, .int .i64 t0.at_, .bool t0.lay] 55) = W1b at *
 generalize W1.heap.size = g8 at *
 go_upto_region 3 with (go_at_call 144; refine (HPF _ X1.out).out.mono ?_; rintro e W2 ⟨rfl, x2⟩; have X2 := Lib.hid ((X1.out.trans x2).alloc (.cells #[.int .i64 o.p, .int .i64 o.t, .string o.s] 70)); have Z2 := Lib.hid ((Z1.out.ext x2).ext (ext_box4 _ (.cells #[.int .i64 o.p, .int .i64 o.t, .string o.s] 70))); have B82 := Lib.hid ((B8.out.ext x2).ext (ext_box4 _ (.cells #[.int .i64 o.p, .int .i64 o.t, .string o.s] 70))); have B9 := Lib.hid (Blk.new W2 70 #[.int .i64 o.p, .int .i64 o.t, .string o.s]); have G9 : Hid (g8 < W2.heap.size) := Lib.hid (by have := x2.size; have := B8.out.lt; omega); clear x2)
 generalize W2.alloc (.cells #[.int .i64 o.p, .int .i64 o.t, .string o.s] 70) = W3 at *
 generalize W2.heap.size = g9 at *
 clear B8 Z1 X1 HN HPF c2 HXB HZ
 have H3 := Lib.hid (H.out.ext X2.out)
 have S3 := Lib.hid (PStep.ext (S := f.S) (nv := nv) X2.out)
 have C3 := Lib.hid (clr_box H.out (Nat.le_refl _) Z2.out.lt)
 have C8 := Lib.hid (clr_box H.out (Nat.le_of_lt G8.out) B82.out.lt)
 have C9 := Lib.hid (clr_box H.out (Nat.le_of_lt (Nat.lt_trans G8.out G9.out)) B9.out.lt)
 have k8 := B82.out.cell
 have k9 := B9.out.cell
 have HOPN := Lib.hid (paOpens H3.out)
 rw [ho] at HOPN
 clear ho
 go_upto_region 9 with (go_at_call 140; refine HOPN.out.mono ?_; rintro e WB ⟨rfl, xb⟩; have XB := Lib.hid xb; have HB := Lib.hid (H3.out.ext xb); have SB := Lib.hid (S3.out.trans (PStep.ext xb)); have ZB := Lib.hid (Z2.out.ext xb); have CB := Lib.hid ((PStep.ext (S := f.S) (nv := nv) xb).clr C3.out); have m8 := (B82.out.ext xb).cell; have BB9 := Lib.hid (B9.out.ext xb); have m9 := BB9.out.cell; have CB9 := Lib.hid ((PStep.ext (S := f.S) (nv := nv) xb).clr C9.out); have GB : Hid (w.heap.size < WB.heap.size) := Lib.hid ZB.out.lt; clear xb)
 have HT := Lib.hid (paNamed IH s (by have := HNN.out; omega) HB.out (n := m) (by have := HM.out; omega))
 rw [HLX.out] at HT
 go_wp2_with (go_at_call 98; refine HT.out.mono ?_; rintro e W5 ⟨t, A, c, nv5, r5, ns5, b5, rfl, hres, h5, s5, ht5, hl5⟩; have HRES := Lib.hid hres; have H5 := Lib.hid h5; have S5 := Lib.hid (SB.out.trans s5); have T5 := Lib.hid ht5; have L5 := Lib.hid hl5; have Z5 := Lib.hid (ZB.out.mods s5.mods CB.out.no); have zc := (ZB.out.mods s5.mods CB.out.no).cell; have zf := (ZB.out.mods s5.mods CB.out.no).frozen; clear hres h5 s5 ht5 hl5)
 have G5 : Hid (w.heap.size < WB.heap.size) := GB
 have kb := blk_set4 Z5.out (.int .i64 (Tm.k t)) (.int .i64 (Tm.n t)) (.string (Tm.s t)) (.slice A (Tm.l t).length c)
 have kc := kb.cell
 have h7 := H5.out.set4 HO.out (Nat.le_refl _) Z5.out (.int .i64 (Tm.k t)) (.int .i64 (Tm.n t)) (.string (Tm.s t)) (.slice A (Tm.l t).length c)
 have s7 := pstep_set4 S5.out (Nat.le_refl _) (.int .i64 (Tm.k t)) (.int .i64 (Tm.n t)) (.string (Tm.s t)) (.slice A (Tm.l t).length c)
 have t7 := tmN_wide (w := w) (tmN_set4 T5.out (z := w.heap.size) G5.out (.int .i64 (Tm.k t)) (.int .i64 (Tm.n t)) (.string (Tm.s t)) (.slice A (Tm.l t).length c)) (Nat.le_of_lt G5.out)
 refine bodyPost_ret (v := .tuple #[.agg #[.int .i64 (Tm.k t), .int .i64 (Tm.n t), .string (Tm.s t), .slice A (Tm.l t).length c], .int .i64 0]) ?_ rfl ⟨t, 0, A, c, nv5, r5, ns5, b5, rfl, HRES.out, h7, s7, t7, L5.out⟩
 simp [results, Tryz.results99, go_sem, kc]
set_option maxRecDepth 100000 in
set_option maxHeartbeats 8000000 in
theorem paSign_int {f : PF} {N : Nat} (s : ByteArray) (most : Int) {r : List TokV} (hN : r.length ≤ N) {w : World} {nv : Value} {ns : List ByteArray} (h : PaAt f w r nv ns false) {n : Nat} (hn : 5 * r.length + 6 ≤ n) {t0 : TokV} {q : List TokV} (e : r = t0 :: q) {o : OpV} (hoq : (findO s f.Q).getD zeroO = o) {bq : Bool} (hbq : (findO s f.Q).isSome = bq) (ho : opensB r = false) (hs : s = minB) (hk : t0.kind = 4) (hl : t0.lay = false) :
  Calls Tryz.prog 99 #[.pointer (some ⟨f.pb, 0, none⟩), .string s, .int .i64 most] w (OPost f w nv r (signN f.O n s most r ns)) := by
 obtain ⟨m, rfl⟩ : ∃ m, n = m + 1 := ⟨n - 1, by omega⟩
 have hnum : numB r = true := by rw [e]; simp [numB, hk, hl]
 rw [sign_int _ _ _ _ _ _ ho ⟨hs, hnum⟩]
 have e1 : (s.toList == [45]) = true := by rw [hs, ByteArray.toList_eq]; rfl
 have hbn : 0 ≤ t0.n ∧ t0.n ≤ 9007199254740991 := by
  have := h.toks.head h.suf e
  simp [tokOk] at this
  exact this.1.2
 have hhn : headN r = t0.n := by rw [e]; rfl
 obtain ⟨u, qq, hq⟩ := h.toks.more h.suf e (by omega)
 have t1 := suf_tail h.suf e
 have t3 := plI_tail h.suf e
 have htq : r.tail = q := by rw [e]; rfl
 have hqn : q ≠ [] := by rw [hq]; simp
 have hkL := plI_lt h.suf h.nil
 have hLL := h.toks.len
 have HL : Hid (ns.length + q.length ≤ f.L.length) := Lib.hid (by have := h.nl; rw [e] at this; simp at this; omega)
 have HQL : Hid (q.length ≤ r.length) := Lib.hid (by rw [e]; simp)
 have HT3 := Lib.hid t3
 rw [hhn, htq]
 have HK := Lib.hid hk
 have HLY := Lib.hid hl
 clear hk hl hs hnum hhn t3 htq hq
 have HO := Lib.hid h.old
 have hx := ext_box4 w (.cells #[.int .i64 0, .int .i64 0, .string ⟨#[]⟩, .slice none 0 0] 32)
 have HXB := Lib.hid hx
 have H := Lib.hid h
 have HZ := Lib.hid (Blk.new w 32 #[.int .i64 0, .int .i64 0, .string ⟨#[]⟩, .slice none 0 0])
 have HN := fun W (x : Ext w W) => Lib.hid (paNext (h.ext x) e)
 have HPF := fun W (x : Ext w W) => Lib.hid ((h.ext x).pre s)
 have c2 := hx.cell h.cells.c2
 have HSZ := Lib.hid (World.size_alloc w (.cells #[.int .i64 0, .int .i64 0, .string ⟨#[]⟩, .slice none 0 0] 32))
 have hp : f.pb < w.heap.size := h.blk.lt
 unfold tokA at HN
 unfold opR opA at HPF
 rw [hoq, hbq] at HPF
 have HNN := Lib.hid hN
 have HM := Lib.hid hn
 have HE := Lib.hid e
 clear h hx hN hn e hoq hbq
 go_enter Tryz.func99, Tryz.ntmps99
 go_upto_region 2 with (go_at_call 42; refine (HN _ HXB.out).out.mono ?_; rintro e W1 ⟨rfl, x1⟩; have X1 := Lib.hid ((HXB.out.trans x1).alloc (.cells #[.int .i64 t0.kind, .string t0.s, .int .i64 t0.n, .int .i64 t0.at_, .bool t0.lay] 55)); have Z1 := Lib.hid ((HZ.out.ext x1).ext (ext_box4 _ (.cells #[.int .i64 t0.kind, .string t0.s, .int .i64 t0.n, .int .i64 t0.at_, .bool t0.lay] 55))); have B8 := Lib.hid (Blk.new W1 55 #[.int .i64 t0.kind, .string t0.s, .int .i64 t0.n, .int .i64 t0.at_, .bool t0.lay]); have G8 : Hid (w.heap.size < W1.heap.size) := Lib.hid (by have := x1.size; rw [HSZ.out] at this; omega); have c2 := (x1.alloc (.cells #[.int .i64 t0.kind, .string t0.s, .int .i64 t0.n, .int .i64 t0.at_, .bool t0.lay] 55)).cell c2; clear x1)
 generalize W1.alloc (.cells #[.int .i64 t0.kind, .string t0.s, .int .i64 t0.n, .int .i64 t0.at_, .bool t0.lay] 55) = W1b at *
 generalize W1.heap.size = g8 at *
 go_upto_region 3 with (go_at_call 144; refine (HPF _ X1.out).out.mono ?_; rintro e W2 ⟨rfl, x2⟩; have X2 := Lib.hid ((X1.out.trans x2).alloc (.cells #[.int .i64 o.p, .int .i64 o.t, .string o.s] 70)); have Z2 := Lib.hid ((Z1.out.ext x2).ext (ext_box4 _ (.cells #[.int .i64 o.p, .int .i64 o.t, .string o.s] 70))); have B82 := Lib.hid ((B8.out.ext x2).ext (ext_box4 _ (.cells #[.int .i64 o.p, .int .i64 o.t, .string o.s] 70))); have B9 := Lib.hid (Blk.new W2 70 #[.int .i64 o.p, .int .i64 o.t, .string o.s]); have G9 : Hid (g8 < W2.heap.size) := Lib.hid (by have := x2.size; have := B8.out.lt; omega); clear x2)
 generalize W2.alloc (.cells #[.int .i64 o.p, .int .i64 o.t, .string o.s] 70) = W3 at *
 generalize W2.heap.size = g9 at *
 clear B8 Z1 X1 HN HPF c2 HXB HZ
 have H3 := Lib.hid (H.out.ext X2.out)
 have S3 := Lib.hid (PStep.ext (S := f.S) (nv := nv) X2.out)
 have C3 := Lib.hid (clr_box H.out (Nat.le_refl _) Z2.out.lt)
 have C8 := Lib.hid (clr_box H.out (Nat.le_of_lt G8.out) B82.out.lt)
 have C9 := Lib.hid (clr_box H.out (Nat.le_of_lt (Nat.lt_trans G8.out G9.out)) B9.out.lt)
 have k8 := B82.out.cell
 have k9 := B9.out.cell
 have HOPN := Lib.hid (paOpens H3.out)
 rw [ho] at HOPN
 rw [HK.out, HLY.out] at k8
 clear ho
 go_upto_region 5 with (go_at_call 140; refine HOPN.out.mono ?_; rintro e WB ⟨rfl, xb⟩; have HB := Lib.hid (H3.out.ext xb); have SB := Lib.hid (S3.out.trans (PStep.ext xb)); have ZB := Lib.hid (Z2.out.ext xb); have CB := Lib.hid ((PStep.ext (S := f.S) (nv := nv) xb).clr C3.out); have MB : Hid (Blk WB g8 55 #[.int .i64 4, .string t0.s, .int .i64 t0.n, .int .i64 t0.at_, .bool false]) := Lib.hid (by have := B82.out.ext xb; rw [HK.out, HLY.out] at this; exact this); have m8 := MB.out.cell; have GB : Hid (w.heap.size < WB.heap.size) := Lib.hid ZB.out.lt; clear xb)
 have s1 := HB.out.setI t1 hqn HL.out ((plI f.L r : Int) + 1) (by rw [HT3.out]; omega)
 have c1 := HB.out.cells.c1
 have f1 := HB.out.blk.frozen 1
 have HI := fun W => Lib.hid (pInt_any (-t0.n) W)
 have H6 := Lib.hid s1.1
 have S6 := Lib.hid (SB.out.trans s1.2)
 have hg8 : g8 ≠ f.pb := by have := G8.out; omega
 have Z6 : Hid (Blk (WB.setCell ⟨f.pb, 1, none⟩ (.int .i64 ((plI f.L r : Int) + 1))) w.heap.size 32 #[.int .i64 0, .int .i64 0, .string ⟨#[]⟩, .slice none 0 0]) := Lib.hid (ZB.out.far (p := ⟨f.pb, 1, none⟩) (by simp; omega) _)
 have B6 : Hid (Blk (WB.setCell ⟨f.pb, 1, none⟩ (.int .i64 ((plI f.L r : Int) + 1))) g8 55 #[.int .i64 4, .string t0.s, .int .i64 t0.n, .int .i64 t0.at_, .bool false]) := Lib.hid (MB.out.far (p := ⟨f.pb, 1, none⟩) (by simpa using hg8) _)
 generalize plI f.L r = k at *
 clear s1 m8 k8 k9
 go_upto_region 6 with fail
 generalize WB.setCell ⟨f.pb, 1, none⟩ (.int .i64 ((k : Int) + 1)) = W6 at *
 clear c1 f1 HB SB ZB CB MB
 have m6 := B6.out.cell
 have hq1 : -9223372036854775808 ≤ -t0.n ∧ -t0.n ≤ 9223372036854775807 := by omega
 go_wp2_with (go_at_call 96; refine (HI _).out.mono ?_; rintro e W5 ⟨rfl, x5⟩; have H5 := Lib.hid (H6.out.ext x5); have S5 := Lib.hid (S6.out.trans (PStep.ext x5)); have Z5 := Lib.hid (Z6.out.ext x5); have zc := (Z6.out.ext x5).cell; have zf := (Z6.out.ext x5).frozen; clear x5)
 have kb := blk_set4 Z5.out (.int .i64 2) (.int .i64 (-t0.n)) (.string ⟨#[]⟩) (.slice none 0 0)
 have kc := kb.cell
 have h7 := H5.out.set4 HO.out (Nat.le_refl _) Z5.out (.int .i64 2) (.int .i64 (-t0.n)) (.string ⟨#[]⟩) (.slice none 0 0)
 have s7 := pstep_set4 S5.out (Nat.le_refl _) (.int .i64 2) (.int .i64 (-t0.n)) (.string ⟨#[]⟩) (.slice none 0 0)
 refine bodyPost_ret (v := .tuple #[.agg #[.int .i64 2, .int .i64 (-t0.n), .string ⟨#[]⟩, .slice none 0 0], .int .i64 0]) ?_ rfl ⟨intT (-t0.n), 0, none, 0, nv, q, ns, false, rfl, ⟨rfl, rfl, rfl, rfl⟩, h7, s7, TmsIn.term (TmsIn.nil _ _ _ _) 2 (-t0.n) ⟨#[]⟩, HQL.out⟩
 simp [results, Tryz.results99, go_sem, kc]
set_option maxRecDepth 100000 in
set_option maxHeartbeats 8000000 in
theorem paSign_atom {f : PF} {N : Nat} (IH : PTermC f N) (s : ByteArray) (most : Int) {r : List TokV} (hN : r.length ≤ N) {w : World} {nv : Value} {ns : List ByteArray} (h : PaAt f w r nv ns false) {n : Nat} (hn : 5 * r.length + 6 ≤ n) {t0 : TokV} {q : List TokV} (e : r = t0 :: q) {o : OpV} (hoq : (findO s f.Q).getD zeroO = o) {bq : Bool} (hbq : (findO s f.Q).isSome = bq) (ho : opensB r = false) (hc : ¬ (s = minB ∧ numB r = true)) (hb : ¬ (bq = true ∧ o.p ≤ most ∧ beginsB f.O r = true)) :
  Calls Tryz.prog 99 #[.pointer (some ⟨f.pb, 0, none⟩), .string s, .int .i64 most] w (OPost f w nv r (signN f.O n s most r ns)) := by
 obtain ⟨m, rfl⟩ : ∃ m, n = m + 1 := ⟨n - 1, by omega⟩
 rw [sign_atom f.O (by omega) s most r ns ho hc (by show ¬ ((findO s f.Q).isSome = true ∧ ((findO s f.Q).getD zeroO).p ≤ most ∧ _); rw [hoq, hbq]; exact hb)]
 have hc4 := cond4 e hc
 obtain ⟨X, hX⟩ : ∃ X, namedN f.O m s r ns = X := ⟨_, rfl⟩
 rw [hX]
 have HLX := Lib.hid hX
 clear hX
 have hb3 : bq = false ∨ (bq = true ∧ most < o.p) ∨ (bq = true ∧ o.p ≤ most ∧ beginsB f.O r = false) := by
  cases bq
  ·exact .inl rfl
  ·by_cases h1 : o.p ≤ most
   ·refine .inr (.inr ⟨rfl, h1, ?_⟩)
    cases h2 : beginsB f.O r
    ·rfl
    ·exact absurd ⟨rfl, h1, h2⟩ hb
   ·exact .inr (.inl ⟨rfl, by omega⟩)
 clear hb hc
 have HO := Lib.hid h.old
 have hx := ext_box4 w (.cells #[.int .i64 0, .int .i64 0, .string ⟨#[]⟩, .slice none 0 0] 32)
 have HXB := Lib.hid hx
 have H := Lib.hid h
 have HZ := Lib.hid (Blk.new w 32 #[.int .i64 0, .int .i64 0, .string ⟨#[]⟩, .slice none 0 0])
 have HN := fun W (x : Ext w W) => Lib.hid (paNext (h.ext x) e)
 have HPF := fun W (x : Ext w W) => Lib.hid ((h.ext x).pre s)
 have c2 := hx.cell h.cells.c2
 have HSZ := Lib.hid (World.size_alloc w (.cells #[.int .i64 0, .int .i64 0, .string ⟨#[]⟩, .slice none 0 0] 32))
 have hp : f.pb < w.heap.size := h.blk.lt
 unfold tokA at HN
 unfold opR opA at HPF
 rw [hoq, hbq] at HPF
 have HNN := Lib.hid hN
 have HM := Lib.hid hn
 have HE := Lib.hid e
 clear h hx hN hn e hoq hbq
 go_enter Tryz.func99, Tryz.ntmps99
 go_upto_region 2 with (go_at_call 42; refine (HN _ HXB.out).out.mono ?_; rintro e W1 ⟨rfl, x1⟩; have X1 := Lib.hid ((HXB.out.trans x1).alloc (.cells #[.int .i64 t0.kind, .string t0.s, .int .i64 t0.n, .int .i64 t0.at_, .bool t0.lay] 55)); have Z1 := Lib.hid ((HZ.out.ext x1).ext (ext_box4 _ (.cells #[.int .i64 t0.kind, .string t0.s, .int .i64 t0.n, .int .i64 t0.at_, .bool t0.lay] 55))); have B8 := Lib.hid (Blk.new W1 55 #[.int .i64 t0.kind, .string t0.s, .int .i64 t0.n, .int .i64 t0.at_, .bool t0.lay]); have G8 : Hid (w.heap.size < W1.heap.size) := Lib.hid (by have := x1.size; rw [HSZ.out] at this; omega); have c2 := (x1.alloc (.cells #[.int .i64 t0.kind, .string t0.s, .int .i64 t0.n, .int .i64 t0.at_, .bool t0.lay] 55)).cell c2; clear x1)
 generalize W1.alloc (.cells #[.int .i64 t0.kind, .string t0.s, .int .i64 t0.n, .int .i64 t0.at_, .bool t0.lay] 55) = W1b at *
 generalize W1.heap.size = g8 at *
 go_upto_region 3 with (go_at_call 144; refine (HPF _ X1.out).out.mono ?_; rintro e W2 ⟨rfl, x2⟩; have X2 := Lib.hid ((X1.out.trans x2).alloc (.cells #[.int .i64 o.p, .int .i64 o.t, .string o.s] 70)); have Z2 := Lib.hid ((Z1.out.ext x2).ext (ext_box4 _ (.cells #[.int .i64 o.p, .int .i64 o.t, .string o.s] 70))); have B82 := Lib.hid ((B8.out.ext x2).ext (ext_box4 _ (.cells #[.int .i64 o.p, .int .i64 o.t, .string o.s] 70))); have B9 := Lib.hid (Blk.new W2 70 #[.int .i64 o.p, .int .i64 o.t, .string o.s]); have G9 : Hid (g8 < W2.heap.size) := Lib.hid (by have := x2.size; have := B8.out.lt; omega); clear x2)
 generalize W2.alloc (.cells #[.int .i64 o.p, .int .i64 o.t, .string o.s] 70) = W3 at *
 generalize W2.heap.size = g9 at *
 clear B8 Z1 X1 HN HPF c2 HXB HZ
 have H3 := Lib.hid (H.out.ext X2.out)
 have S3 := Lib.hid (PStep.ext (S := f.S) (nv := nv) X2.out)
 have C3 := Lib.hid (clr_box H.out (Nat.le_refl _) Z2.out.lt)
 have C8 := Lib.hid (clr_box H.out (Nat.le_of_lt G8.out) B82.out.lt)
 have C9 := Lib.hid (clr_box H.out (Nat.le_of_lt (Nat.lt_trans G8.out G9.out)) B9.out.lt)
 have k8 := B82.out.cell
 have k9 := B9.out.cell
 have HOPN := Lib.hid (paOpens H3.out)
 rw [ho] at HOPN
 clear ho
 rcases hc4 with e1 | ⟨e1, e4⟩ | ⟨e1, e4, e5⟩
 ·rcases hb3 with rfl | ⟨rfl, ep⟩ | ⟨rfl, ep, eb⟩
  ·go_upto_region 9 with (go_at_call 140; refine HOPN.out.mono ?_; rintro e WB ⟨rfl, xb⟩; have XB := Lib.hid xb; have HB := Lib.hid (H3.out.ext xb); have SB := Lib.hid (S3.out.trans (PStep.ext xb)); have ZB := Lib.hid (Z2.out.ext xb); have CB := Lib.hid ((PStep.ext (S := f.S) (nv := nv) xb).clr C3.out); have m8 := (B82.out.ext xb).cell; have BB9 := Lib.hid (B9.out.ext xb); have m9 := BB9.out.cell; have CB9 := Lib.hid ((PStep.ext (S := f.S) (nv := nv) xb).clr C9.out); have GB : Hid (w.heap.size < WB.heap.size) := Lib.hid ZB.out.lt; clear xb)
   have HT := Lib.hid (paNamed IH s (by have := HNN.out; omega) HB.out (n := m) (by have := HM.out; omega))
   rw [HLX.out] at HT
   go_wp2_with (go_at_call 98; refine HT.out.mono ?_; rintro e W5 ⟨t, A, c, nv5, r5, ns5, b5, rfl, hres, h5, s5, ht5, hl5⟩; have HRES := Lib.hid hres; have H5 := Lib.hid h5; have S5 := Lib.hid (SB.out.trans s5); have T5 := Lib.hid ht5; have L5 := Lib.hid hl5; have Z5 := Lib.hid (ZB.out.mods s5.mods CB.out.no); have zc := (ZB.out.mods s5.mods CB.out.no).cell; have zf := (ZB.out.mods s5.mods CB.out.no).frozen; clear hres h5 s5 ht5 hl5)
   have G5 : Hid (w.heap.size < WB.heap.size) := GB
   have kb := blk_set4 Z5.out (.int .i64 (Tm.k t)) (.int .i64 (Tm.n t)) (.string (Tm.s t)) (.slice A (Tm.l t).length c)
   have kc := kb.cell
   have h7 := H5.out.set4 HO.out (Nat.le_refl _) Z5.out (.int .i64 (Tm.k t)) (.int .i64 (Tm.n t)) (.string (Tm.s t)) (.slice A (Tm.l t).length c)
   have s7 := pstep_set4 S5.out (Nat.le_refl _) (.int .i64 (Tm.k t)) (.int .i64 (Tm.n t)) (.string (Tm.s t)) (.slice A (Tm.l t).length c)
   have t7 := tmN_wide (w := w) (tmN_set4 T5.out (z := w.heap.size) G5.out (.int .i64 (Tm.k t)) (.int .i64 (Tm.n t)) (.string (Tm.s t)) (.slice A (Tm.l t).length c)) (Nat.le_of_lt G5.out)
   refine bodyPost_ret (v := .tuple #[.agg #[.int .i64 (Tm.k t), .int .i64 (Tm.n t), .string (Tm.s t), .slice A (Tm.l t).length c], .int .i64 0]) ?_ rfl ⟨t, 0, A, c, nv5, r5, ns5, b5, rfl, HRES.out, h7, s7, t7, L5.out⟩
   simp [results, Tryz.results99, go_sem, kc]
  ·have ep2 : ¬ o.p ≤ most := by omega
   go_upto_region 9 with (go_at_call 140; refine HOPN.out.mono ?_; rintro e WB ⟨rfl, xb⟩; have XB := Lib.hid xb; have HB := Lib.hid (H3.out.ext xb); have SB := Lib.hid (S3.out.trans (PStep.ext xb)); have ZB := Lib.hid (Z2.out.ext xb); have CB := Lib.hid ((PStep.ext (S := f.S) (nv := nv) xb).clr C3.out); have m8 := (B82.out.ext xb).cell; have BB9 := Lib.hid (B9.out.ext xb); have m9 := BB9.out.cell; have CB9 := Lib.hid ((PStep.ext (S := f.S) (nv := nv) xb).clr C9.out); have GB : Hid (w.heap.size < WB.heap.size) := Lib.hid ZB.out.lt; clear xb)
   have HT := Lib.hid (paNamed IH s (by have := HNN.out; omega) HB.out (n := m) (by have := HM.out; omega))
   rw [HLX.out] at HT
   go_wp2_with (go_at_call 98; refine HT.out.mono ?_; rintro e W5 ⟨t, A, c, nv5, r5, ns5, b5, rfl, hres, h5, s5, ht5, hl5⟩; have HRES := Lib.hid hres; have H5 := Lib.hid h5; have S5 := Lib.hid (SB.out.trans s5); have T5 := Lib.hid ht5; have L5 := Lib.hid hl5; have Z5 := Lib.hid (ZB.out.mods s5.mods CB.out.no); have zc := (ZB.out.mods s5.mods CB.out.no).cell; have zf := (ZB.out.mods s5.mods CB.out.no).frozen; clear hres h5 s5 ht5 hl5)
   have G5 : Hid (w.heap.size < WB.heap.size) := GB
   have kb := blk_set4 Z5.out (.int .i64 (Tm.k t)) (.int .i64 (Tm.n t)) (.string (Tm.s t)) (.slice A (Tm.l t).length c)
   have kc := kb.cell
   have h7 := H5.out.set4 HO.out (Nat.le_refl _) Z5.out (.int .i64 (Tm.k t)) (.int .i64 (Tm.n t)) (.string (Tm.s t)) (.slice A (Tm.l t).length c)
   have s7 := pstep_set4 S5.out (Nat.le_refl _) (.int .i64 (Tm.k t)) (.int .i64 (Tm.n t)) (.string (Tm.s t)) (.slice A (Tm.l t).length c)
   have t7 := tmN_wide (w := w) (tmN_set4 T5.out (z := w.heap.size) G5.out (.int .i64 (Tm.k t)) (.int .i64 (Tm.n t)) (.string (Tm.s t)) (.slice A (Tm.l t).length c)) (Nat.le_of_lt G5.out)
   refine bodyPost_ret (v := .tuple #[.agg #[.int .i64 (Tm.k t), .int .i64 (Tm.n t), .string (Tm.s t), .slice A (Tm.l t).length c], .int .i64 0]) ?_ rfl ⟨t, 0, A, c, nv5, r5, ns5, b5, rfl, HRES.out, h7, s7, t7, L5.out⟩
   simp [results, Tryz.results99, go_sem, kc]
  ·have EB := Lib.hid eb
   clear eb
   go_upto_region 7 with (go_at_call 140; refine HOPN.out.mono ?_; rintro e WB0 ⟨rfl, xb⟩; have XB0 := Lib.hid xb; have HB0 := Lib.hid (H3.out.ext xb); have SB0 := Lib.hid (S3.out.trans (PStep.ext xb)); have ZB0 := Lib.hid (Z2.out.ext xb); have CB0 := Lib.hid ((PStep.ext (S := f.S) (nv := nv) xb).clr C3.out); have m8 := (B82.out.ext xb).cell; have BB90 := Lib.hid (B9.out.ext xb); have m9 := BB90.out.cell; have CB90 := Lib.hid ((PStep.ext (S := f.S) (nv := nv) xb).clr C9.out); have GB0 : Hid (w.heap.size < WB0.heap.size) := Lib.hid ZB0.out.lt; clear xb)
   have HBG := Lib.hid (paBegins HB0.out)
   rw [EB.out] at HBG
   go_upto_region 9 with (go_at_call 145; refine HBG.out.mono ?_; rintro e WB ⟨rfl, hc, sc⟩; have HB := Lib.hid hc; have SB := Lib.hid (SB0.out.trans sc); have ZB := Lib.hid (ZB0.out.mods sc.mods CB0.out.no); have CB := Lib.hid (sc.clr CB0.out); have GB : Hid (w.heap.size < WB.heap.size) := Lib.hid ZB.out.lt; clear hc sc)
   have HT := Lib.hid (paNamed IH s (by have := HNN.out; omega) HB.out (n := m) (by have := HM.out; omega))
   rw [HLX.out] at HT
   go_wp2_with (go_at_call 98; refine HT.out.mono ?_; rintro e W5 ⟨t, A, c, nv5, r5, ns5, b5, rfl, hres, h5, s5, ht5, hl5⟩; have HRES := Lib.hid hres; have H5 := Lib.hid h5; have S5 := Lib.hid (SB.out.trans s5); have T5 := Lib.hid ht5; have L5 := Lib.hid hl5; have Z5 := Lib.hid (ZB.out.mods s5.mods CB.out.no); have zc := (ZB.out.mods s5.mods CB.out.no).cell; have zf := (ZB.out.mods s5.mods CB.out.no).frozen; clear hres h5 s5 ht5 hl5)
   have G5 : Hid (w.heap.size < WB.heap.size) := GB
   have kb := blk_set4 Z5.out (.int .i64 (Tm.k t)) (.int .i64 (Tm.n t)) (.string (Tm.s t)) (.slice A (Tm.l t).length c)
   have kc := kb.cell
   have h7 := H5.out.set4 HO.out (Nat.le_refl _) Z5.out (.int .i64 (Tm.k t)) (.int .i64 (Tm.n t)) (.string (Tm.s t)) (.slice A (Tm.l t).length c)
   have s7 := pstep_set4 S5.out (Nat.le_refl _) (.int .i64 (Tm.k t)) (.int .i64 (Tm.n t)) (.string (Tm.s t)) (.slice A (Tm.l t).length c)
   have t7 := tmN_wide (w := w) (tmN_set4 T5.out (z := w.heap.size) G5.out (.int .i64 (Tm.k t)) (.int .i64 (Tm.n t)) (.string (Tm.s t)) (.slice A (Tm.l t).length c)) (Nat.le_of_lt G5.out)
   refine bodyPost_ret (v := .tuple #[.agg #[.int .i64 (Tm.k t), .int .i64 (Tm.n t), .string (Tm.s t), .slice A (Tm.l t).length c], .int .i64 0]) ?_ rfl ⟨t, 0, A, c, nv5, r5, ns5, b5, rfl, HRES.out, h7, s7, t7, L5.out⟩
   simp [results, Tryz.results99, go_sem, kc]
 ·rcases hb3 with rfl | ⟨rfl, ep⟩ | ⟨rfl, ep, eb⟩
  ·go_upto_region 9 with (go_at_call 140; refine HOPN.out.mono ?_; rintro e WB ⟨rfl, xb⟩; have XB := Lib.hid xb; have HB := Lib.hid (H3.out.ext xb); have SB := Lib.hid (S3.out.trans (PStep.ext xb)); have ZB := Lib.hid (Z2.out.ext xb); have CB := Lib.hid ((PStep.ext (S := f.S) (nv := nv) xb).clr C3.out); have m8 := (B82.out.ext xb).cell; have BB9 := Lib.hid (B9.out.ext xb); have m9 := BB9.out.cell; have CB9 := Lib.hid ((PStep.ext (S := f.S) (nv := nv) xb).clr C9.out); have GB : Hid (w.heap.size < WB.heap.size) := Lib.hid ZB.out.lt; clear xb)
   have HT := Lib.hid (paNamed IH s (by have := HNN.out; omega) HB.out (n := m) (by have := HM.out; omega))
   rw [HLX.out] at HT
   go_wp2_with (go_at_call 98; refine HT.out.mono ?_; rintro e W5 ⟨t, A, c, nv5, r5, ns5, b5, rfl, hres, h5, s5, ht5, hl5⟩; have HRES := Lib.hid hres; have H5 := Lib.hid h5; have S5 := Lib.hid (SB.out.trans s5); have T5 := Lib.hid ht5; have L5 := Lib.hid hl5; have Z5 := Lib.hid (ZB.out.mods s5.mods CB.out.no); have zc := (ZB.out.mods s5.mods CB.out.no).cell; have zf := (ZB.out.mods s5.mods CB.out.no).frozen; clear hres h5 s5 ht5 hl5)
   have G5 : Hid (w.heap.size < WB.heap.size) := GB
   have kb := blk_set4 Z5.out (.int .i64 (Tm.k t)) (.int .i64 (Tm.n t)) (.string (Tm.s t)) (.slice A (Tm.l t).length c)
   have kc := kb.cell
   have h7 := H5.out.set4 HO.out (Nat.le_refl _) Z5.out (.int .i64 (Tm.k t)) (.int .i64 (Tm.n t)) (.string (Tm.s t)) (.slice A (Tm.l t).length c)
   have s7 := pstep_set4 S5.out (Nat.le_refl _) (.int .i64 (Tm.k t)) (.int .i64 (Tm.n t)) (.string (Tm.s t)) (.slice A (Tm.l t).length c)
   have t7 := tmN_wide (w := w) (tmN_set4 T5.out (z := w.heap.size) G5.out (.int .i64 (Tm.k t)) (.int .i64 (Tm.n t)) (.string (Tm.s t)) (.slice A (Tm.l t).length c)) (Nat.le_of_lt G5.out)
   refine bodyPost_ret (v := .tuple #[.agg #[.int .i64 (Tm.k t), .int .i64 (Tm.n t), .string (Tm.s t), .slice A (Tm.l t).length c], .int .i64 0]) ?_ rfl ⟨t, 0, A, c, nv5, r5, ns5, b5, rfl, HRES.out, h7, s7, t7, L5.out⟩
   simp [results, Tryz.results99, go_sem, kc]
  ·have ep2 : ¬ o.p ≤ most := by omega
   go_upto_region 9 with (go_at_call 140; refine HOPN.out.mono ?_; rintro e WB ⟨rfl, xb⟩; have XB := Lib.hid xb; have HB := Lib.hid (H3.out.ext xb); have SB := Lib.hid (S3.out.trans (PStep.ext xb)); have ZB := Lib.hid (Z2.out.ext xb); have CB := Lib.hid ((PStep.ext (S := f.S) (nv := nv) xb).clr C3.out); have m8 := (B82.out.ext xb).cell; have BB9 := Lib.hid (B9.out.ext xb); have m9 := BB9.out.cell; have CB9 := Lib.hid ((PStep.ext (S := f.S) (nv := nv) xb).clr C9.out); have GB : Hid (w.heap.size < WB.heap.size) := Lib.hid ZB.out.lt; clear xb)
   have HT := Lib.hid (paNamed IH s (by have := HNN.out; omega) HB.out (n := m) (by have := HM.out; omega))
   rw [HLX.out] at HT
   go_wp2_with (go_at_call 98; refine HT.out.mono ?_; rintro e W5 ⟨t, A, c, nv5, r5, ns5, b5, rfl, hres, h5, s5, ht5, hl5⟩; have HRES := Lib.hid hres; have H5 := Lib.hid h5; have S5 := Lib.hid (SB.out.trans s5); have T5 := Lib.hid ht5; have L5 := Lib.hid hl5; have Z5 := Lib.hid (ZB.out.mods s5.mods CB.out.no); have zc := (ZB.out.mods s5.mods CB.out.no).cell; have zf := (ZB.out.mods s5.mods CB.out.no).frozen; clear hres h5 s5 ht5 hl5)
   have G5 : Hid (w.heap.size < WB.heap.size) := GB
   have kb := blk_set4 Z5.out (.int .i64 (Tm.k t)) (.int .i64 (Tm.n t)) (.string (Tm.s t)) (.slice A (Tm.l t).length c)
   have kc := kb.cell
   have h7 := H5.out.set4 HO.out (Nat.le_refl _) Z5.out (.int .i64 (Tm.k t)) (.int .i64 (Tm.n t)) (.string (Tm.s t)) (.slice A (Tm.l t).length c)
   have s7 := pstep_set4 S5.out (Nat.le_refl _) (.int .i64 (Tm.k t)) (.int .i64 (Tm.n t)) (.string (Tm.s t)) (.slice A (Tm.l t).length c)
   have t7 := tmN_wide (w := w) (tmN_set4 T5.out (z := w.heap.size) G5.out (.int .i64 (Tm.k t)) (.int .i64 (Tm.n t)) (.string (Tm.s t)) (.slice A (Tm.l t).length c)) (Nat.le_of_lt G5.out)
   refine bodyPost_ret (v := .tuple #[.agg #[.int .i64 (Tm.k t), .int .i64 (Tm.n t), .string (Tm.s t), .slice A (Tm.l t).length c], .int .i64 0]) ?_ rfl ⟨t, 0, A, c, nv5, r5, ns5, b5, rfl, HRES.out, h7, s7, t7, L5.out⟩
   simp [results, Tryz.results99, go_sem, kc]
  ·have EB := Lib.hid eb
   clear eb
   go_upto_region 7 with (go_at_call 140; refine HOPN.out.mono ?_; rintro e WB0 ⟨rfl, xb⟩; have XB0 := Lib.hid xb; have HB0 := Lib.hid (H3.out.ext xb); have SB0 := Lib.hid (S3.out.trans (PStep.ext xb)); have ZB0 := Lib.hid (Z2.out.ext xb); have CB0 := Lib.hid ((PStep.ext (S := f.S) (nv := nv) xb).clr C3.out); have m8 := (B82.out.ext xb).cell; have BB90 := Lib.hid (B9.out.ext xb); have m9 := BB90.out.cell; have CB90 := Lib.hid ((PStep.ext (S := f.S) (nv := nv) xb).clr C9.out); have GB0 : Hid (w.heap.size < WB0.heap.size) := Lib.hid ZB0.out.lt; clear xb)
   have HBG := Lib.hid (paBegins HB0.out)
   rw [EB.out] at HBG
   go_upto_region 9 with (go_at_call 145; refine HBG.out.mono ?_; rintro e WB ⟨rfl, hc, sc⟩; have HB := Lib.hid hc; have SB := Lib.hid (SB0.out.trans sc); have ZB := Lib.hid (ZB0.out.mods sc.mods CB0.out.no); have CB := Lib.hid (sc.clr CB0.out); have GB : Hid (w.heap.size < WB.heap.size) := Lib.hid ZB.out.lt; clear hc sc)
   have HT := Lib.hid (paNamed IH s (by have := HNN.out; omega) HB.out (n := m) (by have := HM.out; omega))
   rw [HLX.out] at HT
   go_wp2_with (go_at_call 98; refine HT.out.mono ?_; rintro e W5 ⟨t, A, c, nv5, r5, ns5, b5, rfl, hres, h5, s5, ht5, hl5⟩; have HRES := Lib.hid hres; have H5 := Lib.hid h5; have S5 := Lib.hid (SB.out.trans s5); have T5 := Lib.hid ht5; have L5 := Lib.hid hl5; have Z5 := Lib.hid (ZB.out.mods s5.mods CB.out.no); have zc := (ZB.out.mods s5.mods CB.out.no).cell; have zf := (ZB.out.mods s5.mods CB.out.no).frozen; clear hres h5 s5 ht5 hl5)
   have G5 : Hid (w.heap.size < WB.heap.size) := GB
   have kb := blk_set4 Z5.out (.int .i64 (Tm.k t)) (.int .i64 (Tm.n t)) (.string (Tm.s t)) (.slice A (Tm.l t).length c)
   have kc := kb.cell
   have h7 := H5.out.set4 HO.out (Nat.le_refl _) Z5.out (.int .i64 (Tm.k t)) (.int .i64 (Tm.n t)) (.string (Tm.s t)) (.slice A (Tm.l t).length c)
   have s7 := pstep_set4 S5.out (Nat.le_refl _) (.int .i64 (Tm.k t)) (.int .i64 (Tm.n t)) (.string (Tm.s t)) (.slice A (Tm.l t).length c)
   have t7 := tmN_wide (w := w) (tmN_set4 T5.out (z := w.heap.size) G5.out (.int .i64 (Tm.k t)) (.int .i64 (Tm.n t)) (.string (Tm.s t)) (.slice A (Tm.l t).length c)) (Nat.le_of_lt G5.out)
   refine bodyPost_ret (v := .tuple #[.agg #[.int .i64 (Tm.k t), .int .i64 (Tm.n t), .string (Tm.s t), .slice A (Tm.l t).length c], .int .i64 0]) ?_ rfl ⟨t, 0, A, c, nv5, r5, ns5, b5, rfl, HRES.out, h7, s7, t7, L5.out⟩
   simp [results, Tryz.results99, go_sem, kc]
 ·rw [e5] at k8
  rcases hb3 with rfl | ⟨rfl, ep⟩ | ⟨rfl, ep, eb⟩
  ·go_upto_region 9 with (go_at_call 140; refine HOPN.out.mono ?_; rintro e WB ⟨rfl, xb⟩; have XB := Lib.hid xb; have HB := Lib.hid (H3.out.ext xb); have SB := Lib.hid (S3.out.trans (PStep.ext xb)); have ZB := Lib.hid (Z2.out.ext xb); have CB := Lib.hid ((PStep.ext (S := f.S) (nv := nv) xb).clr C3.out); have m8 := (B82.out.ext xb).cell; have BB9 := Lib.hid (B9.out.ext xb); have m9 := BB9.out.cell; have CB9 := Lib.hid ((PStep.ext (S := f.S) (nv := nv) xb).clr C9.out); have GB : Hid (w.heap.size < WB.heap.size) := Lib.hid ZB.out.lt; clear xb)
   have HT := Lib.hid (paNamed IH s (by have := HNN.out; omega) HB.out (n := m) (by have := HM.out; omega))
   rw [HLX.out] at HT
   go_wp2_with (go_at_call 98; refine HT.out.mono ?_; rintro e W5 ⟨t, A, c, nv5, r5, ns5, b5, rfl, hres, h5, s5, ht5, hl5⟩; have HRES := Lib.hid hres; have H5 := Lib.hid h5; have S5 := Lib.hid (SB.out.trans s5); have T5 := Lib.hid ht5; have L5 := Lib.hid hl5; have Z5 := Lib.hid (ZB.out.mods s5.mods CB.out.no); have zc := (ZB.out.mods s5.mods CB.out.no).cell; have zf := (ZB.out.mods s5.mods CB.out.no).frozen; clear hres h5 s5 ht5 hl5)
   have G5 : Hid (w.heap.size < WB.heap.size) := GB
   have kb := blk_set4 Z5.out (.int .i64 (Tm.k t)) (.int .i64 (Tm.n t)) (.string (Tm.s t)) (.slice A (Tm.l t).length c)
   have kc := kb.cell
   have h7 := H5.out.set4 HO.out (Nat.le_refl _) Z5.out (.int .i64 (Tm.k t)) (.int .i64 (Tm.n t)) (.string (Tm.s t)) (.slice A (Tm.l t).length c)
   have s7 := pstep_set4 S5.out (Nat.le_refl _) (.int .i64 (Tm.k t)) (.int .i64 (Tm.n t)) (.string (Tm.s t)) (.slice A (Tm.l t).length c)
   have t7 := tmN_wide (w := w) (tmN_set4 T5.out (z := w.heap.size) G5.out (.int .i64 (Tm.k t)) (.int .i64 (Tm.n t)) (.string (Tm.s t)) (.slice A (Tm.l t).length c)) (Nat.le_of_lt G5.out)
   refine bodyPost_ret (v := .tuple #[.agg #[.int .i64 (Tm.k t), .int .i64 (Tm.n t), .string (Tm.s t), .slice A (Tm.l t).length c], .int .i64 0]) ?_ rfl ⟨t, 0, A, c, nv5, r5, ns5, b5, rfl, HRES.out, h7, s7, t7, L5.out⟩
   simp [results, Tryz.results99, go_sem, kc]
  ·have ep2 : ¬ o.p ≤ most := by omega
   go_upto_region 9 with (go_at_call 140; refine HOPN.out.mono ?_; rintro e WB ⟨rfl, xb⟩; have XB := Lib.hid xb; have HB := Lib.hid (H3.out.ext xb); have SB := Lib.hid (S3.out.trans (PStep.ext xb)); have ZB := Lib.hid (Z2.out.ext xb); have CB := Lib.hid ((PStep.ext (S := f.S) (nv := nv) xb).clr C3.out); have m8 := (B82.out.ext xb).cell; have BB9 := Lib.hid (B9.out.ext xb); have m9 := BB9.out.cell; have CB9 := Lib.hid ((PStep.ext (S := f.S) (nv := nv) xb).clr C9.out); have GB : Hid (w.heap.size < WB.heap.size) := Lib.hid ZB.out.lt; clear xb)
   have HT := Lib.hid (paNamed IH s (by have := HNN.out; omega) HB.out (n := m) (by have := HM.out; omega))
   rw [HLX.out] at HT
   go_wp2_with (go_at_call 98; refine HT.out.mono ?_; rintro e W5 ⟨t, A, c, nv5, r5, ns5, b5, rfl, hres, h5, s5, ht5, hl5⟩; have HRES := Lib.hid hres; have H5 := Lib.hid h5; have S5 := Lib.hid (SB.out.trans s5); have T5 := Lib.hid ht5; have L5 := Lib.hid hl5; have Z5 := Lib.hid (ZB.out.mods s5.mods CB.out.no); have zc := (ZB.out.mods s5.mods CB.out.no).cell; have zf := (ZB.out.mods s5.mods CB.out.no).frozen; clear hres h5 s5 ht5 hl5)
   have G5 : Hid (w.heap.size < WB.heap.size) := GB
   have kb := blk_set4 Z5.out (.int .i64 (Tm.k t)) (.int .i64 (Tm.n t)) (.string (Tm.s t)) (.slice A (Tm.l t).length c)
   have kc := kb.cell
   have h7 := H5.out.set4 HO.out (Nat.le_refl _) Z5.out (.int .i64 (Tm.k t)) (.int .i64 (Tm.n t)) (.string (Tm.s t)) (.slice A (Tm.l t).length c)
   have s7 := pstep_set4 S5.out (Nat.le_refl _) (.int .i64 (Tm.k t)) (.int .i64 (Tm.n t)) (.string (Tm.s t)) (.slice A (Tm.l t).length c)
   have t7 := tmN_wide (w := w) (tmN_set4 T5.out (z := w.heap.size) G5.out (.int .i64 (Tm.k t)) (.int .i64 (Tm.n t)) (.string (Tm.s t)) (.slice A (Tm.l t).length c)) (Nat.le_of_lt G5.out)
   refine bodyPost_ret (v := .tuple #[.agg #[.int .i64 (Tm.k t), .int .i64 (Tm.n t), .string (Tm.s t), .slice A (Tm.l t).length c], .int .i64 0]) ?_ rfl ⟨t, 0, A, c, nv5, r5, ns5, b5, rfl, HRES.out, h7, s7, t7, L5.out⟩
   simp [results, Tryz.results99, go_sem, kc]
  ·have EB := Lib.hid eb
   clear eb
   go_upto_region 7 with (go_at_call 140; refine HOPN.out.mono ?_; rintro e WB0 ⟨rfl, xb⟩; have XB0 := Lib.hid xb; have HB0 := Lib.hid (H3.out.ext xb); have SB0 := Lib.hid (S3.out.trans (PStep.ext xb)); have ZB0 := Lib.hid (Z2.out.ext xb); have CB0 := Lib.hid ((PStep.ext (S := f.S) (nv := nv) xb).clr C3.out); have m8 := (B82.out.ext xb).cell; have BB90 := Lib.hid (B9.out.ext xb); have m9 := BB90.out.cell; have CB90 := Lib.hid ((PStep.ext (S := f.S) (nv := nv) xb).clr C9.out); have GB0 : Hid (w.heap.size < WB0.heap.size) := Lib.hid ZB0.out.lt; clear xb)
   have HBG := Lib.hid (paBegins HB0.out)
   rw [EB.out] at HBG
   go_upto_region 9 with (go_at_call 145; refine HBG.out.mono ?_; rintro e WB ⟨rfl, hc, sc⟩; have HB := Lib.hid hc; have SB := Lib.hid (SB0.out.trans sc); have ZB := Lib.hid (ZB0.out.mods sc.mods CB0.out.no); have CB := Lib.hid (sc.clr CB0.out); have GB : Hid (w.heap.size < WB.heap.size) := Lib.hid ZB.out.lt; clear hc sc)
   have HT := Lib.hid (paNamed IH s (by have := HNN.out; omega) HB.out (n := m) (by have := HM.out; omega))
   rw [HLX.out] at HT
   go_wp2_with (go_at_call 98; refine HT.out.mono ?_; rintro e W5 ⟨t, A, c, nv5, r5, ns5, b5, rfl, hres, h5, s5, ht5, hl5⟩; have HRES := Lib.hid hres; have H5 := Lib.hid h5; have S5 := Lib.hid (SB.out.trans s5); have T5 := Lib.hid ht5; have L5 := Lib.hid hl5; have Z5 := Lib.hid (ZB.out.mods s5.mods CB.out.no); have zc := (ZB.out.mods s5.mods CB.out.no).cell; have zf := (ZB.out.mods s5.mods CB.out.no).frozen; clear hres h5 s5 ht5 hl5)
   have G5 : Hid (w.heap.size < WB.heap.size) := GB
   have kb := blk_set4 Z5.out (.int .i64 (Tm.k t)) (.int .i64 (Tm.n t)) (.string (Tm.s t)) (.slice A (Tm.l t).length c)
   have kc := kb.cell
   have h7 := H5.out.set4 HO.out (Nat.le_refl _) Z5.out (.int .i64 (Tm.k t)) (.int .i64 (Tm.n t)) (.string (Tm.s t)) (.slice A (Tm.l t).length c)
   have s7 := pstep_set4 S5.out (Nat.le_refl _) (.int .i64 (Tm.k t)) (.int .i64 (Tm.n t)) (.string (Tm.s t)) (.slice A (Tm.l t).length c)
   have t7 := tmN_wide (w := w) (tmN_set4 T5.out (z := w.heap.size) G5.out (.int .i64 (Tm.k t)) (.int .i64 (Tm.n t)) (.string (Tm.s t)) (.slice A (Tm.l t).length c)) (Nat.le_of_lt G5.out)
   refine bodyPost_ret (v := .tuple #[.agg #[.int .i64 (Tm.k t), .int .i64 (Tm.n t), .string (Tm.s t), .slice A (Tm.l t).length c], .int .i64 0]) ?_ rfl ⟨t, 0, A, c, nv5, r5, ns5, b5, rfl, HRES.out, h7, s7, t7, L5.out⟩
   simp [results, Tryz.results99, go_sem, kc]
end Go.Proofs.YtgcdhffeacdegaaGreatDoor
