/- Layer 10, the program: the walk of row. -/
import Derived.Test.YtgcdhffeacdegaaGreatDoorH23
namespace Go.Proofs.YtgcdhffeacdegaaGreatDoor
open Go.RowKit Go.El
def rowK (O : Ops) (n : Nat) (lim : Bool) (acc : List Tm) (q : List TokV) (ms : List ByteArray) : PR (List Tm) :=
 if isPu q 44 then (if lim = true ∧ 16 ≤ acc.length then .bad q else rowN O n lim acc q.tail ms) else .ok acc q ms
def rowM (O : Ops) (n : Nat) (lim : Bool) (acc : List Tm) (x : PR Tm) : PR (List Tm) := match x with
 | .bad q => .bad q
 | .ok u q ms => rowK O n lim (acc ++ [u]) q ms
theorem rowN_eq (O : Ops) (n : Nat) (lim : Bool) (acc : List Tm) (r : List TokV) (ns : List ByteArray) : rowN O (n + 1) lim acc r ns = rowM O n lim acc (termN O n 999 r ns) := by
 simp only [rowN]
 cases termN O n 999 r ns with
 | bad q => rfl
 | ok u q ms => simp only [rowM, rowK, List.length_append, List.length_singleton]
def RPost (f : PF) (w : World) (nv : Value) (r0 : List TokV) (x : PR (List Tm)) (e : Ending) (w' : World) : Prop :=
 ∃ v M nv' r ns bad, e = .returned v ∧ resIs x (M.map (·.1)) r ns bad ∧ PaAt f w' r nv' ns bad ∧ PStep f.S nv w nv' w' ∧ RowP f w nv' w' v M ∧ M ≠ [] ∧ M.length ≤ 70000 ∧ r.length ≤ r0.length
structure RowSt (f : PF) (w : World) (nv0 : Value) (lim : Bool) (r0 : List TokV) (X : PR (List Tm)) (W : World) (v : Value) (M : List TmP) (nv : Value) (q : List TokV) (ms : List ByteArray) (bad : Bool) : Prop where
 pa : PaAt f W q nv ms bad
 st : PStep f.S nv0 w nv W
 row : RowP f w nv W v M
 ne : M ≠ []
 len : M.length + q.length ≤ r0.length + 1
 r0l : r0.length ≤ 65537
 bd : bad = true → X = .bad q
 ok : bad = false → ∃ n, 5 * q.length + 1 ≤ n ∧ rowK f.O n lim (M.map (·.1)) q ms = X
theorem RowSt.done {f : PF} {w : World} {nv0 : Value} {lim : Bool} {r0 : List TokV} {X : PR (List Tm)} {W : World} {v : Value} {M : List TmP} {nv : Value} {q : List TokV} {ms : List ByteArray} {bad : Bool} (h : RowSt f w nv0 lim r0 X W v M nv q ms bad) (hx : bad = false → isPu q 44 = false) : RPost f w nv0 r0 X (.returned v) W := by
 have hm : 0 < M.length := List.length_pos_iff.2 h.ne
 have := h.len
 have := h.r0l
 refine ⟨v, M, nv, q, ms, bad, rfl, ?_, h.pa, h.st, h.row, h.ne, by omega, by omega⟩
 cases bad with
 | true => rw [h.bd rfl]; exact ⟨rfl, rfl⟩
 | false =>
  obtain ⟨n, _, hk⟩ := h.ok rfl
  rw [← hk]
  unfold rowK
  rw [hx rfl]
  exact ⟨rfl, rfl, rfl, rfl⟩
theorem RowSt.full {f : PF} {w : World} {nv0 : Value} {r0 : List TokV} {X : PR (List Tm)} {W : World} {v : Value} {M : List TmP} {nv : Value} {q : List TokV} {ms : List ByteArray} (h : RowSt f w nv0 true r0 X W v M nv q ms false) (hc : isPu q 44 = true) (hl : 16 ≤ M.length) : X = .bad q := by
 obtain ⟨n, _, hk⟩ := h.ok rfl
 rw [← hk]
 unfold rowK
 rw [hc, if_pos rfl, if_pos ⟨rfl, by simpa using hl⟩]
theorem RowSt.next {f : PF} {w : World} {nv0 : Value} {lim : Bool} {r0 : List TokV} {X : PR (List Tm)} {W : World} {v : Value} {M : List TmP} {nv : Value} {q : List TokV} {ms : List ByteArray} (h : RowSt f w nv0 lim r0 X W v M nv q ms false) (hc : isPu q 44 = true) (hl : ¬ (lim = true ∧ 16 ≤ M.length)) :
  ∃ n, 5 * q.length + 1 ≤ n + 1 ∧ rowM f.O n lim (M.map (·.1)) (termN f.O n 999 q.tail ms) = X := by
 obtain ⟨n, hn, hk⟩ := h.ok rfl
 obtain ⟨m, rfl⟩ : ∃ m, n = m + 1 := ⟨n - 1, by omega⟩
 refine ⟨m, hn, ?_⟩
 rw [← hk, ← rowN_eq]
 unfold rowK
 rw [hc, if_pos rfl, if_neg (by simpa using hl)]
set_option maxRecDepth 100000 in
theorem more_lim (n : Nat) (hn : n ≤ 100000) (w : World) : Calls Tryz.prog 142 #[.int .i64 n] w fun e w' => e = .returned (.bool (decide (n < 16))) ∧ w = w' := by
 go_enter Tryz.func142, Tryz.ntmps142
 go_wp2_with fail
 go_ret
 refine ⟨?_, rfl⟩
 have : decide ((n : Int) < 16) = decide (n < 16) := by rw [decide_eq_decide]; omega
 simp [this]
set_option maxRecDepth 100000 in
theorem more_any (n : Nat) (w : World) : Calls Tryz.prog 168 #[.int .i64 n] w fun e w' => e = .returned (.bool true) ∧ w = w' := by
 go_enter Tryz.func168, Tryz.ntmps168
 go_wp2_with fail
 go_ret
 exact ⟨rfl, rfl⟩
set_option maxRecDepth 100000 in
set_option maxHeartbeats 8000000 in
theorem paRow_lim {f : PF} {N : Nat} (IH : PTermC f N) {r : List TokV} (hN : r.length ≤ N) {w : World} {nv : Value} {ns : List ByteArray} (h : PaAt f w r nv ns false) {n : Nat} (hn : 5 * r.length + 6 ≤ n) :
  Calls Tryz.prog 141 #[.pointer (some ⟨f.pb, 0, none⟩), .func (.func 142) #[] #[]] w (RPost f w nv r (rowN f.O n true [] r ns)) := by
 obtain ⟨i1, hi1, hz0, hz1, hz2⟩ := infoP tmInfo4
 obtain ⟨m, rfl⟩ : ∃ m, n = m + 1 := ⟨n - 1, by omega⟩
 rw [rowN_eq]
 obtain ⟨X, hX⟩ : ∃ X, rowM f.O m true [] (termN f.O m 999 r ns) = X := ⟨_, rfl⟩
 rw [hX]
 have HX := Lib.hid hX
 have HO := Lib.hid h.old
 have HLL : Hid (r.length ≤ 65537) := Lib.hid (Nat.le_trans h.suf.length_le h.toks.len)
 have HT1 := Lib.hid (IH r ns nv w m 999 hN h (by omega))
 have HM := Lib.hid hn
 have hp : f.pb < w.heap.size := h.blk.lt
 have HNN := Lib.hid hN
 clear h hX hn hN
 go_enter Tryz.func141, Tryz.ntmps141
 go_wp2_with (go_at_call 41; refine (HT1).out.mono ?_; rintro e W2 ⟨t, A, c, nv2, q2, ms2, b2, rfl, hres, h2, s2, ht2, hl2⟩; have HRES := Lib.hid hres; have H2 := Lib.hid h2; have S2 := Lib.hid s2; have T2 := Lib.hid ht2; have L2 := Lib.hid hl2; clear hres h2 s2 ht2 hl2)
 have hbd : b2 = true → X = .bad q2 := by
  intro hb
  have hr := HRES.out
  rw [← HX.out]
  revert hr
  cases termN f.O m 999 r ns with
  | bad p =>
   rintro ⟨_, rfl⟩
   rfl
  | ok u p ps =>
   rintro ⟨h1, _⟩
   rw [hb] at h1
   cases h1
 have hok : b2 = false → ∃ n, 5 * q2.length + 1 ≤ n ∧ rowK f.O n true ([(t, A, c)].map (·.1)) q2 ms2 = X := by
  intro hb
  have hr := HRES.out
  rw [← HX.out]
  revert hr
  cases termN f.O m 999 r ns with
  | bad p =>
   rintro ⟨h1, _⟩
   rw [hb] at h1
   cases h1
  | ok u p ps =>
   rintro ⟨_, rfl, rfl, rfl⟩
   exact ⟨m, by have := HM.out; have := L2.out; omega, rfl⟩
 have HR0 : Hid (RowSt f w nv true r X (W2.alloc (.cells #[.int .i64 (Tm.k t), .int .i64 (Tm.n t), .string (Tm.s t), .slice A (Tm.l t).length c] 32)) (.slice (some ⟨W2.heap.size, 0, none⟩) 1 1) [(t, A, c)] nv2 q2 ms2 b2) := Lib.hid ⟨H2.out.ext (ext_box4 _ _), S2.out.trans (PStep.ext (ext_box4 _ _)), RowP.one H2.out HO.out S2.out.mods.size (p := (t, A, c)) T2.out, by simp, by have := L2.out; simp; omega, HLL.out, hbd, hok⟩
 clear hbd hok
 generalize W2.alloc (.cells #[.int .i64 (Tm.k t), .int .i64 (Tm.n t), .string (Tm.s t), .slice A (Tm.l t).length c] 32) = W3 at *
 clear H2 S2 T2 HRES HX HM
 go_loopg [5] q2.length (fun g v wx => ∃ M nvx q ms bx, Hid (RowSt f w nv true r X wx v M nvx q ms bx) ∧ Hid (q.length ≤ g))
 case atStart => exact ⟨_, _, _, _, _, HR0, Lib.hid (Nat.le_refl _)⟩
 case round =>
  clear HR0 L2
  obtain ⟨M, nvx, q, ms, bx, HR, HG⟩ := hrel
  have HS := Lib.hid (paSkip ⟨#[44]⟩ HR.out.pa)
  rw [isPs_lit] at HS
  obtain ⟨Av, cv, hv⟩ := own_value HR.out.row.own
  subst hv
  have hml : M.length ≤ 65538 := by have := HR.out.len; have := HR.out.r0l; omega
  cases bx with
  | true =>
   have HRP := Lib.hid (HR.out.pa)
   have hs : (!true && isPu q 44) = false := rfl
   rw [hs] at HS
   clear hs
   go_wp2_with (go_at_call 138; refine HS.out.mono ?_; rintro e W4 ⟨rfl, h4, s4⟩; have H4 := Lib.hid h4; have S4 := Lib.hid s4; clear h4 s4)
   go_ret
   exact RowSt.done (lim := true) ⟨H4.out, HR.out.st.trans S4.out, HR.out.row.step S4.out, HR.out.ne, HR.out.len, HR.out.r0l, HR.out.bd, HR.out.ok⟩ (fun e => by cases e)
  | false =>
   cases hq : isPu q 44 with
   | false =>
    have hs : (!false && isPu q 44) = false := by rw [hq]; rfl
    rw [hs] at HS
    have HQ := Lib.hid hq
    clear hs hq
    go_wp2_with (go_at_call 138; refine HS.out.mono ?_; rintro e W4 ⟨rfl, h4, s4⟩; have H4 := Lib.hid h4; have S4 := Lib.hid s4; clear h4 s4)
    go_ret
    exact RowSt.done (lim := true) ⟨H4.out, HR.out.st.trans S4.out, HR.out.row.step S4.out, HR.out.ne, HR.out.len, HR.out.r0l, HR.out.bd, HR.out.ok⟩ (fun _ => HQ.out)
   | true =>
    have hs : (!false && isPu q 44) = true := by rw [hq]; rfl
    rw [hs] at HS
    simp only [if_true] at HS
    have HQ := Lib.hid hq
    have hqt : q.tail.length + 1 = q.length := by
     cases q with
     | nil => cases hq
     | cons a b => rfl
    clear hs hq
    by_cases hf : M.length < 16
    ·have hf2 : decide (M.length < 16) = true := by simpa using hf
     have HMO := fun W => Lib.hid (more_lim M.length (by omega) W)
     rw [hf2] at HMO
     have HNX := Lib.hid (HR.out.next HQ.out (by omega))
     clear hf2
     obtain ⟨n4, hn4, hx4⟩ := HNX.out
     have HX4 := Lib.hid hx4
     have HN4 := Lib.hid hn4
     have HQT := Lib.hid hqt
     clear HNX hx4 hn4 hqt
     go_upto_region 6 with (first | (go_at_call 138; refine HS.out.mono ?_; rintro e W4 ⟨rfl, h4, s4⟩; have H4 := Lib.hid h4; have S4 := Lib.hid s4; clear h4 s4) | (go_at_call 142; refine (HMO _).out.mono ?_; rintro e W5 ⟨rfl, rfl⟩))
     have HT4 := Lib.hid (IH q.tail ms nvx W4 n4 999 (by have := HNN.out; have := HR.out.len; have := HQT.out; have : 0 < M.length := List.length_pos_iff.2 HR.out.ne; omega) H4.out (by have := HN4.out; have := HQT.out; omega))
     have R4 := Lib.hid (HR.out.row.step S4.out)
     have P4 := Lib.hid (HR.out.st.trans S4.out)
     go_wp2_with (first | (go_at_call 41; refine HT4.out.mono ?_; rintro e W5 ⟨t5, A5, c5, nv5, q5, ms5, b5, rfl, hres, h5, s5, ht5, hl5⟩; have HRES := Lib.hid hres; have H5 := Lib.hid h5; have S5 := Lib.hid s5; have T5 := Lib.hid ht5; have L5 := Lib.hid hl5; have R5 := Lib.hid (R4.out.step s5); clear hres h5 s5 ht5 hl5) | (at_builtin; refine wpList_append_src (P := Tryz.prog) rfl (.tmp 26) (.tmp 29) 30 rfl 32 i1 _ 4 56 Tryz.underlying30 hi1 hz0 hz1 hz2 rfl (by omega) (.slice Av M.length cv) rfl _ _ _ rfl M.length (flat tmC M) (own_ext R5.out.own (ext_box4 _ _)) (tmC (t5, A5, c5)) (El.Src.new W5 #[.int .i64 (Tm.k t5), .int .i64 (Tm.n t5), .string (Tm.s t5), .slice A5 (Tm.l t5).length c5] 32 1 4 rfl) (tmC_one _) (by unfold maxLen; omega) (by omega) ?_; intro v6 w6 ho6 hm6 hb6; obtain ⟨A6, q6, rfl⟩ := own_value ho6; have HO6 := Lib.hid ho6; have HM6 := Lib.hid hm6; have HB6 := Lib.hid hb6; clear ho6 hm6 hb6))
     go_roundg (q.length - 1)
     case measure => have := HG.out; have := HQT.out; omega
     case rel =>
      have hp6 := R5.out.push H5.out HO.out (P4.out.trans S5.out) (p := (t5, A5, c5)) ((T5.out.mono (fun k hk => ⟨⟨Nat.le_trans P4.out.mods.size hk.1, hk.2⟩, fun e => by have := (R4.out.far k e).2.2.2; have := hk.1; omega⟩))) (ext_box4 _ _) HO6.out HM6.out HB6.out
      refine ⟨M ++ [(t5, A5, c5)], nv5, q5, ms5, b5, Lib.hid ⟨hp6.2.1, hp6.2.2, hp6.1, by simp, by have := HR.out.len; have := L5.out; have := HQT.out; simp; omega, HR.out.r0l, fun hb => ?_, fun hb => ?_⟩, Lib.hid (by have := L5.out; have := HQT.out; omega)⟩
      ·have hr := HRES.out
       rw [← HX4.out]
       revert hr
       cases termN f.O n4 999 q.tail ms with
       | bad p => rintro ⟨_, rfl⟩; rfl
       | ok u p ps => rintro ⟨h1, _⟩; rw [hb] at h1; cases h1
      ·have hr := HRES.out
       rw [← HX4.out]
       revert hr
       cases termN f.O n4 999 q.tail ms with
       | bad p => rintro ⟨h1, _⟩; rw [hb] at h1; cases h1
       | ok u p ps =>
        rintro ⟨_, rfl, rfl, rfl⟩
        exact ⟨n4, by have := HN4.out; have := L5.out; have := HQT.out; omega, by simp [rowM]⟩
    ·have hf2 : decide (M.length < 16) = false := by simpa using hf
     have HMO := fun W => Lib.hid (more_lim M.length (by omega) W)
     rw [hf2] at HMO
     have HBAD := Lib.hid (HR.out.full HQ.out (by omega))
     clear hf2
     go_upto_region 4 with (first | (go_at_call 138; refine HS.out.mono ?_; rintro e W4 ⟨rfl, h4, s4⟩; have H4 := Lib.hid h4; have S4 := Lib.hid s4; clear h4 s4) | (go_at_call 142; refine (HMO _).out.mono ?_; rintro e W5 ⟨rfl, rfl⟩))
     have hpl := plI_tail HR.out.pa.suf (show q = q.headD zeroT :: q.tail by cases q with | nil => simp at hqt | cons a b => rfl)
     have hkL := plI_lt H4.out.suf H4.out.nil
     have hLL := H4.out.toks.len
     have c1 := H4.out.cells.c1
     have f1 := H4.out.blk.frozen 1
     have HPL := Lib.hid hpl
     have s1 := H4.out.setI HR.out.pa.suf HR.out.pa.nil HR.out.pa.nl ((plI f.L q.tail : Int) - 1) (by rw [hpl]; simp)
     have H6 := Lib.hid s1.1
     have S6 := Lib.hid (S4.out.trans s1.2)
     have hk1 : 1 ≤ plI f.L q.tail := by omega
     clear s1 hpl hqt hf
     generalize plI f.L q.tail = k at *
     go_upto_region 5 with fail
     generalize W4.setCell ⟨f.pb, 1, none⟩ (.int .i64 ((k : Int) - 1)) = W6 at *
     clear c1 f1 H4 S4
     have c5 := H6.out.cells.c5
     have f5 := H6.out.blk.frozen 5
     have s1 := H6.out.setB true
     have H7 := Lib.hid s1.1
     have S7 := Lib.hid (S6.out.trans s1.2)
     clear s1
     go_wp2_with fail
     go_ret
     exact RowSt.done (lim := true) ⟨H7.out, HR.out.st.trans S7.out, HR.out.row.step S7.out, HR.out.ne, HR.out.len, HR.out.r0l, fun _ => HBAD.out, fun e => by cases e⟩ (fun e => by cases e)
set_option maxRecDepth 100000 in
set_option maxHeartbeats 8000000 in
theorem paRow_all {f : PF} {N : Nat} (IH : PTermC f N) {r : List TokV} (hN : r.length ≤ N) {w : World} {nv : Value} {ns : List ByteArray} (h : PaAt f w r nv ns false) {n : Nat} (hn : 5 * r.length + 6 ≤ n) :
  Calls Tryz.prog 141 #[.pointer (some ⟨f.pb, 0, none⟩), .func (.func 168) #[] #[]] w (RPost f w nv r (rowN f.O n false [] r ns)) := by
 obtain ⟨i1, hi1, hz0, hz1, hz2⟩ := infoP tmInfo4
 obtain ⟨m, rfl⟩ : ∃ m, n = m + 1 := ⟨n - 1, by omega⟩
 rw [rowN_eq]
 obtain ⟨X, hX⟩ : ∃ X, rowM f.O m false [] (termN f.O m 999 r ns) = X := ⟨_, rfl⟩
 rw [hX]
 have HX := Lib.hid hX
 have HO := Lib.hid h.old
 have HLL : Hid (r.length ≤ 65537) := Lib.hid (Nat.le_trans h.suf.length_le h.toks.len)
 have HT1 := Lib.hid (IH r ns nv w m 999 hN h (by omega))
 have HM := Lib.hid hn
 have hp : f.pb < w.heap.size := h.blk.lt
 have HNN := Lib.hid hN
 clear h hX hn hN
 go_enter Tryz.func141, Tryz.ntmps141
 go_wp2_with (go_at_call 41; refine (HT1).out.mono ?_; rintro e W2 ⟨t, A, c, nv2, q2, ms2, b2, rfl, hres, h2, s2, ht2, hl2⟩; have HRES := Lib.hid hres; have H2 := Lib.hid h2; have S2 := Lib.hid s2; have T2 := Lib.hid ht2; have L2 := Lib.hid hl2; clear hres h2 s2 ht2 hl2)
 have hbd : b2 = true → X = .bad q2 := by
  intro hb
  have hr := HRES.out
  rw [← HX.out]
  revert hr
  cases termN f.O m 999 r ns with
  | bad p =>
   rintro ⟨_, rfl⟩
   rfl
  | ok u p ps =>
   rintro ⟨h1, _⟩
   rw [hb] at h1
   cases h1
 have hok : b2 = false → ∃ n, 5 * q2.length + 1 ≤ n ∧ rowK f.O n false ([(t, A, c)].map (·.1)) q2 ms2 = X := by
  intro hb
  have hr := HRES.out
  rw [← HX.out]
  revert hr
  cases termN f.O m 999 r ns with
  | bad p =>
   rintro ⟨h1, _⟩
   rw [hb] at h1
   cases h1
  | ok u p ps =>
   rintro ⟨_, rfl, rfl, rfl⟩
   exact ⟨m, by have := HM.out; have := L2.out; omega, rfl⟩
 have HR0 : Hid (RowSt f w nv false r X (W2.alloc (.cells #[.int .i64 (Tm.k t), .int .i64 (Tm.n t), .string (Tm.s t), .slice A (Tm.l t).length c] 32)) (.slice (some ⟨W2.heap.size, 0, none⟩) 1 1) [(t, A, c)] nv2 q2 ms2 b2) := Lib.hid ⟨H2.out.ext (ext_box4 _ _), S2.out.trans (PStep.ext (ext_box4 _ _)), RowP.one H2.out HO.out S2.out.mods.size (p := (t, A, c)) T2.out, by simp, by have := L2.out; simp; omega, HLL.out, hbd, hok⟩
 clear hbd hok
 generalize W2.alloc (.cells #[.int .i64 (Tm.k t), .int .i64 (Tm.n t), .string (Tm.s t), .slice A (Tm.l t).length c] 32) = W3 at *
 clear H2 S2 T2 HRES HX HM
 go_loopg [5] q2.length (fun g v wx => ∃ M nvx q ms bx, Hid (RowSt f w nv false r X wx v M nvx q ms bx) ∧ Hid (q.length ≤ g))
 case atStart => exact ⟨_, _, _, _, _, HR0, Lib.hid (Nat.le_refl _)⟩
 case round =>
  clear HR0 L2
  obtain ⟨M, nvx, q, ms, bx, HR, HG⟩ := hrel
  have HS := Lib.hid (paSkip ⟨#[44]⟩ HR.out.pa)
  rw [isPs_lit] at HS
  obtain ⟨Av, cv, hv⟩ := own_value HR.out.row.own
  subst hv
  have hml : M.length ≤ 65538 := by have := HR.out.len; have := HR.out.r0l; omega
  cases bx with
  | true =>
   have HRP := Lib.hid (HR.out.pa)
   have hs : (!true && isPu q 44) = false := rfl
   rw [hs] at HS
   clear hs
   go_wp2_with (go_at_call 138; refine HS.out.mono ?_; rintro e W4 ⟨rfl, h4, s4⟩; have H4 := Lib.hid h4; have S4 := Lib.hid s4; clear h4 s4)
   go_ret
   exact RowSt.done (lim := false) ⟨H4.out, HR.out.st.trans S4.out, HR.out.row.step S4.out, HR.out.ne, HR.out.len, HR.out.r0l, HR.out.bd, HR.out.ok⟩ (fun e => by cases e)
  | false =>
   cases hq : isPu q 44 with
   | false =>
    have hs : (!false && isPu q 44) = false := by rw [hq]; rfl
    rw [hs] at HS
    have HQ := Lib.hid hq
    clear hs hq
    go_wp2_with (go_at_call 138; refine HS.out.mono ?_; rintro e W4 ⟨rfl, h4, s4⟩; have H4 := Lib.hid h4; have S4 := Lib.hid s4; clear h4 s4)
    go_ret
    exact RowSt.done (lim := false) ⟨H4.out, HR.out.st.trans S4.out, HR.out.row.step S4.out, HR.out.ne, HR.out.len, HR.out.r0l, HR.out.bd, HR.out.ok⟩ (fun _ => HQ.out)
   | true =>
    have hs : (!false && isPu q 44) = true := by rw [hq]; rfl
    rw [hs] at HS
    simp only [if_true] at HS
    have HQ := Lib.hid hq
    have hqt : q.tail.length + 1 = q.length := by
     cases q with
     | nil => cases hq
     | cons a b => rfl
    clear hs hq
    have HMO := fun W => Lib.hid (more_any M.length W)
    have HNX := Lib.hid (HR.out.next HQ.out (by simp))
    obtain ⟨n4, hn4, hx4⟩ := HNX.out
    have HX4 := Lib.hid hx4
    have HN4 := Lib.hid hn4
    have HQT := Lib.hid hqt
    clear HNX hx4 hn4 hqt
    go_upto_region 6 with (first | (go_at_call 138; refine HS.out.mono ?_; rintro e W4 ⟨rfl, h4, s4⟩; have H4 := Lib.hid h4; have S4 := Lib.hid s4; clear h4 s4) | (go_at_call 168; refine (HMO _).out.mono ?_; rintro e W5 ⟨rfl, rfl⟩))
    have HT4 := Lib.hid (IH q.tail ms nvx W4 n4 999 (by have := HNN.out; have := HR.out.len; have := HQT.out; have : 0 < M.length := List.length_pos_iff.2 HR.out.ne; omega) H4.out (by have := HN4.out; have := HQT.out; omega))
    have R4 := Lib.hid (HR.out.row.step S4.out)
    have P4 := Lib.hid (HR.out.st.trans S4.out)
    go_wp2_with (first | (go_at_call 41; refine HT4.out.mono ?_; rintro e W5 ⟨t5, A5, c5, nv5, q5, ms5, b5, rfl, hres, h5, s5, ht5, hl5⟩; have HRES := Lib.hid hres; have H5 := Lib.hid h5; have S5 := Lib.hid s5; have T5 := Lib.hid ht5; have L5 := Lib.hid hl5; have R5 := Lib.hid (R4.out.step s5); clear hres h5 s5 ht5 hl5) | (at_builtin; refine wpList_append_src (P := Tryz.prog) rfl (.tmp 26) (.tmp 29) 30 rfl 32 i1 _ 4 56 Tryz.underlying30 hi1 hz0 hz1 hz2 rfl (by omega) (.slice Av M.length cv) rfl _ _ _ rfl M.length (flat tmC M) (own_ext R5.out.own (ext_box4 _ _)) (tmC (t5, A5, c5)) (El.Src.new W5 #[.int .i64 (Tm.k t5), .int .i64 (Tm.n t5), .string (Tm.s t5), .slice A5 (Tm.l t5).length c5] 32 1 4 rfl) (tmC_one _) (by unfold maxLen; omega) (by omega) ?_; intro v6 w6 ho6 hm6 hb6; obtain ⟨A6, q6, rfl⟩ := own_value ho6; have HO6 := Lib.hid ho6; have HM6 := Lib.hid hm6; have HB6 := Lib.hid hb6; clear ho6 hm6 hb6))
    go_roundg (q.length - 1)
    case measure => have := HG.out; have := HQT.out; omega
    case rel =>
     have hp6 := R5.out.push H5.out HO.out (P4.out.trans S5.out) (p := (t5, A5, c5)) ((T5.out.mono (fun k hk => ⟨⟨Nat.le_trans P4.out.mods.size hk.1, hk.2⟩, fun e => by have := (R4.out.far k e).2.2.2; have := hk.1; omega⟩))) (ext_box4 _ _) HO6.out HM6.out HB6.out
     refine ⟨M ++ [(t5, A5, c5)], nv5, q5, ms5, b5, Lib.hid ⟨hp6.2.1, hp6.2.2, hp6.1, by simp, by have := HR.out.len; have := L5.out; have := HQT.out; simp; omega, HR.out.r0l, fun hb => ?_, fun hb => ?_⟩, Lib.hid (by have := L5.out; have := HQT.out; omega)⟩
     ·have hr := HRES.out
      rw [← HX4.out]
      revert hr
      cases termN f.O n4 999 q.tail ms with
      | bad p => rintro ⟨_, rfl⟩; rfl
      | ok u p ps => rintro ⟨h1, _⟩; rw [hb] at h1; cases h1
     ·have hr := HRES.out
      rw [← HX4.out]
      revert hr
      cases termN f.O n4 999 q.tail ms with
      | bad p => rintro ⟨h1, _⟩; rw [hb] at h1; cases h1
      | ok u p ps =>
       rintro ⟨_, rfl, rfl, rfl⟩
       exact ⟨n4, by have := HN4.out; have := L5.out; have := HQT.out; omega, by simp [rowM]⟩
end Go.Proofs.YtgcdhffeacdegaaGreatDoor

/- Layer 10, the program: the walks of named, closed. -/
namespace Go.Proofs.YtgcdhffeacdegaaGreatDoor
open Go.RowKit Go.El
def wantM {α β : Type} (c : UInt8) (g : α → β) (x : PR α) : PR β := match x with
 | .bad q => .bad q
 | .ok a q ms => wantP c (g a) q ms
theorem want_res {α β : Type} {c : UInt8} {g : α → β} {x : PR α} {a : α} {r : List TokV} {ns : List ByteArray} {bad : Bool} (h : resIs x a r ns bad) :
  resIs (wantM c g x) (g a) (if (!bad && isPu r c) = true then r.tail else r) ns (bad || !isPu r c) := by
 cases x with
 | bad q =>
  obtain ⟨rfl, rfl⟩ := h
  exact ⟨rfl, rfl⟩
 | ok b q ms =>
  obtain ⟨rfl, rfl, rfl, rfl⟩ := h
  show resIs (wantP c (g b) q ms) _ _ _ _
  unfold wantP
  cases isPu q c
  ·exact ⟨rfl, rfl⟩
  ·exact ⟨rfl, rfl, rfl, rfl⟩
theorem namedN_eq (O : Ops) (n : Nat) (s : ByteArray) (r : List TokV) (ns : List ByteArray) : namedN O (n + 1) s r ns = if opensB r then wantM 41 (fun l => (compT s l, (0 : Int))) (rowN O n true [] r.tail ns) else .ok (atomT s, 0) r ns := by
 simp only [namedN]
 split
 ·cases rowN O n true [] r.tail ns <;> rfl
 ·rfl
def NPost {α : Type} (g : Tm → α) (f : PF) (w : World) (nv : Value) (r0 : List TokV) (x : PR α) (e : Ending) (w' : World) : Prop :=
 ∃ t A c nv' r ns bad, e = .returned (.agg #[.int .i64 (Tm.k t), .int .i64 (Tm.n t), .string (Tm.s t), .slice A (Tm.l t).length c]) ∧ resIs x (g t) r ns bad ∧ PaAt f w' r nv' ns bad ∧ PStep f.S nv w nv' w' ∧ TmIn (NewT f.S nv' w w') w' t A c ∧ r.length ≤ r0.length
def g0 (t : Tm) : Tm × Int := (t, 0)
theorem tail_le (r : List TokV) (b : Bool) : (if b = true then r.tail else r).length ≤ r.length := by
 cases b
 ·exact Nat.le_refl _
 ·simp
set_option maxRecDepth 100000 in
set_option maxHeartbeats 8000000 in
theorem paNamed {f : PF} {N : Nat} (IH : PTermC f N) (s : ByteArray) {r : List TokV} (hN : r.length ≤ N + 1) {w : World} {nv : Value} {ns : List ByteArray} (h : PaAt f w r nv ns false) {n : Nat} (hn : 5 * r.length + 2 ≤ n) :
  Calls Tryz.prog 98 #[.pointer (some ⟨f.pb, 0, none⟩), .string s] w (NPost g0 f w nv r (namedN f.O n s r ns)) := by
 obtain ⟨m, rfl⟩ : ∃ m, n = m + 1 := ⟨n - 1, by omega⟩
 rw [namedN_eq]
 have hx := ext_box4 w (.cells #[.int .i64 0, .int .i64 0, .string ⟨#[]⟩, .slice none 0 0] 32)
 have HO := Lib.hid h.old
 have HOP := Lib.hid (paOpens (h.ext hx))
 have H := Lib.hid (h.ext hx)
 have HX := Lib.hid hx
 have HZ := Lib.hid (Blk.new w 32 #[.int .i64 0, .int .i64 0, .string ⟨#[]⟩, .slice none 0 0])
 have hp : f.pb < w.heap.size := h.blk.lt
 cases ho : opensB r
 ·rw [ho] at HOP
  have hif : (if false = true then wantM 41 (fun l => (compT s l, (0 : Int))) (rowN f.O m true [] r.tail ns) else PR.ok (atomT s, 0) r ns) = PR.ok (atomT s, 0) r ns := rfl
  rw [hif]
  have HA := fun W => Lib.hid (pAtom_any s W)
  clear h hx ho hif hn hN
  go_enter Tryz.func98, Tryz.ntmps98
  go_wp2_with (first | (go_at_call 140; refine HOP.out.mono ?_; rintro e W1 ⟨rfl, x1⟩; have X1 := Lib.hid x1; clear x1) | (go_at_call 103; refine (HA _).out.mono ?_; rintro e W2 ⟨rfl, x2⟩; have X2 := Lib.hid (X1.out.trans x2); have Z2 := Lib.hid (HZ.out.ext X2.out); have zc := Z2.out.cell; have zf := Z2.out.frozen; clear x2))
  have kb := blk_set4 Z2.out (.int .i64 3) (.int .i64 0) (.string s) (.slice none 0 0)
  have kc := kb.cell
  have h4 := (H.out.ext X2.out).set4 HO.out (Nat.le_refl _) Z2.out (.int .i64 3) (.int .i64 0) (.string s) (.slice none 0 0)
  have s4 := pstep_set4 (PStep.ext (S := f.S) (nv := nv) (HX.out.trans X2.out)) (Nat.le_refl _) (.int .i64 3) (.int .i64 0) (.string s) (.slice none 0 0)
  refine bodyPost_ret (v := .agg #[.int .i64 3, .int .i64 0, .string s, .slice none 0 0]) ?_ rfl ⟨atomT s, none, 0, nv, r, ns, false, rfl, ⟨rfl, rfl, rfl, rfl⟩, h4, s4, TmsIn.term (TmsIn.nil _ _ _ _) 3 0 s, Nat.le_refl _⟩
  simp [results, Tryz.results98, go_sem, kc]
 ·rw [ho] at HOP
  have hif : (if true = true then wantM 41 (fun l => (compT s l, (0 : Int))) (rowN f.O m true [] r.tail ns) else PR.ok (atomT s, 0) r ns) = wantM 41 (fun l => (compT s l, (0 : Int))) (rowN f.O m true [] r.tail ns) := rfl
  rw [hif]
  have hpu : isPs r ⟨#[40]⟩ = true := by
   rw [isPs_lit]
   unfold opensB at ho
   rw [Bool.and_eq_true] at ho
   exact ho.1
  obtain ⟨t1, t2, t3⟩ := isPs_tail h.toks h.suf hpu
  have htl : r.tail.length + 1 = r.length := by
   cases r with
   | nil => cases hpu
   | cons a b => rfl
  have hl := h.nl
  have hkL := plI_lt h.suf h.nil
  have hLL := h.toks.len
  have HT := Lib.hid t3
  have HL : Hid (ns.length + r.tail.length ≤ f.L.length) := Lib.hid (by omega)
  have HNN := Lib.hid hN
  have HM := Lib.hid hn
  have HTL := Lib.hid htl
  have HOW := Lib.hid (fun k (hk : nv.ownBlock = some k) => (own_lt h.own hk : k < w.heap.size))
  have HSZ := Lib.hid (World.size_alloc w (.cells #[.int .i64 0, .int .i64 0, .string ⟨#[]⟩, .slice none 0 0] 32))
  clear h hx ho hif hn hN hpu t3 hl htl
  go_enter Tryz.func98, Tryz.ntmps98
  go_upto_region 3 with (go_at_call 140; refine HOP.out.mono ?_; rintro e W1 ⟨rfl, x1⟩; have X1 := Lib.hid x1; clear x1)
  have H1 := Lib.hid (H.out.ext X1.out)
  have Z1 := Lib.hid (HZ.out.ext X1.out)
  have SZ1 : Hid (w.heap.size + 1 ≤ W1.heap.size) := Lib.hid (by have := HSZ.out; have := X1.out.size; omega)
  have s1 := H1.out.setI t1 t2 HL.out ((plI f.L r : Int) + 1) (by rw [HT.out]; omega)
  have H2 := Lib.hid s1.1
  have S2 := Lib.hid ((PStep.ext (S := f.S) (nv := nv) (HX.out.trans X1.out)).trans s1.2)
  have Z2 : Hid (Blk (W1.setCell ⟨f.pb, 1, none⟩ (.int .i64 ((plI f.L r : Int) + 1))) w.heap.size 32 #[.int .i64 0, .int .i64 0, .string ⟨#[]⟩, .slice none 0 0]) := Lib.hid (Z1.out.far (p := ⟨f.pb, 1, none⟩) (by simp; omega) _)
  have SZ2 : Hid (w.heap.size + 1 ≤ (W1.setCell ⟨f.pb, 1, none⟩ (.int .i64 ((plI f.L r : Int) + 1))).heap.size) := Lib.hid (by have := SZ1.out; simpa using this)
  have c1 := H1.out.cells.c1
  have f1 := H1.out.blk.frozen 1
  generalize plI f.L r = k at *
  clear s1 H HX HZ HOP X1 HT HSZ
  go_upto_region 4 with fail
  generalize W1.setCell ⟨f.pb, 1, none⟩ (.int .i64 ((k : Int) + 1)) = W2 at *
  clear c1 f1 H1 Z1 SZ1
  have HR := Lib.hid (paRow_lim IH (r := r.tail) (by have := HNN.out; have := HTL.out; omega) H2.out (n := m) (by have := HM.out; have := HTL.out; omega))
  go_upto_region 5 with (go_at_call 141; refine HR.out.mono ?_; rintro e W3 ⟨v3, M, nv3, r3, ns3, b3, rfl, hres, h3, s3, hr3, hne, hml, hl3⟩; obtain ⟨A3, c3, rfl⟩ := own_value hr3.own; have HRES := Lib.hid hres; have H3 := Lib.hid h3; have S3 := Lib.hid s3; have R3 := Lib.hid hr3; have HNE := Lib.hid hne; have HML := Lib.hid hml; have HL3 := Lib.hid hl3; clear hres h3 s3 hr3 hne hml hl3)
  have CZ := Lib.hid (clr2_new (S := f.S) (nv := nv) (w := w) (w' := W2) (fun q hq => by simp [PF.S] at hq; obtain ⟨o1, o2, _⟩ := HO.out; rcases hq with rfl | rfl <;> omega) HOW.out (Nat.le_refl _) Z2.out.lt)
  have Z3 : Hid (Blk W3 w.heap.size 32 #[.int .i64 0, .int .i64 0, .string ⟨#[]⟩, .slice none 0 0]) := Lib.hid (Z2.out.mods S3.out.mods CZ.out.no)
  have HW := Lib.hid (paWant ⟨#[41]⟩ H3.out)
  rw [isPs_lit] at HW
  go_upto_region 6 with (go_at_call 143; refine HW.out.mono ?_; rintro e W4 ⟨rfl, h4, s4⟩; have H4 := Lib.hid h4; have S4 := Lib.hid s4; clear h4 s4)
  have R4 := Lib.hid (R3.out.step S4.out)
  have Z4 : Hid (Blk W4 w.heap.size 32 #[.int .i64 0, .int .i64 0, .string ⟨#[]⟩, .slice none 0 0]) := Lib.hid (Z3.out.mods S4.out.mods (S3.out.clr CZ.out).no)
  have HC := Lib.hid (pComp_any s M A3 c3 W4 _ (Src.of_own R4.out.own) R4.out.kid HNE.out HML.out)
  go_wp2_with (go_at_call 67; refine HC.out.mono ?_; rintro e W5 ⟨A5, c5, rfl, ht5, hx5⟩; have T5 := Lib.hid ht5; have X5 := Lib.hid hx5; have Z5 := Lib.hid (Z4.out.ext hx5); have zc := (Z4.out.ext hx5).cell; have zf := (Z4.out.ext hx5).frozen; clear ht5 hx5)
  have kb := blk_set4 Z5.out (.int .i64 4) (.int .i64 0) (.string s) (.slice A5 M.length c5)
  have kc := kb.cell
  have h7 := (H4.out.ext X5.out).set4 HO.out (Nat.le_refl _) Z5.out (.int .i64 4) (.int .i64 0) (.string s) (.slice A5 M.length c5)
  have s7 := pstep_set4 (S2.out.trans (S3.out.trans (S4.out.trans (PStep.ext X5.out)))) (Nat.le_refl _) (.int .i64 4) (.int .i64 0) (.string s) (.slice A5 M.length c5)
  have hnew : TmIn (NewT f.S nv3 W2 W5) W5 (.mk 4 0 s (M.map (·.1))) A5 c5 := T5.out.mono (fun k hk => by
   rcases hk with ⟨hk, _⟩ | ⟨h1, h2⟩
   ·exact hk.step (PStep.ext X5.out)
   ·refine ⟨Nat.le_trans (Nat.le_trans S3.out.size S4.out.size) h1, clr2_new (w := W4) (fun q hq => ?_) (fun q hq => own_lt H4.out.own hq) h1 h2⟩
    simp [PF.S] at hq
    have := (Nat.le_trans S3.out.size S4.out.size)
    have := SZ2.out
    obtain ⟨o1, o2, _⟩ := HO.out
    rcases hq with rfl | rfl <;> omega)
  have t7 := tmN_wide (w := w) (tmN_set4 hnew (z := w.heap.size) (by have := SZ2.out; omega) (.int .i64 4) (.int .i64 0) (.string s) (.slice A5 M.length c5)) (by have := SZ2.out; omega)
  have hcomp : compT s (M.map (·.1)) = .mk 4 0 s (M.map (·.1)) := if_neg (by have := HNE.out; simpa using this)
  have hres := want_res (c := 41) (g := fun l => (compT s l, (0 : Int))) HRES.out
  refine bodyPost_ret (v := .agg #[.int .i64 4, .int .i64 0, .string s, .slice A5 M.length c5]) ?_ rfl ⟨.mk 4 0 s (M.map (fun (p : TmP) => p.1)), A5, c5, nv3, _, _, _, by simp [Tm.k, Tm.n, Tm.s, Tm.l], ?_, h7, s7, t7, Nat.le_trans (tail_le _ _) (Nat.le_trans HL3.out (by simp))⟩
  ·simp [results, Tryz.results98, go_sem, kc]
  ·unfold g0
   rw [← hcomp]
   exact hres
end Go.Proofs.YtgcdhffeacdegaaGreatDoor

/- Layer 10, the program: the walk of closed. -/
namespace Go.Proofs.YtgcdhffeacdegaaGreatDoor
open Go.RowKit Go.El
theorem clr_box {f : PF} {w : World} {r : List TokV} {nv : Value} {ns : List ByteArray} {bad : Bool} (h : PaAt f w r nv ns bad) {k : Nat} (h1 : w.heap.size ≤ k) {W : World} (h2 : k < W.heap.size) : Clr2 f.S nv W k :=
 clr2_new (w := w) (fun q hq => by simp [PF.S] at hq; obtain ⟨o1, o2, _⟩ := h.old; rcases hq with rfl | rfl <;> omega) (fun _ hk => own_lt h.own hk) h1 h2
theorem want_map {α β : Type} {c : UInt8} {x : PR α} {g : α → β} {a : α} {r : List TokV} {ns : List ByteArray} {bad : Bool} (h : resIs (wantM c id x) a r ns bad) : resIs (wantM c g x) (g a) r ns bad := by
 cases x with
 | bad q => exact h
 | ok b q ms =>
  have h2 : resIs (wantP c b q ms) a r ns bad := h
  show resIs (wantP c (g b) q ms) (g a) r ns bad
  unfold wantP at h2 ⊢
  cases hi : isPu q c
  ·rw [hi] at h2
   exact h2
  ·rw [hi] at h2
   obtain ⟨h3, h4, h5, h6⟩ := h2
   exact ⟨h3, by rw [h4], h5, h6⟩
set_option maxRecDepth 100000 in
set_option maxHeartbeats 8000000 in
theorem paClosed {f : PF} {N : Nat} (IH : PTermC f N) (c : UInt8) {r : List TokV} (hN : r.length ≤ N) {w : World} {nv : Value} {ns : List ByteArray} (h : PaAt f w r nv ns false) {n : Nat} (hn : 5 * r.length + 5 ≤ n) :
  Calls Tryz.prog 137 #[.pointer (some ⟨f.pb, 0, none⟩), .string ⟨#[c]⟩] w (TPost f w nv r (wantM c id (termN f.O n 1200 r ns))) := by
 have hx := ext_box4 w (.cells #[.int .i64 0, .int .i64 0, .string ⟨#[]⟩, .slice none 0 0] 32)
 have HO := Lib.hid h.old
 have HT := Lib.hid (IH r ns nv (w.alloc (.cells #[.int .i64 0, .int .i64 0, .string ⟨#[]⟩, .slice none 0 0] 32)) n 1200 hN (h.ext hx) hn)
 have HZ := Lib.hid (Blk.new w 32 #[.int .i64 0, .int .i64 0, .string ⟨#[]⟩, .slice none 0 0])
 have HC := Lib.hid (clr_box h (Nat.le_refl _) HZ.out.lt)
 have HX := Lib.hid hx
 have HSZ := Lib.hid (World.size_alloc w (.cells #[.int .i64 0, .int .i64 0, .string ⟨#[]⟩, .slice none 0 0] 32))
 have hp : f.pb < w.heap.size := h.blk.lt
 clear h hx hN hn
 go_enter Tryz.func137, Tryz.ntmps137
 go_upto_region 2 with (go_at_call 41; refine HT.out.mono ?_; rintro e W1 ⟨t, A, c1, nv1, r1, ns1, b1, rfl, hres, h1, s1, ht1, hl1⟩; have HRES := Lib.hid hres; have H1 := Lib.hid h1; have S1 := Lib.hid s1; have T1 := Lib.hid ht1; have L1 := Lib.hid hl1; clear hres h1 s1 ht1 hl1)
 have hx1 := ext_box4 W1 (.cells #[.int .i64 (Tm.k t), .int .i64 (Tm.n t), .string (Tm.s t), .slice A (Tm.l t).length c1] 32)
 have H2 := Lib.hid (H1.out.ext hx1)
 have S2 := Lib.hid (S1.out.trans (PStep.ext hx1))
 have T2 := Lib.hid (pstep_tmN (PStep.ext hx1) T1.out)
 have Z2 := Lib.hid ((HZ.out.mods S1.out.mods HC.out.no).ext hx1)
 have C2 := Lib.hid (S2.out.clr HC.out)
 have B2 := Lib.hid (Blk.new W1 32 #[.int .i64 (Tm.k t), .int .i64 (Tm.n t), .string (Tm.s t), .slice A (Tm.l t).length c1])
 have D2 := Lib.hid (clr_box H1.out (Nat.le_refl _) B2.out.lt)
 have hg : w.heap.size < W1.heap.size := by have := S1.out.size; have := HSZ.out; omega
 clear H1 S1 T1 HZ HC HT hx1
 generalize W1.alloc (.cells #[.int .i64 (Tm.k t), .int .i64 (Tm.n t), .string (Tm.s t), .slice A (Tm.l t).length c1] 32) = W2 at *
 have HW := Lib.hid (paWant ⟨#[c]⟩ H2.out)
 rw [isPs_lit] at HW
 go_upto_region 3 with (go_at_call 143; refine HW.out.mono ?_; rintro e W3 ⟨rfl, h3, s3⟩; have H3 := Lib.hid h3; have S3 := Lib.hid s3; clear h3 s3)
 have b3 := B2.out.mods S3.out.mods D2.out.no
 have z3 := Z2.out.mods S3.out.mods C2.out.no
 have k3 := b3.cell
 have zc := z3.cell
 have zf := z3.frozen
 have Z3 := Lib.hid z3
 clear z3 b3
 have S4 := Lib.hid (HX.out)
 go_wp2_with fail
 have kb := blk_set4 Z3.out (.int .i64 (Tm.k t)) (.int .i64 (Tm.n t)) (.string (Tm.s t)) (.slice A (Tm.l t).length c1)
 have kc := kb.cell
 have h7 := H3.out.set4 HO.out (Nat.le_refl _) Z3.out (.int .i64 (Tm.k t)) (.int .i64 (Tm.n t)) (.string (Tm.s t)) (.slice A (Tm.l t).length c1)
 have s7 := pstep_set4 ((PStep.ext (S := f.S) (nv := nv) HX.out).trans (S2.out.trans S3.out)) (Nat.le_refl _) (.int .i64 (Tm.k t)) (.int .i64 (Tm.n t)) (.string (Tm.s t)) (.slice A (Tm.l t).length c1)
 have t7 := tmN_wide (w := w) (tmN_set4 (pstep_tmN S3.out T2.out) (z := w.heap.size) (by rw [HSZ.out]; omega) (.int .i64 (Tm.k t)) (.int .i64 (Tm.n t)) (.string (Tm.s t)) (.slice A (Tm.l t).length c1)) HX.out.size
 refine bodyPost_ret (v := .agg #[.int .i64 (Tm.k t), .int .i64 (Tm.n t), .string (Tm.s t), .slice A (Tm.l t).length c1]) ?_ rfl ⟨t, A, c1, nv1, _, _, _, rfl, want_res (c := c) (g := id) HRES.out, h7, s7, t7, Nat.le_trans (tail_le _ _) L1.out⟩
 simp [results, Tryz.results137, go_sem, kc]
end Go.Proofs.YtgcdhffeacdegaaGreatDoor
