/- Layer 10, the reference: the contract of term; rows of terms; the walk of args. -/
import Derived.Test.YtgcdhffeacdegaaGreatDoorC40
import Derived.Test.YtgcdhffeacdegaaGreatDoorC19
namespace Go.Proofs.YtgcdhffeacdegaaGreatDoor
open Go.RowKit Go.El

/-- What a call that reads a term leaves. -/
def RTPost (f : RF) (w : World) (nv : Value) (r0 : List TokV) (x : PR Tm) (e : Ending) (w' : World) : Prop :=
  ∃ t A c nv' r ns bad, e = .returned (.agg #[.int .i64 (Tm.k t), .int .i64 (Tm.n t), .string (Tm.s t), .slice A (Tm.l t).length c]) ∧ resIs x t r ns bad ∧ RaAt f w' r nv' ns bad ∧ PStep f.S nv w nv' w' ∧ TmIn (NewT f.S nv' w w') w' t A c ∧ r.length ≤ r0.length
/-- What term does where at most so many tokens are left. -/
def RTermC (f : RF) (N : Nat) : Prop := ∀ (r : List TokV) (ns : List ByteArray) (nv : Value) (w : World) (n : Nat) (most : Int), r.length ≤ N → RaAt f w r nv ns false → 5 * r.length + 5 ≤ n →
  Calls Tryz.prog 45 #[.pointer (some ⟨f.pb, 0, none⟩), .int .i64 most] w (RTPost f w nv r (termN f.O n most r ns))
theorem row_nil (f : RF) (w : World) (nv : Value) (W : World) : RowP f.pf w nv W (.slice none 0 0) [] := ⟨World.ownsRow_nil _ _ _ _, fun p hp => by simp at hp, fun k hk => by simp [Value.ownBlock] at hk⟩
/-- One more. -/
theorem row_push {f : RF} {w W V W' : World} {nv0 nv v v' : Value} {M : List TmP} {p : TmP} {r : List TokV} {ns : List ByteArray} {bad : Bool} (h : RowP f.pf w nv W v M) (hp : RaAt f W r nv ns bad) (ho : f.old w.heap.size) (hs0 : PStep f.S nv0 w nv W) (ht : TmIn (fun k => NewT f.S nv w W k ∧ v.ownBlock ≠ some k) W p.1 p.2.1 p.2.2) (x : Ext W V)
    (hown : W'.ownsRow 0 32 4 v' (M.length + 1) (flat tmC M ++ tmC p)) (hm : Mods (ownL v) V W') (hb : v'.ownBlock = v.ownBlock ∨ v'.ownBlock = some V.heap.size) : RowP f.pf w nv W' v' (M ++ [p]) ∧ RaAt f W' r nv ns bad ∧ PStep f.S nv0 w nv W' := by
  have hw := hs0.mods.size
  obtain ⟨o1, o2, o3, o4⟩ := ho
  have hS : ∀ k ∈ f.S, k < W.heap.size := fun k hk => by
    simp [RF.S] at hk
    omega
  have hN : ∀ k, nv.ownBlock = some k → k < W.heap.size := fun k hk => own_lt hp.own hk
  have hC : ∀ k, Clr2 f.S nv W k → Clr2 f.S nv W' k := fun k hk => ⟨hk.1, hk.2.1, Nat.lt_of_lt_of_le hk.2.2 (Nat.le_trans x.size hm.size)⟩
  have hfar : ∀ k, v'.ownBlock = some k → NewT f.S nv w W' k := fun k hk => by
    rcases hb with e | e
    · rw [e] at hk
      have := h.far k hk
      exact ⟨this.1, hC k this.2⟩
    · have hlt := own_lt hown hk
      rw [e] at hk
      injection hk with hk
      subst hk
      exact ⟨Nat.le_trans hw x.size, clr2_new hS hN x.size hlt⟩
  have hD : ∀ k, (NewT f.S nv w W k ∧ v.ownBlock ≠ some k) → (NewT f.S nv w W' k ∧ v'.ownBlock ≠ some k) := fun k hk => by
    refine ⟨⟨hk.1.1, hC k hk.1.2⟩, fun e => ?_⟩
    rcases hb with e2 | e2
    · exact hk.2 (e2.symm.trans e)
    · rw [e2] at e
      injection e with e
      have := hk.1.2.2.2
      have := x.size
      omega
  have hX : Mods (ownL v) W W' := (Mods.ext x).trans hm
  have hno : ∀ k, (NewT f.S nv w W k ∧ v.ownBlock ≠ some k) → k ∉ ownL v := fun k hk hm => hk.2 (by simpa [ownL] using hm)
  have hvb : ∀ k ∈ ownL v, w.heap.size ≤ k ∧ Clr2 f.S nv W k := fun k hk => h.far k (by simpa [ownL] using hk)
  refine ⟨⟨by simpa [flat_append, flat] using hown, fun q hq => ?_, hfar⟩, ?_, ?_⟩
  · rcases List.mem_append.1 hq with hq | hq
    · exact TmIn.mods hX hno hD (h.kid q hq)
    · simp at hq
      subst hq
      exact TmIn.mods hX hno hD ht
  · have far2 : ∀ k, k < w.heap.size → k ∉ ownL v := fun k hk hm => by have := (hvb k hm).1; omega
    have own2 : ∀ b, nv.ownBlock = some b → b ∉ ownL v := fun b hb hm => (hvb b hm).2.2.1 hb
    exact ⟨hp.blk.mods hX (far2 _ o1), own_mods hp.own hX own2, hp.tok.mods hX (fun a ha => far2 _ (o4 a ha)), hp.toks, hp.suf, hp.nil,
      hp.ref.mods hX (far2 _ o2) (fun b hb => far2 _ (o3 b hb)), hC _ hp.rc, fun b hb => hC _ (hp.rv b hb), hp.fnd, hp.bnd, fun a ha => hC _ (hp.ca a ha), hp.np, hp.nl, hp.cp⟩
  · exact ⟨hs0.mods.step hX (fun k hk => .inr (hvb k hk).1), hs0.own⟩

/-- The state of a loop that reads terms. -/
structure RLoop (f : RF) (w : World) (nv0 : Value) (lim : Bool) (r0 : List TokV) (X : PR (List Tm)) (W : World) (v : Value) (M : List TmP) (nv : Value) (q : List TokV) (ms : List ByteArray) : Prop where
  pa : RaAt f W q nv ms false
  st : PStep f.S nv0 w nv W
  row : RowP f.pf w nv W v M
  len : M.length + q.length ≤ r0.length
  r0l : r0.length ≤ 65537
  lm : lim = true → M.length ≤ 15
  ok : ∃ n, 5 * q.length + 6 ≤ n ∧ rowN f.O n lim (M.map (·.1)) q ms = X
/-- .. and behind it. -/
structure RRow (f : RF) (w : World) (nv0 : Value) (r0 : List TokV) (X : PR (List Tm)) (W : World) (v : Value) (M : List TmP) (nv : Value) (q : List TokV) (ms : List ByteArray) (bad : Bool) : Prop where
  res : resIs X (M.map (·.1)) q ms bad
  pa : RaAt f W q nv ms bad
  st : PStep f.S nv0 w nv W
  row : RowP f.pf w nv W v M
  ne : M ≠ []
  ml : M.length ≤ 70000
  len : q.length ≤ r0.length
theorem rowm_bad {O : Ops} {m : Nat} {lim : Bool} {acc : List Tm} {x : PR Tm} {X : PR (List Tm)} (hX : rowM O m lim acc x = X) {t : Tm} {q : List TokV} {ms : List ByteArray} (h : resIs x t q ms true) (l : List Tm) : resIs X l q ms true := by
  subst hX
  cases x with
  | bad p => obtain ⟨_, rfl⟩ := h; exact ⟨rfl, rfl⟩
  | ok u p ps => obtain ⟨h1, _⟩ := h; cases h1
theorem rowm_end {O : Ops} {m : Nat} {lim : Bool} {acc : List Tm} {x : PR Tm} {X : PR (List Tm)} (hX : rowM O m lim acc x = X) {t : Tm} {q : List TokV} {ms : List ByteArray} (h : resIs x t q ms false) (hc : isPu q 44 = false) : resIs X (acc ++ [t]) q ms false := by
  subst hX
  cases x with
  | bad p => obtain ⟨h1, _⟩ := h; cases h1
  | ok u p ps =>
    obtain ⟨_, rfl, rfl, rfl⟩ := h
    simp only [rowM, rowK, hc]
    exact ⟨rfl, rfl, rfl, rfl⟩
theorem rowm_full {O : Ops} {m : Nat} {acc : List Tm} {x : PR Tm} {X : PR (List Tm)} (hX : rowM O m true acc x = X) {t : Tm} {q : List TokV} {ms : List ByteArray} (h : resIs x t q ms false) (hc : isPu q 44 = true) (hl : 15 ≤ acc.length) (l : List Tm) : resIs X l q ms true := by
  subst hX
  cases x with
  | bad p => obtain ⟨h1, _⟩ := h; cases h1
  | ok u p ps =>
    obtain ⟨_, rfl, rfl, rfl⟩ := h
    simp only [rowM, rowK, hc, if_true]
    rw [if_pos (by simp; omega)]
    exact ⟨rfl, rfl⟩
theorem rowm_more {O : Ops} {m : Nat} {lim : Bool} {acc : List Tm} {x : PR Tm} {X : PR (List Tm)} (hX : rowM O m lim acc x = X) {t : Tm} {q : List TokV} {ms : List ByteArray} (h : resIs x t q ms false) (hc : isPu q 44 = true) (hl : lim = true → acc.length < 15) : rowN O m lim (acc ++ [t]) q.tail ms = X := by
  rw [← hX]
  cases x with
  | bad p => obtain ⟨h1, _⟩ := h; cases h1
  | ok u p ps =>
    obtain ⟨_, rfl, rfl, rfl⟩ := h
    simp only [rowM, rowK, hc, if_true]
    rw [if_neg (fun h => by have := hl h.1; simp at h; omega)]
/-- What args leaves. -/
def RArgs (f : RF) (w : World) (nv : Value) (r0 : List TokV) (x : PR (List Tm)) (e : Ending) (w' : World) : Prop :=
  ∃ v M nv' r ns bad, e = .returned v ∧ resIs x (M.map (·.1)) r ns bad ∧ RaAt f w' r nv' ns bad ∧ PStep f.S nv w nv' w' ∧ RowP f.pf w nv' w' v M ∧ M ≠ [] ∧ M.length ≤ 1000 ∧ r.length ≤ r0.length

set_option maxRecDepth 100000 in
set_option maxHeartbeats 4000000 in
theorem raArgs {f : RF} {N : Nat} (IH : RTermC f N) {r : List TokV} (hN : r.tail.length ≤ N) {w : World} {nv : Value} {ns : List ByteArray} (h : RaAt f w r nv ns false) (hpu : isPs r ⟨#[40]⟩ = true) {n : Nat} (hn : 5 * r.tail.length + 6 ≤ n) :
    Calls Tryz.prog 149 #[.pointer (some ⟨f.pb, 0, none⟩)] w (RArgs f w nv r (wantM 41 id (rowN f.O n true [] r.tail ns))) := by
  obtain ⟨i1, hi1, hz0, hz1, hz2⟩ := infoP tmInfo4
  obtain ⟨X, hX⟩ : ∃ X, rowN f.O n true [] r.tail ns = X := ⟨_, rfl⟩
  rw [hX]
  have HO := Lib.hid h.old
  have HLL : Hid (r.tail.length ≤ 65537) := Lib.hid (by have := h.suf.length_le; have := h.toks.len; rw [List.length_tail]; omega)
  have LR : Hid (r.tail.length ≤ r.length) := Lib.hid (by rw [List.length_tail]; omega)
  have HW0 := Lib.hid (raWant ⟨#[40]⟩ h)
  have hif : (!false && isPs r ⟨#[40]⟩) = true := by rw [hpu]; rfl
  rw [hif, hpu] at HW0
  simp only [if_true, Bool.not_true, Bool.or_false] at HW0
  have HX := Lib.hid hX
  have HM := Lib.hid hn
  have HNN := Lib.hid hN
  have hp : f.pb < w.heap.size := h.blk.lt
  clear h hX hn hN hif hpu
  go_enter Tryz.func149, Tryz.ntmps149
  go_upto_region 3 with (go_at_call 112; refine HW0.out.mono ?_; rintro e W1 ⟨rfl, h1, s1⟩; have H1 := Lib.hid h1; have S1 := Lib.hid s1; clear h1 s1)
  generalize r.tail = r0 at *
  have HR0 : Hid (RLoop f w nv true r0 X W1 (.slice none 0 0) [] nv r0 ns) := Lib.hid ⟨H1.out, S1.out, row_nil f w nv W1, by simp, HLL.out, by simp, ⟨n, HM.out, HX.out⟩⟩
  clear H1 S1 HX HM HLL
  go_loopg [3] r0.length (fun g v wx => ∃ M nvx q ms, Hid (RLoop f w nv true r0 X wx v M nvx q ms) ∧ Hid (q.length ≤ g))
  case atStart => exact ⟨_, _, _, _, HR0, Lib.hid (Nat.le_refl _)⟩
  case round =>
    clear HR0
    obtain ⟨M, nvx, q, ms, HR, HG⟩ := hrel
    obtain ⟨n4, hn4, hx4⟩ := HR.out.ok
    obtain ⟨m4, rfl⟩ : ∃ m4, n4 = m4 + 1 := ⟨n4 - 1, by omega⟩
    rw [rowN_eq] at hx4
    have HX4 := Lib.hid hx4
    have HN4 := Lib.hid hn4
    have HT4 := Lib.hid (IH q ms nvx _ m4 999 (by have := HNN.out; have := HR.out.len; omega) HR.out.pa (by omega))
    obtain ⟨Av, cv, rfl⟩ := own_value HR.out.row.own
    have hml : M.length ≤ 65537 := by have := HR.out.len; have := HR.out.r0l; omega
    have c4 := HR.out.pa.cells.c4
    clear hx4 hn4
    go_upto_region 5 with (first | (go_at_call 45; refine HT4.out.mono ?_; rintro e W5 ⟨t5, A5, c5, nv5, q5, ms5, b5, rfl, hres, h5, s5, ht5, hl5⟩; have HRES := Lib.hid hres; have H5 := Lib.hid h5; have S5 := Lib.hid s5; have T5 := Lib.hid ht5; have L5 := Lib.hid hl5; have R5 := Lib.hid (HR.out.row.step s5); clear hres h5 s5 ht5 hl5) | (at_builtin; refine wpList_append_src (P := Tryz.prog) rfl (.tmp 11) (.tmp 14) 30 rfl 32 i1 _ 4 56 Tryz.underlying30 hi1 hz0 hz1 hz2 rfl (by omega) (.slice Av M.length cv) rfl _ _ _ rfl M.length (flat tmC M) (own_ext R5.out.own (ext_box4 _ _)) (tmC (t5, A5, c5)) (El.Src.new W5 #[.int .i64 (Tm.k t5), .int .i64 (Tm.n t5), .string (Tm.s t5), .slice A5 (Tm.l t5).length c5] 32 1 4 rfl) (tmC_one _) (by unfold maxLen; omega) (by omega) ?_; intro v6 w6 ho6 hm6 hb6; obtain ⟨A6, q6, rfl⟩ := own_value ho6; have hp6 := row_push R5.out H5.out HO.out (HR.out.st.trans S5.out) (p := (t5, A5, c5)) (T5.out.mono (fun k hk => ⟨⟨Nat.le_trans HR.out.st.mods.size hk.1, hk.2⟩, fun e => by have := (HR.out.row.far k e).2.2.2; have := hk.1; omega⟩)) (ext_box4 _ _) ho6 hm6 hb6; have R6 := Lib.hid hp6.1; have H6 := Lib.hid hp6.2.1; have S6 := Lib.hid hp6.2.2; have d4 := hp6.2.1.cells.c4; have e4 := hp6.2.1.blk.frozen 4; clear ho6 hm6 hb6 hp6))
    clear H5 S5 R5 T5 HT4
    have hne : M ++ [(t5, A5, c5)] ≠ [] := by simp
    have HML : Hid ((M ++ [(t5, A5, c5)]).length ≤ 70000) := Lib.hid (by simp; omega)
    have HL5 : Hid (q5.length ≤ r0.length) := Lib.hid (by have := L5.out; have := HR.out.len; omega)
    have HMM : Hid ((M ++ [(t5, A5, c5)]).map (·.1) = M.map (·.1) ++ [t5]) := Lib.hid (by simp)
    have HM16 : Hid ((M ++ [(t5, A5, c5)]).length ≤ 1000) := Lib.hid (by have := HR.out.lm rfl; simp; omega)
    cases b5 with
    | true =>
      have HE : Hid (RRow f w nv r0 X w6 (.slice A6 (M.length + 1) q6) (M ++ [(t5, A5, c5)]) nv5 q5 ms5 true) := Lib.hid ⟨rowm_bad HX4.out HRES.out _, H6.out, S6.out, R6.out, hne, HML.out, HL5.out⟩
      have HW := Lib.hid (raWant ⟨#[41]⟩ HE.out.pa)
      rw [isPs_lit] at HW
      go_wp2_with (go_at_call 112; refine HW.out.mono ?_; rintro e W7 ⟨rfl, h7, s7⟩; have H7 := Lib.hid h7; have S7 := Lib.hid s7; clear h7 s7)
      go_ret
      exact ⟨_, M ++ [(t5, A5, c5)], nv5, _, ms5, _, rfl, want_res (c := 41) (g := id) HE.out.res, H7.out, HE.out.st.trans S7.out, HE.out.row.step S7.out, hne, HM16.out, Nat.le_trans (tail_le _ _) (Nat.le_trans HE.out.len LR.out)⟩
    | false =>
      have HI := Lib.hid (raIs ⟨#[44]⟩ H6.out 0 (by omega) (t := q5.headD zeroT) (by obtain ⟨t, p, e⟩ := ToksOk.ne H6.out.suf H6.out.nil; rw [e]; rfl))
      have hie : isAt q5 0 ⟨#[44]⟩ = isPu q5 44 := isPs_lit _ _
      rw [hie] at HI
      clear hie
      cases hq : isPu q5 44 with
      | false =>
        rw [hq] at HI
        have HQ := Lib.hid hq
        clear hq
        go_upto_region 9 with (go_at_call 113; refine HI.out.mono ?_; rintro e W6 ⟨rfl, x6⟩; have X6 := Lib.hid x6; clear x6)
        have HE : Hid (RRow f w nv r0 X W6 (.slice A6 (M.length + 1) q6) (M ++ [(t5, A5, c5)]) nv5 q5 ms5 false) := Lib.hid ⟨by rw [HMM.out]; exact rowm_end HX4.out HRES.out HQ.out, H6.out.ext X6.out, S6.out.trans (PStep.ext X6.out), R6.out.step (PStep.ext X6.out), hne, HML.out, HL5.out⟩
        have HW := Lib.hid (raWant ⟨#[41]⟩ HE.out.pa)
        rw [isPs_lit] at HW
        go_wp2_with (go_at_call 112; refine HW.out.mono ?_; rintro e W7 ⟨rfl, h7, s7⟩; have H7 := Lib.hid h7; have S7 := Lib.hid s7; clear h7 s7)
        go_ret
        exact ⟨_, M ++ [(t5, A5, c5)], nv5, _, ms5, _, rfl, want_res (c := 41) (g := id) HE.out.res, H7.out, HE.out.st.trans S7.out, HE.out.row.step S7.out, hne, HM16.out, Nat.le_trans (tail_le _ _) (Nat.le_trans HE.out.len LR.out)⟩
      | true =>
        rw [hq] at HI
        have HQ := Lib.hid hq
        clear hq
        have hlm := HR.out.lm rfl
        by_cases hf : M.length = 15
        · have HF := Lib.hid hf
          have hff : (((M.length + 1 : Nat) : Int) == 16) = true := by rw [hf]; rfl
          clear hf hlm
          go_upto_region 7 with (go_at_call 113; refine HI.out.mono ?_; rintro e W6 ⟨rfl, x6⟩; have X6 := Lib.hid x6; clear x6)
          have H66 := Lib.hid (H6.out.ext X6.out)
          have s7 := H66.out.setB true
          have g4 := H66.out.cells.c4
          have f4 := H66.out.blk.frozen 4
          have HE : Hid (RRow f w nv r0 X (W6.setCell ⟨f.pb, 4, none⟩ (.bool true)) (.slice A6 (M.length + 1) q6) (M ++ [(t5, A5, c5)]) nv5 q5 ms5 true) := Lib.hid ⟨rowm_full HX4.out HRES.out HQ.out (by have := HF.out; simp; omega) _, s7.1, (S6.out.trans (PStep.ext X6.out)).trans s7.2, (R6.out.step (PStep.ext X6.out)).step s7.2, hne, HML.out, HL5.out⟩
          clear s7
          go_upto_region 9 with fail
          generalize W6.setCell ⟨f.pb, 4, none⟩ (.bool true) = W8 at *
          have HW := Lib.hid (raWant ⟨#[41]⟩ HE.out.pa)
          rw [isPs_lit] at HW
          go_wp2_with (go_at_call 112; refine HW.out.mono ?_; rintro e W7 ⟨rfl, h7, s7⟩; have H7 := Lib.hid h7; have S7 := Lib.hid s7; clear h7 s7)
          go_ret
          exact ⟨_, M ++ [(t5, A5, c5)], nv5, _, ms5, _, rfl, want_res (c := 41) (g := id) HE.out.res, H7.out, HE.out.st.trans S7.out, HE.out.row.step S7.out, hne, HM16.out, Nat.le_trans (tail_le _ _) (Nat.le_trans HE.out.len LR.out)⟩
        · have hff : (((M.length + 1 : Nat) : Int) == 16) = false := by
            rw [beq_eq_false_iff_ne]
            omega
          obtain ⟨t1, t2, t3⟩ := isPs_tail H6.out.toks H6.out.suf (by rw [isPs_lit]; exact HQ.out)
          have hkL := plI_lt H6.out.suf H6.out.nil
          have hLL := H6.out.toks.len
          have HTI := Lib.hid t3
          have htl : q5.tail.length + 1 = q5.length := by
            obtain ⟨t, p, e⟩ := ToksOk.ne H6.out.suf H6.out.nil
            rw [e]
            simp
          have HTL := Lib.hid htl
          have HLN : Hid (ms5.length + q5.tail.length ≤ f.L.length) := Lib.hid (by have := H6.out.nl; omega)
          have HF : Hid (M.length < 15) := Lib.hid (by omega)
          clear hf hlm t3 htl
          go_upto_region 8 with (go_at_call 113; refine HI.out.mono ?_; rintro e W6 ⟨rfl, x6⟩; have X6 := Lib.hid x6; clear x6)
          have H66 := Lib.hid (H6.out.ext X6.out)
          have s7 := H66.out.setI t1 t2 HLN.out ((plI f.L q5 : Int) + 1) (by rw [HTI.out]; omega)
          have g1 := H66.out.cells.c1
          have f1 := H66.out.blk.frozen 1
          have HE : Hid (RLoop f w nv true r0 X (W6.setCell ⟨f.pb, 1, none⟩ (.int .i64 ((plI f.L q5 : Int) + 1))) (.slice A6 (M.length + 1) q6) (M ++ [(t5, A5, c5)]) nv5 q5.tail ms5) := Lib.hid ⟨s7.1, (S6.out.trans (PStep.ext X6.out)).trans s7.2, (R6.out.step (PStep.ext X6.out)).step s7.2, by have := HR.out.len; have := L5.out; have := HTL.out; simp; omega, HR.out.r0l, fun _ => by have := HF.out; simp; omega, ⟨m4, by have := HN4.out; have := L5.out; have := HTL.out; omega, by rw [HMM.out]; exact rowm_more HX4.out HRES.out HQ.out (fun _ => by have := HF.out; simpa using this)⟩⟩
          clear s7 H66
          generalize plI f.L q5 = k at *
          go_wp2_with fail
          go_roundg (q.length - 1)
          case measure => have := HG.out; have := L5.out; have := HTL.out; omega
          case rel => exact ⟨_, _, _, _, HE, Lib.hid (by have := L5.out; have := HTL.out; omega)⟩
end Go.Proofs.YtgcdhffeacdegaaGreatDoor
