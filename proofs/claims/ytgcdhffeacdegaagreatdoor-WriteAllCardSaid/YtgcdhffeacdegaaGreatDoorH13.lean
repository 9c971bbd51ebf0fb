/- Layer 10, the program: the walks of name, begins, fail, variable. -/
import Derived.Test.YtgcdhffeacdegaaGreatDoorH11
import Derived.Test.YtgcdhffeacdegaaGreatDoorH12
import Derived.Test.YtgcdhffeacdegaaGreatDoorH05
namespace Go.Proofs.YtgcdhffeacdegaaGreatDoor
open Go.RowKit Go.El
set_option maxRecDepth 100000 in
set_option maxHeartbeats 4000000 in
theorem paName {f : PF} {w : World} {r : List TokV} {nv : Value} {ns : List ByteArray} {bad : Bool} (h : PaAt f w r nv ns bad) {t : TokV} {q : List TokV} (e : r = t :: q) (hk : t.kind = 1) :
  Calls Tryz.prog 170 #[.pointer (some ⟨f.pb, 0, none⟩)] w fun e w' => e = .returned (.bool (!(findO t.s f.I).isSome || (findO t.s f.Q).isSome || opensB q)) ∧ PaAt f w' r nv ns bad ∧ PStep f.S nv w nv w' := by
 have HN := fun W (x : Ext w W) => Lib.hid (paNext (h.ext x) e)
 have HF := fun W (x : Ext w W) => Lib.hid ((h.ext x).inf t.s)
 have HP := fun W (x : Ext w W) => Lib.hid ((h.ext x).pre t.s)
 have H := Lib.hid h
 have hp : f.pb < w.heap.size := h.blk.lt
 have F1 := tokF1 t.kind t.n t.at_ t.s t.lay
 have c2 := h.cells.c2
 unfold tokA at HN
 unfold opR opA at HF HP
 obtain ⟨u, p, hq⟩ := h.toks.more h.suf e (by omega)
 have hsq := suf_tail h.suf e
 have hpl := plI_tail h.suf e
 have hkL := plI_lt h.suf h.nil
 have hLL := h.toks.len
 have HL : Hid (ns.length + q.length ≤ f.L.length) := Lib.hid (by have := h.nl; rw [e] at this; simp at this; omega)
 have HL2 := Lib.hid h.nl
 have HT := Lib.hid hpl
 have HR := Lib.hid e
 have hqn : q ≠ [] := by rw [hq]; simp
 have hrn := h.nil
 have hsr := h.suf
 generalize (findO t.s f.I).getD zeroO = o1 at *
 generalize (findO t.s f.Q).getD zeroO = o2 at *
 clear h e hpl hq hk
 cases hin : (findO t.s f.I).isSome
 ·rw [hin] at HF
  generalize (findO t.s f.Q).isSome = b2 at *
  clear hin
  go_enter Tryz.func170, Tryz.ntmps170
  go_upto_region 2 with (go_at_call 42; refine (HN _ (Ext.refl _)).out.mono ?_; rintro e W1 ⟨rfl, hx⟩; have X1 := Lib.hid hx; have d2 := hx.cell c2; clear hx)
  go_upto_region 3 with (go_at_call 101; refine (HF _ X1.out).out.mono ?_; rintro e W2 ⟨rfl, hx⟩; have X2 := Lib.hid ((X1.out.trans hx).alloc (.cells #[.int .i64 o1.p, .int .i64 o1.t, .string o1.s] 70)); have e2 := (hx.alloc (.cells #[.int .i64 o1.p, .int .i64 o1.t, .string o1.s] 70)).cell d2; clear hx)
  generalize W2.alloc (.cells #[.int .i64 o1.p, .int .i64 o1.t, .string o1.s] 70) = W3 at *
  go_wp2_with (go_at_call 144; refine (HP _ X2.out).out.mono ?_; rintro e W4 ⟨rfl, hx⟩; have X4 := Lib.hid ((X2.out.trans hx).alloc (.cells #[.int .i64 o2.p, .int .i64 o2.t, .string o2.s] 70)); clear hx)
  go_ret
  exact ⟨rfl, H.out.ext X4.out, PStep.ext X4.out⟩
 ·rw [hin] at HF
  cases hpr : (findO t.s f.Q).isSome
  ·rw [hpr] at HP
   have hbe : (!true || false || opensB q) = opensB q := by simp
   rw [hbe]
   obtain ⟨ob, hob⟩ : ∃ ob, opensB q = ob := ⟨_, rfl⟩
   rw [hob]
   have HOB := Lib.hid hob
   clear hin hpr hbe hob
   go_enter Tryz.func170, Tryz.ntmps170
   go_upto_region 2 with (go_at_call 42; refine (HN _ (Ext.refl _)).out.mono ?_; rintro e W1 ⟨rfl, hx⟩; have X1 := Lib.hid hx; have d2 := hx.cell c2; clear hx)
   go_upto_region 3 with (go_at_call 101; refine (HF _ X1.out).out.mono ?_; rintro e W2 ⟨rfl, hx⟩; have X2 := Lib.hid ((X1.out.trans hx).alloc (.cells #[.int .i64 o1.p, .int .i64 o1.t, .string o1.s] 70)); have e2 := (hx.alloc (.cells #[.int .i64 o1.p, .int .i64 o1.t, .string o1.s] 70)).cell d2; clear hx)
   generalize W2.alloc (.cells #[.int .i64 o1.p, .int .i64 o1.t, .string o1.s] 70) = W3 at *
   go_upto_region 6 with (go_at_call 144; refine (HP _ X2.out).out.mono ?_; rintro e W4 ⟨rfl, hx⟩; have X4 := Lib.hid ((X2.out.trans hx).alloc (.cells #[.int .i64 o2.p, .int .i64 o2.t, .string o2.s] 70)); clear hx)
   generalize W4.alloc (.cells #[.int .i64 o2.p, .int .i64 o2.t, .string o2.s] 70) = W5 at *
   have H5 := Lib.hid (H.out.ext X4.out)
   have s1 := H5.out.setI hsq hqn HL.out ((plI f.L r : Int) + 1) (by rw [HT.out]; omega)
   have H6 := Lib.hid s1.1
   have S6 := Lib.hid ((PStep.ext X4.out).trans s1.2)
   have c1 := H5.out.cells.c1
   have f1 := H5.out.blk.frozen 1
   generalize hkk : plI f.L r = k at *
   have HKK := Lib.hid hkk
   clear s1 hkk
   go_upto_region 7 with fail
   generalize W5.setCell ⟨f.pb, 1, none⟩ (.int .i64 ((k : Int) + 1)) = W6 at *
   have hO := paOpens H6.out
   rw [HOB.out] at hO
   have HO := Lib.hid hO
   clear c1 f1 c2 H5 HN HF HP hO
   go_upto_region 8 with (go_at_call 140; refine HO.out.mono ?_; rintro e W7 ⟨rfl, hx⟩; have H7 := Lib.hid (H6.out.ext hx); have S7 := Lib.hid (S6.out.trans (PStep.ext hx)); clear hx)
   have c1 : W7.cell? ⟨f.pb, 1, none⟩ = some (.int .i64 ((k : Int) + 1)) := by rw [H7.out.cells.c1, HT.out]; simp
   have f1 := H7.out.blk.frozen 1
   go_wp2_with fail
   go_ret
   have s8 := H7.out.setI hsr hrn HL2.out (k : Int) (by rw [HKK.out])
   exact ⟨rfl, s8.1, S7.out.trans s8.2⟩
  ·rw [hpr] at HP
   clear hin hpr
   go_enter Tryz.func170, Tryz.ntmps170
   go_upto_region 2 with (go_at_call 42; refine (HN _ (Ext.refl _)).out.mono ?_; rintro e W1 ⟨rfl, hx⟩; have X1 := Lib.hid hx; have d2 := hx.cell c2; clear hx)
   go_upto_region 3 with (go_at_call 101; refine (HF _ X1.out).out.mono ?_; rintro e W2 ⟨rfl, hx⟩; have X2 := Lib.hid ((X1.out.trans hx).alloc (.cells #[.int .i64 o1.p, .int .i64 o1.t, .string o1.s] 70)); have e2 := (hx.alloc (.cells #[.int .i64 o1.p, .int .i64 o1.t, .string o1.s] 70)).cell d2; clear hx)
   generalize W2.alloc (.cells #[.int .i64 o1.p, .int .i64 o1.t, .string o1.s] 70) = W3 at *
   go_wp2_with (go_at_call 144; refine (HP _ X2.out).out.mono ?_; rintro e W4 ⟨rfl, hx⟩; have X4 := Lib.hid ((X2.out.trans hx).alloc (.cells #[.int .i64 o2.p, .int .i64 o2.t, .string o2.s] 70)); clear hx)
   go_ret
   exact ⟨rfl, H.out.ext X4.out, PStep.ext X4.out⟩
end Go.Proofs.YtgcdhffeacdegaaGreatDoor

/- Layer 10, the program: the walks of begins, fail. -/
namespace Go.Proofs.YtgcdhffeacdegaaGreatDoor
open Go.RowKit Go.El
theorem tok_kind {t : TokV} (h : tokOk t = true) : t.kind = 1 ∨ t.kind = 2 ∨ t.kind = 3 ∨ t.kind = 4 ∨ t.kind = 5 ∨ t.kind = 6 := by
 unfold tokOk at h
 simp only [Bool.and_eq_true, Bool.or_eq_true, decide_eq_true_eq] at h
 have := h.1.1.1
 rcases this with ((((h | h) | h) | h) | h) | h
 ·exact .inl h
 ·exact .inr (.inl h)
 ·exact .inr (.inr (.inl h))
 ·exact .inr (.inr (.inr (.inl h)))
 ·exact .inr (.inr (.inr (.inr (.inl h.1))))
 ·exact .inr (.inr (.inr (.inr (.inr h))))
def BegPost (f : PF) (w : World) (r : List TokV) (nv : Value) (ns : List ByteArray) (bad : Bool) (b : Bool) (e : Ending) (w' : World) : Prop := e = .returned (.bool b) ∧ PaAt f w' r nv ns bad ∧ PStep f.S nv w nv w'
set_option maxRecDepth 100000 in
set_option maxHeartbeats 4000000 in
theorem paBegins {f : PF} {w : World} {r : List TokV} {nv : Value} {ns : List ByteArray} {bad : Bool} (h : PaAt f w r nv ns bad) :
  Calls Tryz.prog 145 #[.pointer (some ⟨f.pb, 0, none⟩)] w (BegPost f w r nv ns bad (beginsB f.O r)) := by
 obtain ⟨t, q, e⟩ := ToksOk.ne h.suf h.nil
 have hk := tok_kind (h.toks.head h.suf e)
 have HN := fun W (x : Ext w W) => Lib.hid (paNext (h.ext x) e)
 have F0 := tokF0 t.kind t.n t.at_ t.s t.lay
 unfold tokA at HN
 have H := Lib.hid h
 obtain ⟨bb, hbb⟩ : ∃ bb, beginsB f.O r = bb := ⟨_, rfl⟩
 rw [hbb]
 have hbd := hbb
 rw [e] at hbd
 simp only [beginsB] at hbd
 by_cases hk1 : t.kind = 2 ∨ t.kind = 3 ∨ t.kind = 4
 ·rw [if_pos hk1] at hbd
  subst hbd
  rcases hk1 with k | k | k
  all_goals
   rw [k] at HN F0
   clear h e hk k hbb
   go_enter Tryz.func145, Tryz.ntmps145
   go_wp2_with (go_at_call 42; refine (HN _ (Ext.refl _)).out.mono ?_; rintro e W1 ⟨rfl, hx⟩; have X1 := Lib.hid hx; clear hx)
   go_ret
   exact ⟨rfl, H.out.ext X1.out, PStep.ext X1.out⟩
 ·rw [if_neg hk1] at hbd
  by_cases hk5 : t.kind = 5
  ·rw [if_pos hk5] at hbd
   have HI40 := fun W (x : Ext w W) => Lib.hid (paIs ⟨#[40]⟩ (h.ext x))
   have HI91 := fun W (x : Ext w W) => Lib.hid (paIs ⟨#[91]⟩ (h.ext x))
   have HI123 := fun W (x : Ext w W) => Lib.hid (paIs ⟨#[123]⟩ (h.ext x))
   simp only [isPs_lit] at HI40 HI91 HI123
   rw [← e] at hbd
   rw [hk5] at HN F0
   clear h e hk hk1 hk5 hbb
   cases h40 : isPu r 40
   ·rw [h40] at HI40 hbd
    cases h91 : isPu r 91
    ·rw [h91] at HI91 hbd
     simp only [Bool.false_or] at hbd
     rw [hbd] at HI123
     clear h40 h91 hbd
     go_enter Tryz.func145, Tryz.ntmps145
     go_wp2_with (first | (go_at_call 42; refine (HN _ (Ext.refl _)).out.mono ?_; rintro e W1 ⟨rfl, hx⟩; have X1 := Lib.hid hx; clear hx) | (go_at_call 100; (with_reducible refine (HI40 _ X1.out).out.mono ?_); rintro e W2 ⟨rfl, hx⟩; have X2 := Lib.hid (X1.out.trans hx); clear hx) | (go_at_call 100; (with_reducible refine (HI91 _ X2.out).out.mono ?_); rintro e W3 ⟨rfl, hx⟩; have X3 := Lib.hid (X2.out.trans hx); clear hx) | (go_at_call 100; (with_reducible refine (HI123 _ X3.out).out.mono ?_); rintro e W4 ⟨rfl, hx⟩; have X4 := Lib.hid (X3.out.trans hx); clear hx))
     go_ret
     exact ⟨rfl, H.out.ext X4.out, PStep.ext X4.out⟩
    ·rw [h91] at HI91 hbd
     simp only [Bool.false_or, Bool.true_or] at hbd
     subst hbd
     clear h40 h91 HI123
     go_enter Tryz.func145, Tryz.ntmps145
     go_wp2_with (first | (go_at_call 42; refine (HN _ (Ext.refl _)).out.mono ?_; rintro e W1 ⟨rfl, hx⟩; have X1 := Lib.hid hx; clear hx) | (go_at_call 100; (with_reducible refine (HI40 _ X1.out).out.mono ?_); rintro e W2 ⟨rfl, hx⟩; have X2 := Lib.hid (X1.out.trans hx); clear hx) | (go_at_call 100; (with_reducible refine (HI91 _ X2.out).out.mono ?_); rintro e W3 ⟨rfl, hx⟩; have X3 := Lib.hid (X2.out.trans hx); clear hx))
     go_ret
     exact ⟨rfl, H.out.ext X3.out, PStep.ext X3.out⟩
   ·rw [h40] at HI40 hbd
    simp only [Bool.true_or] at hbd
    subst hbd
    clear h40 HI91 HI123
    go_enter Tryz.func145, Tryz.ntmps145
    go_wp2_with (first | (go_at_call 42; refine (HN _ (Ext.refl _)).out.mono ?_; rintro e W1 ⟨rfl, hx⟩; have X1 := Lib.hid hx; clear hx) | (go_at_call 100; (with_reducible refine (HI40 _ X1.out).out.mono ?_); rintro e W2 ⟨rfl, hx⟩; have X2 := Lib.hid (X1.out.trans hx); clear hx))
    go_ret
    exact ⟨rfl, H.out.ext X2.out, PStep.ext X2.out⟩
  ·rw [if_neg hk5] at hbd
   by_cases hk6 : t.kind = 1
   ·rw [if_pos hk6] at hbd
    have hbe : (!(findO t.s f.I).isSome || (findO t.s f.Q).isSome || opensB q) = bb := hbd
    have HM := fun W (x : Ext w W) => Lib.hid (paName (h.ext x) e hk6)
    rw [hbe] at HM
    rw [hk6] at HN F0
    clear h e hk hk1 hk5 hbb hbd hbe hk6
    go_enter Tryz.func145, Tryz.ntmps145
    go_wp2_with (first | (go_at_call 42; refine (HN _ (Ext.refl _)).out.mono ?_; rintro e W1 ⟨rfl, hx⟩; have X1 := Lib.hid hx; clear hx) | (go_at_call 170; refine (HM _ X1.out).out.mono ?_; rintro e W2 ⟨rfl, h2, s2⟩; have H2 := Lib.hid h2; have S2 := Lib.hid ((PStep.ext X1.out).trans s2); clear h2 s2))
    go_ret
    exact ⟨rfl, H2.out, S2.out⟩
   ·rw [if_neg hk6] at hbd
    subst hbd
    have k6 : t.kind = 6 := by omega
    rw [k6] at HN F0
    clear h e hk hk1 hk5 hbb hk6 k6
    go_enter Tryz.func145, Tryz.ntmps145
    go_wp2_with (go_at_call 42; refine (HN _ (Ext.refl _)).out.mono ?_; rintro e W1 ⟨rfl, hx⟩; have X1 := Lib.hid hx; clear hx)
    go_ret
    exact ⟨rfl, H.out.ext X1.out, PStep.ext X1.out⟩
def PF.old (f : PF) (B : Nat) : Prop := f.pb < B ∧ f.mb < B ∧ f.tb < B ∧ 0 < B ∧ ∀ a, f.A = some a → a.block < B
theorem PaAt.old {f : PF} {w : World} {r : List TokV} {nv : Value} {ns : List ByteArray} {bad : Bool} (h : PaAt f w r nv ns bad) : f.old w.heap.size := by
 obtain ⟨m1, m2, _, c1, _⟩ := h.ops
 obtain ⟨ps, hm, _⟩ := h.map
 exact ⟨h.blk.lt, hm.lt, c1.2.2, h.typc.2.2, fun a ha => (h.ca a ha).2.2⟩
theorem PaAt.far {f : PF} {B : Nat} {W : World} {r : List TokV} {nv : Value} {ns : List ByteArray} {bad : Bool} (h : PaAt f W r nv ns bad) (ho : f.old B) {z : Nat} (hz : B ≤ z) {T : TypeId} {cs : Array Value} (hb : Blk W z T cs) (hT : T ≠ 9) (i : Nat) (u : Value) :
  PaAt f (W.setCell ⟨z, i, none⟩ u) r nv ns bad := by
 obtain ⟨h1, h2, h3, h4, h5⟩ := ho
 obtain ⟨m1, m2, ht, c1, c2, c3⟩ := h.ops
 have hm := (Mods.refl [z] W).setCell (p := ⟨z, i, none⟩) (.inl (by simp)) u
 have hnz : nv.ownBlock ≠ some z := fun e => own_heap h.own hb (.inl hT) (by simp [ownL, e])
 have hsz : ∀ k, Clr2 f.S nv W k → Clr2 f.S nv (W.setCell ⟨z, i, none⟩ u) k := fun k hk => ⟨hk.1, hk.2.1, by have := hk.2.2; simpa using this⟩
 obtain ⟨es1, k1, hm1, _⟩ := id ht.mi
 obtain ⟨es2, k2, hm2, _⟩ := id ht.mq
 have hm1z : m1 ≠ z := fun e => by
  rw [e, hb] at hm1
  cases hm1
 have hm2z : m2 ≠ z := fun e => by
  rw [e, hb] at hm2
  cases hm2
 exact ⟨h.blk.far (p := ⟨z, i, none⟩) (by simp; omega) u, ownsRow_setCell_other h.own hnz u, h.map.imp fun _ k => ⟨map_set k.1 _, k.2⟩,
  h.tok.mods hm (fun a ha => by have := h5 a ha; simp; omega), h.toks, h.suf, h.nil, ⟨m1, m2, ht.mods hm (by simp; omega) (by simp [hm1z]) (by simp [hm2z]), hsz _ c1, hsz _ c2, hsz _ c3⟩, h.bnd,
  h.typ.mods hm (by simp; omega), hsz _ h.typc, fun a ha => hsz _ (h.ca a ha), h.pm, h.np, h.nm, h.nl, h.cp⟩
theorem pstep_far {S : List Nat} {nv nv' : Value} {w W : World} (s : PStep S nv w nv' W) {z : Nat} (hz : w.heap.size ≤ z) (i : Nat) (u : Value) : PStep S nv w nv' (W.setCell ⟨z, i, none⟩ u) :=
 ⟨s.mods.setCell (p := ⟨z, i, none⟩) (.inr hz) u, s.own⟩
def NewT (S : List Nat) (nv : Value) (w W : World) (k : Nat) : Prop := w.heap.size ≤ k ∧ Clr2 S nv W k
theorem NewT.step {S : List Nat} {nv nv' : Value} {w W W' : World} (s : PStep S nv W nv' W') {k : Nat} (h : NewT S nv w W k) : NewT S nv' w W' k := ⟨h.1, s.clr h.2⟩
theorem pstep_tmN {S : List Nat} {nv nv' : Value} {w W W' : World} (s : PStep S nv W nv' W') {t : Tm} {A : Option Addr} {c : Nat} (ht : TmIn (NewT S nv w W) W t A c) : TmIn (NewT S nv' w W') W' t A c :=
 TmIn.mods s.mods (fun _ hk => hk.2.no) (fun _ hk => hk.step s) ht
theorem tmN_far {S : List Nat} {nv : Value} {w W : World} {t : Tm} {A : Option Addr} {c : Nat} (ht : TmIn (NewT S nv w W) W t A c) {z : Nat} (hz : z < w.heap.size) (i : Nat) (u : Value) : TmIn (NewT S nv w (W.setCell ⟨z, i, none⟩ u)) (W.setCell ⟨z, i, none⟩ u) t A c :=
 TmIn.mods (S := [z]) ((Mods.refl [z] W).setCell (p := ⟨z, i, none⟩) (.inl (by simp)) u) (fun k hk => by have := hk.1; simp; omega) (fun k hk => ⟨hk.1, hk.2.1, hk.2.2.1, by have := hk.2.2.2; simpa using this⟩) ht
theorem tmN_wide {S : List Nat} {nv : Value} {w w1 W : World} {t : Tm} {A : Option Addr} {c : Nat} (ht : TmIn (NewT S nv w1 W) W t A c) (h : w.heap.size ≤ w1.heap.size) : TmIn (NewT S nv w W) W t A c := ht.mono (fun _ hk => ⟨Nat.le_trans h hk.1, hk.2⟩)
def set4 (W : World) (z : Nat) (a b c d : Value) : World := (((W.setCell ⟨z, 0, none⟩ a).setCell ⟨z, 1, none⟩ b).setCell ⟨z, 2, none⟩ c).setCell ⟨z, 3, none⟩ d
theorem set4_eq (W : World) (z : Nat) (a b c d : Value) : (((W.setCell ⟨z, 0, none⟩ a).setCell ⟨z, 1, none⟩ b).setCell ⟨z, 2, none⟩ c).setCell ⟨z, 3, none⟩ d = set4 W z a b c d := rfl
theorem PaAt.set4 {f : PF} {B : Nat} {W : World} {r : List TokV} {nv : Value} {ns : List ByteArray} {bad : Bool} (h : PaAt f W r nv ns bad) (ho : f.old B) {z : Nat} (hz : B ≤ z) {a' b' c' d' : Value} (hb : Blk W z 32 #[a', b', c', d']) (a b c d : Value) :
  PaAt f (Go.Proofs.YtgcdhffeacdegaaGreatDoor.set4 W z a b c d) r nv ns bad := by
 have hT : 32 ≠ 9 := by decide
 have h0 := h.far ho hz hb hT 0 a
 have b0 := hb.set_ 0 a
 have h1 := h0.far ho hz b0 hT 1 b
 have b1 := b0.set_ 1 b
 have h2 := h1.far ho hz b1 hT 2 c
 have b2 := b1.set_ 2 c
 exact h2.far ho hz b2 hT 3 d
theorem pstep_set4 {S : List Nat} {nv nv' : Value} {w W : World} (s : PStep S nv w nv' W) {z : Nat} (hz : w.heap.size ≤ z) (a b c d : Value) : PStep S nv w nv' (Go.Proofs.YtgcdhffeacdegaaGreatDoor.set4 W z a b c d) :=
 pstep_far (pstep_far (pstep_far (pstep_far s hz 0 a) hz 1 b) hz 2 c) hz 3 d
theorem tmN_set4 {S : List Nat} {nv : Value} {w W : World} {t : Tm} {A : Option Addr} {c0 : Nat} (ht : TmIn (NewT S nv w W) W t A c0) {z : Nat} (hz : z < w.heap.size) (a b c d : Value) : TmIn (NewT S nv w (set4 W z a b c d)) (set4 W z a b c d) t A c0 :=
 tmN_far (tmN_far (tmN_far (tmN_far ht hz 0 a) hz 1 b) hz 2 c) hz 3 d
theorem blk_s4 {W : World} {z : Nat} {T : TypeId} {a' b' c' d' : Value} (hb : Blk W z T #[a', b', c', d']) (a b c d : Value) : Blk (set4 W z a b c d) z T #[a, b, c, d] := blk_set4 hb a b c d
def tmZ : Value := .agg #[.int .i64 0, .int .i64 0, .string ⟨#[]⟩, .slice none 0 0]
set_option maxRecDepth 100000 in
set_option maxHeartbeats 4000000 in
theorem paFail {f : PF} {w : World} {r : List TokV} {nv : Value} {ns : List ByteArray} {bad : Bool} (h : PaAt f w r nv ns bad) :
  Calls Tryz.prog 94 #[.pointer (some ⟨f.pb, 0, none⟩)] w fun e w' => e = .returned (.tuple #[tmZ, .int .i64 0]) ∧ PaAt f w' r nv ns true ∧ PStep f.S nv w nv w' := by
 have hp : f.pb < w.heap.size := h.blk.lt
 have HO := Lib.hid h.old
 have s1 := h.setB true
 have hx := ext_box4 (w.setCell ⟨f.pb, 5, none⟩ (.bool true)) (.cells #[.int .i64 0, .int .i64 0, .string ⟨#[]⟩, .slice none 0 0] 32)
 have H1 := Lib.hid (s1.1.ext hx)
 have S1 := Lib.hid (s1.2.trans (PStep.ext hx))
 have hz := Blk.new (w.setCell ⟨f.pb, 5, none⟩ (.bool true)) 32 #[.int .i64 0, .int .i64 0, .string ⟨#[]⟩, .slice none 0 0]
 rw [World.size_setCell] at hz
 have HZ1 := Lib.hid hz
 have c5 := h.cells.c5
 have f5 := h.blk.frozen 5
 clear h hx s1 hz
 go_enter Tryz.func94, Tryz.ntmps94
 go_upto_region 2 with fail
 generalize (w.setCell ⟨f.pb, 5, none⟩ (.bool true)).alloc (.cells #[.int .i64 0, .int .i64 0, .string ⟨#[]⟩, .slice none 0 0] 32) = W1 at *
 clear c5 f5
 have zc := HZ1.out.cell
 have zf := HZ1.out.frozen
 go_wp2_with fail
 have kb := blk_set4 HZ1.out (.int .i64 0) (.int .i64 0) (.string ⟨#[]⟩) (.slice none 0 0)
 have kc := kb.cell
 have h4 := H1.out.set4 HO.out (Nat.le_refl _) HZ1.out (.int .i64 0) (.int .i64 0) (.string ⟨#[]⟩) (.slice none 0 0)
 have s4 := pstep_set4 S1.out (Nat.le_refl _) (.int .i64 0) (.int .i64 0) (.string ⟨#[]⟩) (.slice none 0 0)
 refine bodyPost_ret (v := .tuple #[tmZ, .int .i64 0]) ?_ rfl ⟨rfl, h4, s4⟩
 simp [results, Tryz.results94, go_sem, tmZ, kc]
end Go.Proofs.YtgcdhffeacdegaaGreatDoor

/- Layer 8, the program: the walk of row. -/
namespace Go.Proofs.YtgcdhffeacdegaaGreatDoor
open Go.RowKit Go.El
theorem quiet_left {P : Program} {f : FuncId} {args : Array Value} {w : World} {n : Nat} {v : Value} (h : Calls P f args (w.drewN n) fun e w' => e = .returned v ∧ w.drewN n = w') : Calls P f args (w.drewN n) fun e w'' => e = .returned v ∧ ∃ m, w'' = w.drewN m :=
 h.mono fun _ _ ⟨he, hw⟩ => ⟨he, n, hw.symm⟩
theorem in8_any (c : UInt8) (s : ByteArray) (w : World) :
  Calls Tryz.prog 85 #[.int .u8 (c.toNat : Int), .string s] w fun e w' => e = .returned (.bool (hasB s c)) ∧ w = w' := by
 have := in_any (c.toNat : Int) s w
 simpa using this
def placeOf (w : World) (sb : Nat) : Nat := (intOf ((w.cell? ⟨sb, 1, none⟩).getD undef)).toNat
theorem place_at {w : World} {sb b off cap : Nat} {B : List UInt8} {i : Nat} (h : ScAt w sb b off cap B i) : placeOf w sb = i := by
 unfold placeOf
 rw [h.c1]
 simp [intOf]
theorem ScAt.conv {w : World} {sb b off cap : Nat} {B : List UInt8} {i : Nat} (h : ScAt w sb b off cap B i) (j k : Nat) (hjk : j ≤ k) (hk : k ≤ B.length) : (convert 23 9 (.slice (some ⟨b, off + j, none⟩) (k - j) (cap - j))).run Tryz.prog w = .ok (.string (strB (sub B j k))) w := by
 have h2 := conv_str (cap - j) (bytes_sub h.src j k hjk hk)
 rw [sub_length hk] at h2
 exact h2
theorem conv0 (w : World) (b off c : Nat) : (convert 23 9 (.slice (some ⟨b, off, none⟩) 0 c)).run Tryz.prog w = .ok (.string ⟨#[]⟩) w :=
 conv_str (l := []) c (El.Src.none w (some ⟨b, off, none⟩) 1)
theorem ScAt.frozen {w : World} {sb b off cap : Nat} {B : List UInt8} {i : Nat} (h : ScAt w sb b off cap B i) : w.frozen? ⟨sb, 1, none⟩ = false := h.blk.frozen 1
theorem ScAt.cells {w : World} {sb b off cap : Nat} {B : List UInt8} {i : Nat} (h : ScAt w sb b off cap B i) {j : Nat} {c : UInt8} (hj : B[j]? = some c) : w.cell? ⟨b, off + j, none⟩ = some (.int .u8 (c.toNat : Int)) := by
 obtain ⟨b', off', he, hc⟩ := bytes_at h.src (List.getElem?_eq_some_iff.1 hj).1
 injection he with he
 injection he with he1 he2
 subst he1 he2
 exact hc j c hj
theorem ScAt.to {w : World} {sb b off cap : Nat} {B : List UInt8} {i : Nat} (h : ScAt w sb b off cap B i) {j : Nat} {v : Int} (hj : j ≤ B.length) (hv : v = (j : Int)) : ScAt (w.setCell ⟨sb, 1, none⟩ (.int .i64 v)) sb b off cap B j := by
 subst hv
 exact h.move hj
structure ScIn (w wr : World) (sb b off cap : Nat) (B : List UInt8) (k : Nat) : Prop where
 sc : ScAt wr sb b off cap B k
 mods : Mods [sb] w wr
theorem ScIn.go {w wr V : World} {sb b off cap : Nat} {B : List UInt8} {k : Nat} (h : ScIn w wr sb b off cap B k) (x : Ext wr V) : ScIn w V sb b off cap B k := ⟨h.sc.ext x, h.mods.trans (Mods.ext x)⟩
theorem ScIn.drewN {w wr : World} {sb b off cap : Nat} {B : List UInt8} {k : Nat} (h : ScIn w wr sb b off cap B k) (n : Nat) : ScIn w (wr.drewN n) sb b off cap B k := h.go ((Ext.refl wr).drewN n)
theorem ScIn.to {w wr : World} {sb b off cap : Nat} {B : List UInt8} {k : Nat} (h : ScIn w wr sb b off cap B k) {j : Nat} {v : Int} (hj : j ≤ B.length) (hv : v = (j : Int)) : ScIn w (wr.setCell ⟨sb, 1, none⟩ (.int .i64 v)) sb b off cap B j := ⟨h.sc.to hj hv, h.mods.setCell (.inl (by simp)) _⟩
theorem ScIn.then {w wr V : World} {sb b off cap : Nat} {B : List UInt8} {k j : Nat} (h : ScIn w wr sb b off cap B k) (g : ScIn wr V sb b off cap B j) : ScIn w V sb b off cap B j := ⟨g.sc, h.mods.trans g.mods⟩
theorem ScIn.start {w : World} {sb b off cap : Nat} {B : List UInt8} {k : Nat} (h : ScAt w sb b off cap B k) : ScIn w w sb b off cap B k := ⟨h, Mods.refl _ _⟩
set_option maxRecDepth 100000 in
set_option maxHeartbeats 4000000 in
theorem row_any (sb b off cap : Nat) (B : List UInt8) (i : Nat) (cs : ByteArray) (p : UInt8 → Bool) (hp : ∀ c, hasB cs c = p c) (w : World) (h : ScAt w sb b off cap B i) :
  Calls Tryz.prog 133 #[.pointer (some ⟨sb, 0, none⟩), .string cs] w fun e w' => e = .returned (.string (strB (sub B i (rowTo p B i)))) ∧ ScIn w w' sb b off cap B (rowTo p B i) := by
 have c0 := h.c0
 have c1 := h.c1
 have hat := h.at_
 have hcp := h.cap
 have hlen := h.len
 have H := Lib.hid h
 have HP := Lib.hid hp
 clear h hp
 go_enter Tryz.func133, Tryz.ntmps133
 go_wp2_with fail
 go_loopw [40] (fun _ wr => ∃ k : Nat, i ≤ k ∧ Hid (ScIn w wr sb b off cap B k) ∧ Hid (rowTo p B i = rowTo p B k)) (fun _ wr => B.length - placeOf wr sb)
 case atStart => exact ⟨i, Nat.le_refl _, ScIn.start H.out, rfl⟩
 case round =>
  obtain ⟨k, hik, HS, HR⟩ := hrel
  have d1 := HS.out.sc.c0
  have d2 := HS.out.sc.c1
  have hkl := HS.out.sc.at_
  by_cases hlt : k < B.length
  ·have ho : B[k]? = some B[k] := List.getElem?_eq_getElem hlt
   generalize B[k] = c at ho
   have d0 := HS.out.sc.cells ho
   have hin := HP.out c
   have hci : ¬ cap = i := by omega
   cases hb : p c
   ·have HN := Lib.hid (HR.out.trans (rowTo_no ho hb))
    rw [hb] at hin
    clear ho hb
    go_upto_region 2 with fail
    go_quiet ((go_at_call 85; exact quiet_left (in8_any _ _ _)))
    go_upto_region 4 with fail
    refine wp_abs (fun V => ScIn w V sb b off cap B k) (HS.out.drewN _) ?_
    clear d0 d1 d2 HS
    rintro V hV
    have d1 := hV.sc.c0
    have d2 := hV.sc.c1
    have hcv := fun n => (hV.drewN n).sc.conv i k hik hkl
    generalize hgs : strB (sub B i k) = z at hcv
    have HZ := Lib.hid hgs
    have HV := Lib.hid hV
    clear hgs hV
    go_quiet (fail)
    go_wp2_with fail
    go_ret
    exact ⟨by rw [HN.out, HZ.out]; rfl, by rw [HN.out]; exact HV.out.drewN _⟩
   ·have HN := Lib.hid (HR.out.trans (rowTo_yes ho hb))
    rw [hb] at hin
    clear ho hb
    go_upto_region 2 with fail
    go_quiet ((go_at_call 85; exact quiet_left (in8_any _ _ _)))
    go_upto_region 3 with fail
    have hplace := place_at HS.out.sc
    refine wp_abs (fun V => ScIn w V sb b off cap B k) (HS.out.drewN _) ?_
    clear d0 d1 d2
    rintro V hV
    have d1 := hV.sc.c0
    have d2 := hV.sc.c1
    have f2 := hV.sc.frozen
    have HV := Lib.hid hV
    clear hV
    go_wp2_with fail
    go_roundw
    case rel => exact ⟨k + 1, by omega, HV.out.to hlt (by omega), HN.out⟩
    case measure =>
     have h2 := place_at (HV.out.to (j := k + 1) (v := (k : Int) + 1) hlt (by omega)).sc
     rw [h2, hplace]
     omega
  ·obtain rfl : k = B.length := by omega
   have HN := Lib.hid (HR.out.trans (rowTo_end (List.getElem?_eq_none (Nat.le_refl _))))
   go_upto_region 2 with fail
   go_quiet (fail)
   go_upto_region 4 with fail
   refine wp_abs (fun V => ScIn w V sb b off cap B B.length) (HS.out.drewN _) ?_
   clear d1 d2 HS
   rintro V hV
   have d1 := hV.sc.c0
   have d2 := hV.sc.c1
   by_cases hci : cap = i
   ·have hii : i = B.length := by omega
    have hcv := fun n => conv0 (V.drewN n) b off 0
    have HV := Lib.hid hV
    have hz : strB (sub B i B.length) = ⟨#[]⟩ := by rw [hii]; simp [sub, strB]
    have HZ := Lib.hid hz
    subst hii
    subst hci
    clear hV hz
    go_quiet (fail)
    go_wp2_with fail
    go_ret
    exact ⟨by rw [HN.out, HZ.out]; rfl, by rw [HN.out]; exact HV.out.drewN _⟩
   ·have hcv := fun n => (hV.drewN n).sc.conv i B.length hik hkl
    generalize hgs : strB (sub B i B.length) = z at hcv
    have HZ := Lib.hid hgs
    have HV := Lib.hid hV
    clear hgs hV
    go_quiet (fail)
    go_wp2_with fail
    go_ret
    exact ⟨by rw [HN.out, HZ.out]; rfl, by rw [HN.out]; exact HV.out.drewN _⟩
end Go.Proofs.YtgcdhffeacdegaaGreatDoor

/- Layer 6, the reference: rows of terms that are there; Int, Var, Atom, Comp. -/
namespace Go.Proofs.YtgcdhffeacdegaaGreatDoor
open Go.RowKit Go.El
theorem src_tm {w : World} {A : Option Addr} {c : Nat} {M : List TmP} {D : Nat → Prop} (hs : El.Src w A M.length 4 (flat tmC M)) (hk : ∀ p ∈ M, TmIn D w p.1 p.2.1 p.2.2) (hD : ∀ b off, A = some ⟨b, off, none⟩ → D b) (hc : M.length ≤ c) (k n : Int) (s : ByteArray) : TmIn D w (.mk k n s (M.map (·.1))) A c := by
 refine .mk k n s _ A c (M.map (·.2)) (by simp) (fun j t q ht hq => ?_) (fun hne => ?_) (by simpa using hc)
 ·rw [List.getElem?_map] at ht hq
  cases hp : M[j]? with
  | none => rw [hp] at ht; simp at ht
  | some p =>
   rw [hp] at ht hq
   simp at ht hq
   subst ht hq
   exact hk p (List.mem_of_getElem? hp)
 ·have hlen : 0 < M.length := by
   rcases M with _ | ⟨p, M⟩
   ·simp at hne
   ·simp
  obtain ⟨b, off, rfl, hcell⟩ := Src.form hs hlen (by omega)
  refine ⟨b, off, rfl, hD b off rfl, fun j t q ht hq => ?_⟩
  rw [List.getElem?_map] at ht hq
  cases hp : M[j]? with
  | none => rw [hp] at ht; simp at ht
  | some p =>
   rw [hp] at ht hq
   simp at ht hq
   subst ht hq
   refine ⟨?_, ?_, ?_, ?_⟩
   ·exact hcell (j * 4) _ ((flat_at tmC_len M j 0 p hp (by omega)).trans rfl)
   ·exact hcell (j * 4 + 1) _ ((flat_at tmC_len M j 1 p hp (by omega)).trans rfl)
   ·exact hcell (j * 4 + 2) _ ((flat_at tmC_len M j 2 p hp (by omega)).trans rfl)
   ·exact hcell (j * 4 + 3) _ ((flat_at tmC_len M j 3 p hp (by omega)).trans rfl)
theorem own_empty (X : World) (t : TypeId) (k : Nat) : (X.alloc (.cells #[] t)).ownsRow 0 t k (.slice (some ⟨X.heap.size, 0, none⟩) 0 0) 0 [] := World.ownsRow_lit X #[] 0 (Nat.zero_le _) (by unfold maxLen; omega) (by simp)
theorem own_cap {w : World} {A : Option Addr} {n c : Nat} {t : TypeId} {k : Nat} {xs : List Value} (h : w.ownsRow 0 t k (.slice A n c) n xs) : n ≤ c := by
 rcases h.2 with ⟨h1, h2⟩ | ⟨g', cap', cur, hv, _, _, hnc, _⟩
 ·simp only [Value.slice.injEq] at h1
  omega
 ·injection hv with _ _ hc
  subst hc
  simpa using hnc
set_option maxRecDepth 100000 in
theorem refVar_any (n : Int) (w : World) :
  Calls Tryz.prog 34 #[.int .i64 n] w fun e w' => e = .returned (.agg #[.int .i64 1, .int .i64 n, .string ⟨#[]⟩, .slice none 0 0]) ∧ Ext w w' := by
 go_enter Tryz.func34, Tryz.ntmps34
 go_wp2_with fail
 have hE := (Ext.refl w).alloc (.cells #[.int .i64 1, .int .i64 n, .string ⟨#[]⟩, .slice none 0 0] 32)
 have hB := Blk.new w 32 #[.int .i64 1, .int .i64 n, .string ⟨#[]⟩, .slice none 0 0]
 generalize w.alloc (.cells #[.int .i64 1, .int .i64 n, .string ⟨#[]⟩, .slice none 0 0] 32) = V at hE hB ⊢
 have r0 : V.cell? ⟨w.heap.size, 0, none⟩ = some (.int .i64 1) := hB.cell 0
 have r1 : V.cell? ⟨w.heap.size, 1, none⟩ = some (.int .i64 n) := hB.cell 1
 have r2 : V.cell? ⟨w.heap.size, 2, none⟩ = some (.string ⟨#[]⟩) := hB.cell 2
 have r3 : V.cell? ⟨w.heap.size, 3, none⟩ = some (.slice none 0 0) := hB.cell 3
 refine bodyPost_ret (v := .agg #[.int .i64 1, .int .i64 n, .string ⟨#[]⟩, .slice none 0 0]) (by simp [results, Tryz.results34, go_sem, r0, r1, r2, r3]) rfl ⟨rfl, hE⟩
set_option maxRecDepth 100000 in
theorem refInt_any (n : Int) (w : World) :
  Calls Tryz.prog 35 #[.int .i64 n] w fun e w' => e = .returned (.agg #[.int .i64 2, .int .i64 n, .string ⟨#[]⟩, .slice none 0 0]) ∧ Ext w w' := by
 go_enter Tryz.func35, Tryz.ntmps35
 go_wp2_with fail
 have hE := (Ext.refl w).alloc (.cells #[.int .i64 2, .int .i64 n, .string ⟨#[]⟩, .slice none 0 0] 32)
 have hB := Blk.new w 32 #[.int .i64 2, .int .i64 n, .string ⟨#[]⟩, .slice none 0 0]
 generalize w.alloc (.cells #[.int .i64 2, .int .i64 n, .string ⟨#[]⟩, .slice none 0 0] 32) = V at hE hB ⊢
 have r0 : V.cell? ⟨w.heap.size, 0, none⟩ = some (.int .i64 2) := hB.cell 0
 have r1 : V.cell? ⟨w.heap.size, 1, none⟩ = some (.int .i64 n) := hB.cell 1
 have r2 : V.cell? ⟨w.heap.size, 2, none⟩ = some (.string ⟨#[]⟩) := hB.cell 2
 have r3 : V.cell? ⟨w.heap.size, 3, none⟩ = some (.slice none 0 0) := hB.cell 3
 refine bodyPost_ret (v := .agg #[.int .i64 2, .int .i64 n, .string ⟨#[]⟩, .slice none 0 0]) (by simp [results, Tryz.results35, go_sem, r0, r1, r2, r3]) rfl ⟨rfl, hE⟩
set_option maxRecDepth 100000 in
set_option maxHeartbeats 4000000 in
theorem refComp_any (s : ByteArray) (M : List TmP) (A : Option Addr) (c : Nat) (w : World) (D : Nat → Prop) (hs : El.Src w A M.length 4 (flat tmC M)) (hk : ∀ p ∈ M, TmIn D w p.1 p.2.1 p.2.2) (hn : M ≠ []) (hl : M.length ≤ 1000) (hD : ∀ k, D k → k < w.heap.size) :
  Calls Tryz.prog 33 #[.string s, .slice A M.length c] w fun e w' => ∃ A' c', e = .returned (.agg #[.int .i64 4, .int .i64 0, .string s, .slice A' M.length c']) ∧ TmIn (fun k => D k ∨ (w.heap.size ≤ k ∧ k < w'.heap.size)) w' (.mk 4 0 s (M.map (·.1))) A' c' ∧ Ext w w' := by
 obtain ⟨i1, hi1, hz0, hz1, hz2⟩ := infoP tmInfo4
 have q1 : ((M.length : Int) == 0) = false := by
  have : M.length ≠ 0 := fun e => hn (List.eq_nil_of_length_eq_zero e)
  simpa using this
 have HO := Lib.hid (own_empty (w.alloc (.cells #[.int .i64 0, .int .i64 0, .string ⟨#[]⟩, .slice none 0 0] 32)) 32 4)
 rw [World.size_alloc] at HO
 have HS := Lib.hid (hs.ext (((Ext.refl w).alloc (.cells #[.int .i64 0, .int .i64 0, .string ⟨#[]⟩, .slice none 0 0] 32)).alloc (.cells #[] 32)))
 have hone : ∀ u ∈ flat tmC M, u.oneCell' = true := fun u hu => by
  obtain ⟨p, _, h⟩ := List.mem_flatMap.1 hu
  exact tmC_one p u h
 have HONE := Lib.hid hone
 have HK := Lib.hid hk
 have HD := Lib.hid hD
 clear hs hn hone hk hD
 go_enter Tryz.func33, Tryz.ntmps33
 go_wp2_with (at_builtin; refine wpList_append_src (P := Tryz.prog) rfl (.tmp 11) (.tmp 12) 30 rfl 32 i1 _ 4 56 Tryz.underlying30 hi1 hz0 hz1 hz2 rfl (by omega) (.slice (some ⟨w.heap.size + 1, 0, none⟩) 0 0) rfl _ _ _ rfl 0 [] HO.out (flat tmC M) HS.out HONE.out (by unfold maxLen; omega) (by omega) ?_; intro v3 w3 ho3 hm3 hb3; rw [Nat.zero_add, List.nil_append] at ho3; obtain ⟨A3, c3, rfl⟩ := own_value ho3; have hB3 := ((Blk.new w 32 #[.int .i64 0, .int .i64 0, .string ⟨#[]⟩, .slice none 0 0]).alloc (.cells #[] 32)).mods hm3 (by simp [ownL, Value.ownBlock]); have zc := hB3.cell; have zf := hB3.frozen; have HO3 := Lib.hid ho3; have HM3 := Lib.hid hm3; have HB3 := Lib.hid hB3; have HV3 := Lib.hid hb3; clear ho3 hm3 hB3 hb3)
 have hbf := (((HB3.out.set_ 0 (.int .i64 4)).set_ 1 (.int .i64 0)).set_ 2 (.string s)).set_ 3 (.slice A3 M.length c3)
 have hlt := HB3.out.lt
 have hown : ∀ k, (Value.slice A3 M.length c3).ownBlock = some k → w.heap.size + 1 ≤ k ∧ k < w3.heap.size := fun k e => by
  refine ⟨?_, (HO3.out.lt k e).2⟩
  rcases HV3.out with h | h
  ·rw [h] at e
   simp [Value.ownBlock] at e
   omega
  ·rw [h] at e
   simp [World.size_alloc] at e
   omega
 have hE3 : Ext w w3 := ext_mods (((Ext.refl w).alloc _).alloc _) HM3.out (fun k hk => by simp [ownL, Value.ownBlock] at hk; omega)
 have hno : (Value.slice A3 M.length c3).ownBlock ≠ some w.heap.size := fun e => by have := (hown _ e).1; omega
 have hO := ownsRow_setCell_other (ownsRow_setCell_other (ownsRow_setCell_other (ownsRow_setCell_other HO3.out (a := ⟨w.heap.size, 0, none⟩) hno (.int .i64 4)) (a := ⟨w.heap.size, 1, none⟩) hno (.int .i64 0)) (a := ⟨w.heap.size, 2, none⟩) hno (.string s)) (a := ⟨w.heap.size, 3, none⟩) hno (.slice A3 M.length c3)
 have hEF := (((hE3.setCell (p := ⟨w.heap.size, 0, none⟩) (by simp) (.int .i64 4)).setCell (p := ⟨w.heap.size, 1, none⟩) (by simp) (.int .i64 0)).setCell (p := ⟨w.heap.size, 2, none⟩) (by simp) (.string s)).setCell (p := ⟨w.heap.size, 3, none⟩) (by simp) (.slice A3 M.length c3)
 have hsz : ((((w3.setCell ⟨w.heap.size, 0, none⟩ (.int .i64 4)).setCell ⟨w.heap.size, 1, none⟩ (.int .i64 0)).setCell ⟨w.heap.size, 2, none⟩ (.string s)).setCell ⟨w.heap.size, 3, none⟩ (.slice A3 M.length c3)).heap.size = w3.heap.size := by simp
 generalize (((w3.setCell ⟨w.heap.size, 0, none⟩ (.int .i64 4)).setCell ⟨w.heap.size, 1, none⟩ (.int .i64 0)).setCell ⟨w.heap.size, 2, none⟩ (.string s)).setCell ⟨w.heap.size, 3, none⟩ (.slice A3 M.length c3) = VF at hbf hO hEF hsz ⊢
 have r0 : VF.cell? ⟨w.heap.size, 0, none⟩ = some (.int .i64 4) := hbf.cell 0
 have r1 : VF.cell? ⟨w.heap.size, 1, none⟩ = some (.int .i64 0) := hbf.cell 1
 have r2 : VF.cell? ⟨w.heap.size, 2, none⟩ = some (.string s) := hbf.cell 2
 have r3 : VF.cell? ⟨w.heap.size, 3, none⟩ = some (.slice A3 M.length c3) := hbf.cell 3
 refine bodyPost_ret (v := .agg #[.int .i64 4, .int .i64 0, .string s, .slice A3 M.length c3]) (by simp [results, Tryz.results33, go_sem, r0, r1, r2, r3]) rfl ⟨A3, c3, rfl, ?_, hEF⟩
 refine src_tm (Src.of_own hO) (fun p hp => ((HK.out p hp).ext hEF).mono (fun k hk => .inl hk)) (fun b off e => ?_) (own_cap hO) 4 0 s
 subst e
 have := hown b rfl
 exact .inr ⟨by omega, by omega⟩
end Go.Proofs.YtgcdhffeacdegaaGreatDoor
