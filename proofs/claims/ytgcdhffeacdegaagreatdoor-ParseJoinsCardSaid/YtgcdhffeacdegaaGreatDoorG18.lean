/- Layer 10, the program: the walks of begins, fail. -/
import Derived.Test.YtgcdhffeacdegaaGreatDoorG17
import Derived.Test.YtgcdhffeacdegaaGreatDoorG07
namespace Go.Proofs.YtgcdhffeacdegaaGreatDoor
open Go.RowKit Go.El

theorem tok_kind {t : TokV} (h : tokOk t = true) : t.kind = 1 ∨ t.kind = 2 ∨ t.kind = 3 ∨ t.kind = 4 ∨ t.kind = 5 ∨ t.kind = 6 := by
  unfold tokOk at h
  simp only [Bool.and_eq_true, Bool.or_eq_true, decide_eq_true_eq] at h
  have := h.1.1.1
  rcases this with ((((h | h) | h) | h) | h) | h
  · exact .inl h
  · exact .inr (.inl h)
  · exact .inr (.inr (.inl h))
  · exact .inr (.inr (.inr (.inl h)))
  · exact .inr (.inr (.inr (.inr (.inl h.1))))
  · exact .inr (.inr (.inr (.inr (.inr h))))
/-- What begins answers. -/
def BegPost (f : PF) (w : World) (r : List TokV) (nv : Value) (ns : List ByteArray) (bad : Bool) (b : Bool) (e : Ending) (w' : World) : Prop := e = .returned (.bool b) ∧ PaAt f w' r nv ns bad ∧ PStep f.S nv w nv w'

set_option maxRecDepth 100000 in
set_option maxHeartbeats 4000000 in
theorem paBegins {f : PF} {w : World} {r : List TokV} {nv : Value} {ns : List ByteArray} {bad : Bool} (h : PaAt f w r nv ns bad) :
    Calls Tryz.prog 145 #[.pointer (some ⟨f.pb, 0, none⟩)] w (BegPost f w r nv ns bad (beginsB f.O r)) := by
  obtain ⟨t, q, e⟩ := ToksOk.ne h.suf h.nil
  have hk := tok_kind (h.toks.head h.suf e)
  have HN := fun W (x : Ext w W) => Lib.hid (paNext (h.ext x) e)
  have F0 := tokF0 t.kind t.n t.at_ t.s t.lay
  unfold tokA at HN
  have H := Lib.hid h
  obtain ⟨bb, hbb⟩ : ∃ bb, beginsB f.O r = bb := ⟨_, rfl⟩
  rw [hbb]
  have hbd := hbb
  rw [e] at hbd
  simp only [beginsB] at hbd
  by_cases hk1 : t.kind = 2 ∨ t.kind = 3 ∨ t.kind = 4
  · rw [if_pos hk1] at hbd
    subst hbd
    rcases hk1 with k | k | k
    all_goals
      rw [k] at HN F0
      clear h e hk k hbb
      go_enter Tryz.func145, Tryz.ntmps145
      go_wp2_with (go_at_call 42; refine (HN _ (Ext.refl _)).out.mono ?_; rintro e W1 ⟨rfl, hx⟩; have X1 := Lib.hid hx; clear hx)
      go_ret
      exact ⟨rfl, H.out.ext X1.out, PStep.ext X1.out⟩
  · rw [if_neg hk1] at hbd
    by_cases hk5 : t.kind = 5
    · rw [if_pos hk5] at hbd
      have HI40 := fun W (x : Ext w W) => Lib.hid (paIs ⟨#[40]⟩ (h.ext x))
      have HI91 := fun W (x : Ext w W) => Lib.hid (paIs ⟨#[91]⟩ (h.ext x))
      have HI123 := fun W (x : Ext w W) => Lib.hid (paIs ⟨#[123]⟩ (h.ext x))
      simp only [isPs_lit] at HI40 HI91 HI123
      rw [← e] at hbd
      rw [hk5] at HN F0
      clear h e hk hk1 hk5 hbb
      cases h40 : isPu r 40
      · rw [h40] at HI40 hbd
        cases h91 : isPu r 91
        · rw [h91] at HI91 hbd
          simp only [Bool.false_or] at hbd
          rw [hbd] at HI123
          clear h40 h91 hbd
          go_enter Tryz.func145, Tryz.ntmps145
          go_wp2_with (first | (go_at_call 42; refine (HN _ (Ext.refl _)).out.mono ?_; rintro e W1 ⟨rfl, hx⟩; have X1 := Lib.hid hx; clear hx) | (go_at_call 100; (with_reducible refine (HI40 _ X1.out).out.mono ?_); rintro e W2 ⟨rfl, hx⟩; have X2 := Lib.hid (X1.out.trans hx); clear hx) | (go_at_call 100; (with_reducible refine (HI91 _ X2.out).out.mono ?_); rintro e W3 ⟨rfl, hx⟩; have X3 := Lib.hid (X2.out.trans hx); clear hx) | (go_at_call 100; (with_reducible refine (HI123 _ X3.out).out.mono ?_); rintro e W4 ⟨rfl, hx⟩; have X4 := Lib.hid (X3.out.trans hx); clear hx))
          go_ret
          exact ⟨rfl, H.out.ext X4.out, PStep.ext X4.out⟩
        · rw [h91] at HI91 hbd
          simp only [Bool.false_or, Bool.true_or] at hbd
          subst hbd
          clear h40 h91 HI123
          go_enter Tryz.func145, Tryz.ntmps145
          go_wp2_with (first | (go_at_call 42; refine (HN _ (Ext.refl _)).out.mono ?_; rintro e W1 ⟨rfl, hx⟩; have X1 := Lib.hid hx; clear hx) | (go_at_call 100; (with_reducible refine (HI40 _ X1.out).out.mono ?_); rintro e W2 ⟨rfl, hx⟩; have X2 := Lib.hid (X1.out.trans hx); clear hx) | (go_at_call 100; (with_reducible refine (HI91 _ X2.out).out.mono ?_); rintro e W3 ⟨rfl, hx⟩; have X3 := Lib.hid (X2.out.trans hx); clear hx))
          go_ret
          exact ⟨rfl, H.out.ext X3.out, PStep.ext X3.out⟩
      · rw [h40] at HI40 hbd
        simp only [Bool.true_or] at hbd
        subst hbd
        clear h40 HI91 HI123
        go_enter Tryz.func145, Tryz.ntmps145
        go_wp2_with (first | (go_at_call 42; refine (HN _ (Ext.refl _)).out.mono ?_; rintro e W1 ⟨rfl, hx⟩; have X1 := Lib.hid hx; clear hx) | (go_at_call 100; (with_reducible refine (HI40 _ X1.out).out.mono ?_); rintro e W2 ⟨rfl, hx⟩; have X2 := Lib.hid (X1.out.trans hx); clear hx))
        go_ret
        exact ⟨rfl, H.out.ext X2.out, PStep.ext X2.out⟩
    · rw [if_neg hk5] at hbd
      by_cases hk6 : t.kind = 1
      · rw [if_pos hk6] at hbd
        have hbe : (!(findO t.s f.I).isSome || (findO t.s f.Q).isSome || opensB q) = bb := hbd
        have HM := fun W (x : Ext w W) => Lib.hid (paName (h.ext x) e hk6)
        rw [hbe] at HM
        rw [hk6] at HN F0
        clear h e hk hk1 hk5 hbb hbd hbe hk6
        go_enter Tryz.func145, Tryz.ntmps145
        go_wp2_with (first | (go_at_call 42; refine (HN _ (Ext.refl _)).out.mono ?_; rintro e W1 ⟨rfl, hx⟩; have X1 := Lib.hid hx; clear hx) | (go_at_call 170; refine (HM _ X1.out).out.mono ?_; rintro e W2 ⟨rfl, h2, s2⟩; have H2 := Lib.hid h2; have S2 := Lib.hid ((PStep.ext X1.out).trans s2); clear h2 s2))
        go_ret
        exact ⟨rfl, H2.out, S2.out⟩
      · rw [if_neg hk6] at hbd
        subst hbd
        have k6 : t.kind = 6 := by omega
        rw [k6] at HN F0
        clear h e hk hk1 hk5 hbb hk6 k6
        go_enter Tryz.func145, Tryz.ntmps145
        go_wp2_with (go_at_call 42; refine (HN _ (Ext.refl _)).out.mono ?_; rintro e W1 ⟨rfl, hx⟩; have X1 := Lib.hid hx; clear hx)
        go_ret
        exact ⟨rfl, H.out.ext X1.out, PStep.ext X1.out⟩

/-- The blocks of a parser lie below B. -/
def PF.old (f : PF) (B : Nat) : Prop := f.pb < B ∧ f.mb < B ∧ f.tb < B ∧ 0 < B ∧ ∀ a, f.A = some a → a.block < B
theorem PaAt.old {f : PF} {w : World} {r : List TokV} {nv : Value} {ns : List ByteArray} {bad : Bool} (h : PaAt f w r nv ns bad) : f.old w.heap.size := by
  obtain ⟨m1, m2, _, c1, _⟩ := h.ops
  obtain ⟨ps, hm, _⟩ := h.map
  exact ⟨h.blk.lt, hm.lt, c1.2.2, h.typc.2.2, fun a ha => (h.ca a ha).2.2⟩
theorem PF.old.mono {f : PF} {B C : Nat} (h : f.old B) (hc : B ≤ C) : f.old C := by
  obtain ⟨h1, h2, h3, h4, h5⟩ := h
  exact ⟨by omega, by omega, by omega, by omega, fun a ha => by have := h5 a ha; omega⟩
/-- A block of the call's own is written. -/
theorem PaAt.far {f : PF} {B : Nat} {W : World} {r : List TokV} {nv : Value} {ns : List ByteArray} {bad : Bool} (h : PaAt f W r nv ns bad) (ho : f.old B) {z : Nat} (hz : B ≤ z) {T : TypeId} {cs : Array Value} (hb : Blk W z T cs) (hT : T ≠ 9) (i : Nat) (u : Value) :
    PaAt f (W.setCell ⟨z, i, none⟩ u) r nv ns bad := by
  obtain ⟨h1, h2, h3, h4, h5⟩ := ho
  obtain ⟨m1, m2, ht, c1, c2, c3⟩ := h.ops
  have hm := (Mods.refl [z] W).setCell (p := ⟨z, i, none⟩) (.inl (by simp)) u
  have hnz : nv.ownBlock ≠ some z := fun e => own_heap h.own hb (.inl hT) (by simp [ownL, e])
  have hsz : ∀ k, Clr2 f.S nv W k → Clr2 f.S nv (W.setCell ⟨z, i, none⟩ u) k := fun k hk => ⟨hk.1, hk.2.1, by have := hk.2.2; simpa using this⟩
  obtain ⟨es1, k1, hm1, _⟩ := id ht.mi
  obtain ⟨es2, k2, hm2, _⟩ := id ht.mq
  have hm1z : m1 ≠ z := fun e => by
    rw [e, hb] at hm1
    cases hm1
  have hm2z : m2 ≠ z := fun e => by
    rw [e, hb] at hm2
    cases hm2
  exact ⟨h.blk.far (p := ⟨z, i, none⟩) (by simp; omega) u, ownsRow_setCell_other h.own hnz u, h.map.imp fun _ k => ⟨map_set k.1 _, k.2⟩,
    h.tok.mods hm (fun a ha => by have := h5 a ha; simp; omega), h.toks, h.suf, h.nil, ⟨m1, m2, ht.mods hm (by simp; omega) (by simp [hm1z]) (by simp [hm2z]), hsz _ c1, hsz _ c2, hsz _ c3⟩, h.bnd,
    h.typ.mods hm (by simp; omega), hsz _ h.typc, fun a ha => hsz _ (h.ca a ha), h.pm, h.np, h.nm, h.nl, h.cp⟩
theorem pstep_far {S : List Nat} {nv nv' : Value} {w W : World} (s : PStep S nv w nv' W) {z : Nat} (hz : w.heap.size ≤ z) (i : Nat) (u : Value) : PStep S nv w nv' (W.setCell ⟨z, i, none⟩ u) :=
  ⟨s.mods.setCell (p := ⟨z, i, none⟩) (.inr hz) u, s.own⟩
/-- The blocks of what was made since w. -/
def NewT (S : List Nat) (nv : Value) (w W : World) (k : Nat) : Prop := w.heap.size ≤ k ∧ Clr2 S nv W k
theorem NewT.step {S : List Nat} {nv nv' : Value} {w W W' : World} (s : PStep S nv W nv' W') {k : Nat} (h : NewT S nv w W k) : NewT S nv' w W' k := ⟨h.1, s.clr h.2⟩
theorem pstep_tmN {S : List Nat} {nv nv' : Value} {w W W' : World} (s : PStep S nv W nv' W') {t : Tm} {A : Option Addr} {c : Nat} (ht : TmIn (NewT S nv w W) W t A c) : TmIn (NewT S nv' w W') W' t A c :=
  TmIn.mods s.mods (fun _ hk => hk.2.no) (fun _ hk => hk.step s) ht
theorem tmN_far {S : List Nat} {nv : Value} {w W : World} {t : Tm} {A : Option Addr} {c : Nat} (ht : TmIn (NewT S nv w W) W t A c) {z : Nat} (hz : z < w.heap.size) (i : Nat) (u : Value) : TmIn (NewT S nv w (W.setCell ⟨z, i, none⟩ u)) (W.setCell ⟨z, i, none⟩ u) t A c :=
  TmIn.mods (S := [z]) ((Mods.refl [z] W).setCell (p := ⟨z, i, none⟩) (.inl (by simp)) u) (fun k hk => by have := hk.1; simp; omega) (fun k hk => ⟨hk.1, hk.2.1, hk.2.2.1, by have := hk.2.2.2; simpa using this⟩) ht
theorem tmN_wide {S : List Nat} {nv : Value} {w w1 W : World} {t : Tm} {A : Option Addr} {c : Nat} (ht : TmIn (NewT S nv w1 W) W t A c) (h : w.heap.size ≤ w1.heap.size) : TmIn (NewT S nv w W) W t A c := ht.mono (fun _ hk => ⟨Nat.le_trans h hk.1, hk.2⟩)

/-- The four cells of a result that is a term. -/
def set4 (W : World) (z : Nat) (a b c d : Value) : World := (((W.setCell ⟨z, 0, none⟩ a).setCell ⟨z, 1, none⟩ b).setCell ⟨z, 2, none⟩ c).setCell ⟨z, 3, none⟩ d
theorem set4_eq (W : World) (z : Nat) (a b c d : Value) : (((W.setCell ⟨z, 0, none⟩ a).setCell ⟨z, 1, none⟩ b).setCell ⟨z, 2, none⟩ c).setCell ⟨z, 3, none⟩ d = set4 W z a b c d := rfl
theorem PaAt.set4 {f : PF} {B : Nat} {W : World} {r : List TokV} {nv : Value} {ns : List ByteArray} {bad : Bool} (h : PaAt f W r nv ns bad) (ho : f.old B) {z : Nat} (hz : B ≤ z) {a' b' c' d' : Value} (hb : Blk W z 32 #[a', b', c', d']) (a b c d : Value) :
    PaAt f (Go.Proofs.YtgcdhffeacdegaaGreatDoor.set4 W z a b c d) r nv ns bad := by
  have hT : 32 ≠ 9 := by decide
  have h0 := h.far ho hz hb hT 0 a
  have b0 := hb.set_ 0 a
  have h1 := h0.far ho hz b0 hT 1 b
  have b1 := b0.set_ 1 b
  have h2 := h1.far ho hz b1 hT 2 c
  have b2 := b1.set_ 2 c
  exact h2.far ho hz b2 hT 3 d
theorem pstep_set4 {S : List Nat} {nv nv' : Value} {w W : World} (s : PStep S nv w nv' W) {z : Nat} (hz : w.heap.size ≤ z) (a b c d : Value) : PStep S nv w nv' (Go.Proofs.YtgcdhffeacdegaaGreatDoor.set4 W z a b c d) :=
  pstep_far (pstep_far (pstep_far (pstep_far s hz 0 a) hz 1 b) hz 2 c) hz 3 d
theorem tmN_set4 {S : List Nat} {nv : Value} {w W : World} {t : Tm} {A : Option Addr} {c0 : Nat} (ht : TmIn (NewT S nv w W) W t A c0) {z : Nat} (hz : z < w.heap.size) (a b c d : Value) : TmIn (NewT S nv w (set4 W z a b c d)) (set4 W z a b c d) t A c0 :=
  tmN_far (tmN_far (tmN_far (tmN_far ht hz 0 a) hz 1 b) hz 2 c) hz 3 d
theorem blk_s4 {W : World} {z : Nat} {T : TypeId} {a' b' c' d' : Value} (hb : Blk W z T #[a', b', c', d']) (a b c d : Value) : Blk (set4 W z a b c d) z T #[a, b, c, d] := blk_set4 hb a b c d

def tmZ : Value := .agg #[.int .i64 0, .int .i64 0, .string ⟨#[]⟩, .slice none 0 0]
set_option maxRecDepth 100000 in
set_option maxHeartbeats 4000000 in
theorem paFail {f : PF} {w : World} {r : List TokV} {nv : Value} {ns : List ByteArray} {bad : Bool} (h : PaAt f w r nv ns bad) :
    Calls Tryz.prog 94 #[.pointer (some ⟨f.pb, 0, none⟩)] w fun e w' => e = .returned (.tuple #[tmZ, .int .i64 0]) ∧ PaAt f w' r nv ns true ∧ PStep f.S nv w nv w' := by
  have hp : f.pb < w.heap.size := h.blk.lt
  have HO := Lib.hid h.old
  have s1 := h.setB true
  have hx := ext_box4 (w.setCell ⟨f.pb, 5, none⟩ (.bool true)) (.cells #[.int .i64 0, .int .i64 0, .string ⟨#[]⟩, .slice none 0 0] 32)
  have H1 := Lib.hid (s1.1.ext hx)
  have S1 := Lib.hid (s1.2.trans (PStep.ext hx))
  have hz := Blk.new (w.setCell ⟨f.pb, 5, none⟩ (.bool true)) 32 #[.int .i64 0, .int .i64 0, .string ⟨#[]⟩, .slice none 0 0]
  rw [World.size_setCell] at hz
  have HZ1 := Lib.hid hz
  have c5 := h.cells.c5
  have f5 := h.blk.frozen 5
  clear h hx s1 hz
  go_enter Tryz.func94, Tryz.ntmps94
  go_upto_region 2 with fail
  generalize (w.setCell ⟨f.pb, 5, none⟩ (.bool true)).alloc (.cells #[.int .i64 0, .int .i64 0, .string ⟨#[]⟩, .slice none 0 0] 32) = W1 at *
  clear c5 f5
  have zc := HZ1.out.cell
  have zf := HZ1.out.frozen
  go_wp2_with fail
  have kb := blk_set4 HZ1.out (.int .i64 0) (.int .i64 0) (.string ⟨#[]⟩) (.slice none 0 0)
  have kc := kb.cell
  have h4 := H1.out.set4 HO.out (Nat.le_refl _) HZ1.out (.int .i64 0) (.int .i64 0) (.string ⟨#[]⟩) (.slice none 0 0)
  have s4 := pstep_set4 S1.out (Nat.le_refl _) (.int .i64 0) (.int .i64 0) (.string ⟨#[]⟩) (.slice none 0 0)
  refine bodyPost_ret (v := .tuple #[tmZ, .int .i64 0]) ?_ rfl ⟨rfl, h4, s4⟩
  simp [results, Tryz.results94, go_sem, tmZ, kc]
end Go.Proofs.YtgcdhffeacdegaaGreatDoor

/- Layer 8, the program: the walk of row. -/
namespace Go.Proofs.YtgcdhffeacdegaaGreatDoor
open Go.RowKit Go.El

theorem quiet_left {P : Program} {f : FuncId} {args : Array Value} {w : World} {n : Nat} {v : Value} (h : Calls P f args (w.drewN n) fun e w' => e = .returned v ∧ w.drewN n = w') : Calls P f args (w.drewN n) fun e w'' => e = .returned v ∧ ∃ m, w'' = w.drewN m :=
  h.mono fun _ _ ⟨he, hw⟩ => ⟨he, n, hw.symm⟩
theorem in8_any (c : UInt8) (s : ByteArray) (w : World) :
    Calls Tryz.prog 85 #[.int .u8 (c.toNat : Int), .string s] w fun e w' => e = .returned (.bool (hasB s c)) ∧ w = w' := by
  have := in_any (c.toNat : Int) s w
  simpa using this

/-- The place of a scanner, read off its block. -/
def placeOf (w : World) (sb : Nat) : Nat := (intOf ((w.cell? ⟨sb, 1, none⟩).getD undef)).toNat
theorem place_at {w : World} {sb b off cap : Nat} {B : List UInt8} {i : Nat} (h : ScAt w sb b off cap B i) : placeOf w sb = i := by
  unfold placeOf
  rw [h.c1]
  simp [intOf]

/-- The string of a part of a scanner's text. -/
theorem ScAt.conv {w : World} {sb b off cap : Nat} {B : List UInt8} {i : Nat} (h : ScAt w sb b off cap B i) (j k : Nat) (hjk : j ≤ k) (hk : k ≤ B.length) : (convert 23 9 (.slice (some ⟨b, off + j, none⟩) (k - j) (cap - j))).run Tryz.prog w = .ok (.string (strB (sub B j k))) w := by
  have h2 := conv_str (cap - j) (bytes_sub h.src j k hjk hk)
  rw [sub_length hk] at h2
  exact h2
theorem conv0 (w : World) (b off c : Nat) : (convert 23 9 (.slice (some ⟨b, off, none⟩) 0 c)).run Tryz.prog w = .ok (.string ⟨#[]⟩) w :=
  conv_str (l := []) c (El.Src.none w (some ⟨b, off, none⟩) 1)
theorem ScAt.frozen {w : World} {sb b off cap : Nat} {B : List UInt8} {i : Nat} (h : ScAt w sb b off cap B i) : w.frozen? ⟨sb, 1, none⟩ = false := h.blk.frozen 1
theorem ScAt.cells {w : World} {sb b off cap : Nat} {B : List UInt8} {i : Nat} (h : ScAt w sb b off cap B i) {j : Nat} {c : UInt8} (hj : B[j]? = some c) : w.cell? ⟨b, off + j, none⟩ = some (.int .u8 (c.toNat : Int)) := by
  obtain ⟨b', off', he, hc⟩ := bytes_at h.src (List.getElem?_eq_some_iff.1 hj).1
  injection he with he
  injection he with he1 he2
  subst he1 he2
  exact hc j c hj

theorem ScAt.to {w : World} {sb b off cap : Nat} {B : List UInt8} {i : Nat} (h : ScAt w sb b off cap B i) {j : Nat} {v : Int} (hj : j ≤ B.length) (hv : v = (j : Int)) : ScAt (w.setCell ⟨sb, 1, none⟩ (.int .i64 v)) sb b off cap B j := by
  subst hv
  exact h.move hj
/-- A scanner in a later world of a call: at a place; nothing else turned. -/
structure ScIn (w wr : World) (sb b off cap : Nat) (B : List UInt8) (k : Nat) : Prop where
  sc : ScAt wr sb b off cap B k
  mods : Mods [sb] w wr
theorem ScIn.go {w wr V : World} {sb b off cap : Nat} {B : List UInt8} {k : Nat} (h : ScIn w wr sb b off cap B k) (x : Ext wr V) : ScIn w V sb b off cap B k := ⟨h.sc.ext x, h.mods.trans (Mods.ext x)⟩
theorem ScIn.drewN {w wr : World} {sb b off cap : Nat} {B : List UInt8} {k : Nat} (h : ScIn w wr sb b off cap B k) (n : Nat) : ScIn w (wr.drewN n) sb b off cap B k := h.go ((Ext.refl wr).drewN n)
theorem ScIn.to {w wr : World} {sb b off cap : Nat} {B : List UInt8} {k : Nat} (h : ScIn w wr sb b off cap B k) {j : Nat} {v : Int} (hj : j ≤ B.length) (hv : v = (j : Int)) : ScIn w (wr.setCell ⟨sb, 1, none⟩ (.int .i64 v)) sb b off cap B j := ⟨h.sc.to hj hv, h.mods.setCell (.inl (by simp)) _⟩
theorem ScIn.then {w wr V : World} {sb b off cap : Nat} {B : List UInt8} {k j : Nat} (h : ScIn w wr sb b off cap B k) (g : ScIn wr V sb b off cap B j) : ScIn w V sb b off cap B j := ⟨g.sc, h.mods.trans g.mods⟩
theorem ScIn.start {w : World} {sb b off cap : Nat} {B : List UInt8} {k : Nat} (h : ScAt w sb b off cap B k) : ScIn w w sb b off cap B k := ⟨h, Mods.refl _ _⟩

set_option maxRecDepth 100000 in
set_option maxHeartbeats 4000000 in
theorem row_any (sb b off cap : Nat) (B : List UInt8) (i : Nat) (cs : ByteArray) (p : UInt8 → Bool) (hp : ∀ c, hasB cs c = p c) (w : World) (h : ScAt w sb b off cap B i) :
    Calls Tryz.prog 133 #[.pointer (some ⟨sb, 0, none⟩), .string cs] w fun e w' => e = .returned (.string (strB (sub B i (rowTo p B i)))) ∧ ScIn w w' sb b off cap B (rowTo p B i) := by
  have c0 := h.c0
  have c1 := h.c1
  have hat := h.at_
  have hcp := h.cap
  have hlen := h.len
  have H := Lib.hid h
  have HP := Lib.hid hp
  clear h hp
  go_enter Tryz.func133, Tryz.ntmps133
  go_wp2_with fail
  go_loopw [40] (fun _ wr => ∃ k : Nat, i ≤ k ∧ Hid (ScIn w wr sb b off cap B k) ∧ Hid (rowTo p B i = rowTo p B k)) (fun _ wr => B.length - placeOf wr sb)
  case atStart => exact ⟨i, Nat.le_refl _, ScIn.start H.out, rfl⟩
  case round =>
    obtain ⟨k, hik, HS, HR⟩ := hrel
    have d1 := HS.out.sc.c0
    have d2 := HS.out.sc.c1
    have hkl := HS.out.sc.at_
    by_cases hlt : k < B.length
    · have ho : B[k]? = some B[k] := List.getElem?_eq_getElem hlt
      generalize B[k] = c at ho
      have d0 := HS.out.sc.cells ho
      have hin := HP.out c
      have hci : ¬ cap = i := by omega
      cases hb : p c
      · have HN := Lib.hid (HR.out.trans (rowTo_no ho hb))
        rw [hb] at hin
        clear ho hb
        go_upto_region 2 with fail
        go_quiet ((go_at_call 85; exact quiet_left (in8_any _ _ _)))
        go_upto_region 4 with fail
        refine wp_abs (fun V => ScIn w V sb b off cap B k) (HS.out.drewN _) ?_
        clear d0 d1 d2 HS
        rintro V hV
        have d1 := hV.sc.c0
        have d2 := hV.sc.c1
        have hcv := fun n => (hV.drewN n).sc.conv i k hik hkl
        generalize hgs : strB (sub B i k) = z at hcv
        have HZ := Lib.hid hgs
        have HV := Lib.hid hV
        clear hgs hV
        go_quiet (fail)
        go_wp2_with fail
        go_ret
        exact ⟨by rw [HN.out, HZ.out]; rfl, by rw [HN.out]; exact HV.out.drewN _⟩
      · have HN := Lib.hid (HR.out.trans (rowTo_yes ho hb))
        rw [hb] at hin
        clear ho hb
        go_upto_region 2 with fail
        go_quiet ((go_at_call 85; exact quiet_left (in8_any _ _ _)))
        go_upto_region 3 with fail
        have hplace := place_at HS.out.sc
        refine wp_abs (fun V => ScIn w V sb b off cap B k) (HS.out.drewN _) ?_
        clear d0 d1 d2
        rintro V hV
        have d1 := hV.sc.c0
        have d2 := hV.sc.c1
        have f2 := hV.sc.frozen
        have HV := Lib.hid hV
        clear hV
        go_wp2_with fail
        go_roundw
        case rel => exact ⟨k + 1, by omega, HV.out.to hlt (by omega), HN.out⟩
        case measure =>
          have h2 := place_at (HV.out.to (j := k + 1) (v := (k : Int) + 1) hlt (by omega)).sc
          rw [h2, hplace]
          omega
    · obtain rfl : k = B.length := by omega
      have HN := Lib.hid (HR.out.trans (rowTo_end (List.getElem?_eq_none (Nat.le_refl _))))
      go_upto_region 2 with fail
      go_quiet (fail)
      go_upto_region 4 with fail
      refine wp_abs (fun V => ScIn w V sb b off cap B B.length) (HS.out.drewN _) ?_
      clear d1 d2 HS
      rintro V hV
      have d1 := hV.sc.c0
      have d2 := hV.sc.c1
      by_cases hci : cap = i
      · have hii : i = B.length := by omega
        have hcv := fun n => conv0 (V.drewN n) b off 0
        have HV := Lib.hid hV
        have hz : strB (sub B i B.length) = ⟨#[]⟩ := by rw [hii]; simp [sub, strB]
        have HZ := Lib.hid hz
        subst hii
        subst hci
        clear hV hz
        go_quiet (fail)
        go_wp2_with fail
        go_ret
        exact ⟨by rw [HN.out, HZ.out]; rfl, by rw [HN.out]; exact HV.out.drewN _⟩
      · have hcv := fun n => (hV.drewN n).sc.conv i B.length hik hkl
        generalize hgs : strB (sub B i B.length) = z at hcv
        have HZ := Lib.hid hgs
        have HV := Lib.hid hV
        clear hgs hV
        go_quiet (fail)
        go_wp2_with fail
        go_ret
        exact ⟨by rw [HN.out, HZ.out]; rfl, by rw [HN.out]; exact HV.out.drewN _⟩

end Go.Proofs.YtgcdhffeacdegaaGreatDoor
