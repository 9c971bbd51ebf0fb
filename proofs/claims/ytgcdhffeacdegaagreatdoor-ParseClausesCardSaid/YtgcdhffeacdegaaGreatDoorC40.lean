/- Layer 10, the reference: the parser's state. -/
import Derived.Test.YtgcdhffeacdegaaGreatDoorC18
import Derived.Deep.QuietTactic
import Derived.BigQuiet
namespace Go.Proofs.YtgcdhffeacdegaaGreatDoor
open Go.RowKit Go.El

/-- What stays of the reference's parser: its block, the tokens, the operators. -/
structure RF where
  pb : Nat
  A : Option Addr
  cap : Nat
  L : List TokV
  I : List OpV
  Q : List OpV
  T : List OpV
  tb : Nat
  tv : Value
def RF.S (f : RF) : List Nat := [f.pb, f.pb]
def RF.pf (f : RF) : PF := ⟨f.pb, f.pb, f.A, f.cap, f.L, f.I, f.Q, f.tb⟩
def RF.O (f : RF) : Ops := ⟨fun s => findO s f.I, fun s => findO s f.Q⟩
def raA (f : RF) (r : List TokV) (nv : Value) (bad : Bool) : Array Value := #[.slice f.A f.L.length f.cap, .int .i64 (plI f.L r : Int), .pointer (some ⟨f.tb, 0, none⟩), nv, .bool bad]
/-- A parser that stands at r, with these names. -/
structure RaAt (f : RF) (w : World) (r : List TokV) (nv : Value) (ns : List ByteArray) (bad : Bool) : Prop where
  blk : Blk w f.pb 87 (raA f r nv bad)
  own : w.ownsRow 0 9 1 nv ns.length (ns.map Value.string)
  tok : El.Src w f.A f.L.length 5 (flat tokCells f.L)
  toks : ToksOk f.L
  suf : r <:+ f.L
  nil : r ≠ []
  ref : RefAt 70 w f.tb f.tv f.T
  rc : Clr2 f.S nv w f.tb
  rv : ∀ b, f.tv.ownBlock = some b → Clr2 f.S nv w b
  fnd : ∀ s, findR s false f.T = findO s f.I ∧ findR s true f.T = findO s f.Q
  bnd : ∀ p : OpV, p ∈ f.I ∨ p ∈ f.Q → -1000000 ≤ p.p ∧ p.p ≤ 1000000
  ca : ∀ a, f.A = some a → Clr2 f.S nv w a.block
  np : nv.ownBlock ≠ some f.pb
  nl : ns.length + r.length ≤ f.L.length
  cp : f.L.length ≤ f.cap

theorem RaAt.step {f : RF} {w w' : World} {r q : List TokV} {nv nv' : Value} {ns ms : List ByteArray} {bad bad' : Bool} (h : RaAt f w r nv ns bad) (s : PStep f.S nv w nv' w')
    (hb : Blk w' f.pb 87 (raA f q nv' bad')) (ho : w'.ownsRow 0 9 1 nv' ms.length (ms.map Value.string))
    (hq : q <:+ f.L) (hn : q ≠ []) (hp : nv'.ownBlock ≠ some f.pb) (hl : ms.length + q.length ≤ f.L.length) : RaAt f w' q nv' ms bad' :=
  ⟨hb, ho, h.tok.mods s.mods (fun a ha => (h.ca a ha).no), h.toks, hq, hn, h.ref.mods s.mods h.rc.no (fun b hb => (h.rv b hb).no), s.clr h.rc, fun b hb => s.clr (h.rv b hb), h.fnd, h.bnd, fun a ha => s.clr (h.ca a ha), hp, hl, h.cp⟩
theorem RaAt.ext {f : RF} {w w' : World} {r : List TokV} {nv : Value} {ns : List ByteArray} {bad : Bool} (h : RaAt f w r nv ns bad) (x : Ext w w') : RaAt f w' r nv ns bad :=
  h.step (PStep.ext x) (h.blk.ext x) (own_ext h.own x) h.suf h.nil h.np h.nl
theorem RaAt.pbS {f : RF} : f.pb ∈ f.S := by simp [RF.S]
/-- The place is set. -/
theorem RaAt.setI {f : RF} {w : World} {r q : List TokV} {nv : Value} {ns : List ByteArray} {bad : Bool} (h : RaAt f w r nv ns bad) (hq : q <:+ f.L) (hn : q ≠ []) (hl : ns.length + q.length ≤ f.L.length) (z : Int) (hz : z = (plI f.L q : Int)) :
    RaAt f (w.setCell ⟨f.pb, 1, none⟩ (.int .i64 z)) q nv ns bad ∧ PStep f.S nv w nv (w.setCell ⟨f.pb, 1, none⟩ (.int .i64 z)) := by
  subst hz
  have s := PStep.set_ (S := f.S) (nv := nv) (w := w) (i := 1) (RaAt.pbS (f := f)) (.int .i64 (plI f.L q : Int))
  exact ⟨h.step s (h.blk.set_ 1 _) (ownsRow_setCell_other h.own h.np _) hq hn h.np hl, s⟩
theorem RaAt.setB {f : RF} {w : World} {r : List TokV} {nv : Value} {ns : List ByteArray} {bad : Bool} (h : RaAt f w r nv ns bad) (b : Bool) :
    RaAt f (w.setCell ⟨f.pb, 4, none⟩ (.bool b)) r nv ns b ∧ PStep f.S nv w nv (w.setCell ⟨f.pb, 4, none⟩ (.bool b)) := by
  have s := PStep.set_ (S := f.S) (nv := nv) (w := w) (i := 4) (RaAt.pbS (f := f)) (.bool b)
  exact ⟨h.step s (h.blk.set_ 4 _) (ownsRow_setCell_other h.own h.np _) h.suf h.nil h.np h.nl, s⟩
/-- The cells of a parser. -/
structure RaC (f : RF) (w : World) (r : List TokV) (nv : Value) (bad : Bool) : Prop where
  c0 : w.cell? ⟨f.pb, 0, none⟩ = some (.slice f.A f.L.length f.cap)
  c1 : w.cell? ⟨f.pb, 1, none⟩ = some (.int .i64 (plI f.L r : Int))
  c2 : w.cell? ⟨f.pb, 2, none⟩ = some (.pointer (some ⟨f.tb, 0, none⟩))
  c3 : w.cell? ⟨f.pb, 3, none⟩ = some nv
  c4 : w.cell? ⟨f.pb, 4, none⟩ = some (.bool bad)
theorem RaAt.cells {f : RF} {w : World} {r : List TokV} {nv : Value} {ns : List ByteArray} {bad : Bool} (h : RaAt f w r nv ns bad) : RaC f w r nv bad :=
  ⟨h.blk.cell 0, h.blk.cell 1, h.blk.cell 2, h.blk.cell 3, h.blk.cell 4⟩
/-- The token so many places on. -/
theorem RaAt.at_ {f : RF} {w : World} {r : List TokV} {nv : Value} {ns : List ByteArray} {bad : Bool} (h : RaAt f w r nv ns bad) (k : Nat) {t : TokV} (e : r[k]? = some t) :
    ∃ b off, f.A = some ⟨b, off, none⟩ ∧ w.cell? ⟨b, off + (plI f.L r + k) * 5, none⟩ = some (.int .i64 t.kind) ∧ w.cell? ⟨b, off + (plI f.L r + k) * 5 + 1, none⟩ = some (.string t.s) ∧ w.cell? ⟨b, off + (plI f.L r + k) * 5 + 2, none⟩ = some (.int .i64 t.n) ∧ w.cell? ⟨b, off + (plI f.L r + k) * 5 + 3, none⟩ = some (.int .i64 t.at_) ∧ w.cell? ⟨b, off + (plI f.L r + k) * 5 + 4, none⟩ = some (.bool t.lay) :=
  tok_cells h.tok (t := t) (by rw [plI_get h.suf k]; exact e)
theorem RaAt.fi {f : RF} {w : World} {r : List TokV} {nv : Value} {ns : List ByteArray} {bad : Bool} (h : RaAt f w r nv ns bad) (s : ByteArray) :
    Calls Tryz.prog 115 #[.pointer (some ⟨f.tb, 0, none⟩), .string s, .bool false] w fun e w' => e = .returned (opR (findO s f.I)) ∧ Ext w w' := by
  refine (rFind_any f.tb f.tv f.T s false w h.ref).mono ?_
  rintro e w' ⟨rfl, hx⟩
  rw [(h.fnd s).1]
  exact ⟨rfl, hx⟩
theorem RaAt.fq {f : RF} {w : World} {r : List TokV} {nv : Value} {ns : List ByteArray} {bad : Bool} (h : RaAt f w r nv ns bad) (s : ByteArray) :
    Calls Tryz.prog 115 #[.pointer (some ⟨f.tb, 0, none⟩), .string s, .bool true] w fun e w' => e = .returned (opR (findO s f.Q)) ∧ Ext w w' := by
  refine (rFind_any f.tb f.tv f.T s true w h.ref).mono ?_
  rintro e w' ⟨rfl, hx⟩
  rw [(h.fnd s).2]
  exact ⟨rfl, hx⟩

/-- The blocks of a parser lie below B. -/
def RF.old (f : RF) (B : Nat) : Prop := f.pb < B ∧ f.tb < B ∧ (∀ b, f.tv.ownBlock = some b → b < B) ∧ ∀ a, f.A = some a → a.block < B
theorem RaAt.old {f : RF} {w : World} {r : List TokV} {nv : Value} {ns : List ByteArray} {bad : Bool} (h : RaAt f w r nv ns bad) : f.old w.heap.size :=
  ⟨h.blk.lt, h.rc.2.2, fun b hb => (h.rv b hb).2.2, fun a ha => (h.ca a ha).2.2⟩
theorem RF.old.mono {f : RF} {B C : Nat} (h : f.old B) (hc : B ≤ C) : f.old C := by
  obtain ⟨h1, h2, h3, h4⟩ := h
  exact ⟨by omega, by omega, fun b hb => by have := h3 b hb; omega, fun a ha => by have := h4 a ha; omega⟩
/-- A block of the call's own is written. -/
theorem RaAt.far {f : RF} {B : Nat} {W : World} {r : List TokV} {nv : Value} {ns : List ByteArray} {bad : Bool} (h : RaAt f W r nv ns bad) (ho : f.old B) {z : Nat} (hz : B ≤ z) {T : TypeId} {cs : Array Value} (hb : Blk W z T cs) (hT : T ≠ 9) (i : Nat) (u : Value) :
    RaAt f (W.setCell ⟨z, i, none⟩ u) r nv ns bad := by
  obtain ⟨h1, h2, h3, h4⟩ := ho
  have hm := (Mods.refl [z] W).setCell (p := ⟨z, i, none⟩) (.inl (by simp)) u
  have hnz : nv.ownBlock ≠ some z := fun e => own_heap h.own hb (.inl hT) (by simp [ownL, e])
  have hsz : ∀ k, Clr2 f.S nv W k → Clr2 f.S nv (W.setCell ⟨z, i, none⟩ u) k := fun k hk => ⟨hk.1, hk.2.1, by have := hk.2.2; simpa using this⟩
  exact ⟨h.blk.far (p := ⟨z, i, none⟩) (by simp; omega) u, ownsRow_setCell_other h.own hnz u,
    h.tok.mods hm (fun a ha => by have := h4 a ha; simp; omega), h.toks, h.suf, h.nil, h.ref.mods hm (by simp; omega) (fun b hb => by have := h3 b hb; simp; omega), hsz _ h.rc, fun b hb => hsz _ (h.rv b hb), h.fnd, h.bnd, fun a ha => hsz _ (h.ca a ha), h.np, h.nl, h.cp⟩
theorem RaAt.set4 {f : RF} {B : Nat} {W : World} {r : List TokV} {nv : Value} {ns : List ByteArray} {bad : Bool} (h : RaAt f W r nv ns bad) (ho : f.old B) {z : Nat} (hz : B ≤ z) {a' b' c' d' : Value} (hb : Blk W z 32 #[a', b', c', d']) (a b c d : Value) :
    RaAt f (Go.Proofs.YtgcdhffeacdegaaGreatDoor.set4 W z a b c d) r nv ns bad := by
  have hT : 32 ≠ 9 := by decide
  have h0 := h.far ho hz hb hT 0 a
  have h1 := h0.far ho hz (hb.set_ 0 a) hT 1 b
  have h2 := h1.far ho hz ((hb.set_ 0 a).set_ 1 b) hT 2 c
  exact h2.far ho hz (((hb.set_ 0 a).set_ 1 b).set_ 2 c) hT 3 d
/-- A block that the call made is clear. -/
theorem rclr_box {f : RF} {W : World} {r : List TokV} {nv : Value} {ns : List ByteArray} {bad : Bool} (h : RaAt f W r nv ns bad) {k : Nat} (h1 : W.heap.size ≤ k) {W' : World} (h2 : k < W'.heap.size) : Clr2 f.S nv W' k :=
  clr2_new (w := W) (fun j hj => by simp [RF.S] at hj; subst hj; exact h.blk.lt) (fun j hj => own_lt h.own hj) h1 h2
end Go.Proofs.YtgcdhffeacdegaaGreatDoor

/- Layer 10, the reference: the walks of is, want, opens. -/
namespace Go.Proofs.YtgcdhffeacdegaaGreatDoor
open Go.RowKit Go.El

theorem ra_lt {f : RF} {w : World} {r : List TokV} {nv : Value} {ns : List ByteArray} {bad : Bool} (h : RaAt f w r nv ns bad) {k : Nat} {t : TokV} (e : r[k]? = some t) : plI f.L r + k < f.L.length := by
  have := plI_get h.suf k
  rw [e] at this
  exact (List.getElem?_eq_some_iff.1 this).1
/-- Is the token so many places on a sign? -/
def isAt (r : List TokV) (k : Nat) (s : ByteArray) : Bool := isPs (r.drop k) s
theorem isAt_eq {r : List TokV} {k : Nat} {t : TokV} (e : r[k]? = some t) (s : ByteArray) : isAt r k s = (decide (t.kind = 5) && decide (t.s = s)) := by
  unfold isAt
  have hk : k < r.length := (List.getElem?_eq_some_iff.1 e).1
  rw [List.drop_eq_getElem_cons hk]
  have : r[k] = t := (List.getElem?_eq_some_iff.1 e).2
  rw [this]
  rfl

set_option maxRecDepth 100000 in
set_option maxHeartbeats 4000000 in
theorem raIsQ (s : ByteArray) {f : RF} {w : World} {r : List TokV} {nv : Value} {ns : List ByteArray} {bad : Bool} (h : RaAt f w r nv ns bad) (k : Nat) (hk1 : k ≤ 1) {t : TokV} (e : r[k]? = some t) :
    Calls Tryz.prog 113 #[.pointer (some ⟨f.pb, 0, none⟩), .int .i64 (k : Int), .string s] w fun e w' => e = .returned (.bool (isAt r k s)) ∧ ∃ m, w' = w.drewN m := by
  rw [isAt_eq e]
  have hc := h.cells
  obtain ⟨b, off, hA, d0, d1, d2, d3, d4⟩ := h.at_ k e
  have hlt := ra_lt h e
  have c0 := hc.c0
  have c1 := hc.c1
  rw [hA] at c0
  have hp : f.pb < w.heap.size := h.blk.lt
  have hbb : b < w.heap.size := cell_lt d0
  have hL := h.toks.len
  have hb := @str_beq t.s s
  generalize plI f.L r = j at *
  have hq1 : ((j : Int) + (k : Int)) < (f.L.length : Int) := by omega
  have hq2 : ((j : Int) + (k : Int)).toNat = j + k := by omega
  clear h hc e hA
  by_cases hk : t.kind = 5
  · rw [hk] at d0 ⊢
    by_cases hs : t.s = s
    · rw [decide_eq_true hs] at hb ⊢
      generalize t.s = ts at *
      clear hs hk
      go_enter Tryz.func113, Tryz.ntmps113
      go_wp2_with fail
      go_quiet (fail)
      go_wp2_with fail
      go_ret
      exact ⟨rfl, _, rfl⟩
    · rw [decide_eq_false hs] at hb ⊢
      generalize t.s = ts at *
      clear hs hk
      go_enter Tryz.func113, Tryz.ntmps113
      go_wp2_with fail
      go_quiet (fail)
      go_wp2_with fail
      go_ret
      exact ⟨rfl, _, rfl⟩
  · have e1 : (t.kind == 5) = false := by simpa using hk
    rw [decide_eq_false hk]
    generalize t.kind = kd at *
    clear hk hb
    go_enter Tryz.func113, Tryz.ntmps113
    go_wp2_with fail
    go_quiet (fail)
    go_wp2_with fail
    go_ret
    exact ⟨rfl, _, rfl⟩
theorem raIs (s : ByteArray) {f : RF} {w : World} {r : List TokV} {nv : Value} {ns : List ByteArray} {bad : Bool} (h : RaAt f w r nv ns bad) (k : Nat) (hk1 : k ≤ 1) {t : TokV} (e : r[k]? = some t) :
    Calls Tryz.prog 113 #[.pointer (some ⟨f.pb, 0, none⟩), .int .i64 (k : Int), .string s] w fun e w' => e = .returned (.bool (isAt r k s)) ∧ Ext w w' :=
  (raIsQ s h k hk1 e).mono fun e w' ⟨e1, m, e2⟩ => ⟨e1, by rw [e2]; exact (Ext.refl _).drewN m⟩

set_option maxRecDepth 100000 in
set_option maxHeartbeats 4000000 in
theorem raWant (s : ByteArray) {f : RF} {w : World} {r : List TokV} {nv : Value} {ns : List ByteArray} {bad : Bool} (h : RaAt f w r nv ns bad) :
    Calls Tryz.prog 112 #[.pointer (some ⟨f.pb, 0, none⟩), .string s] w fun e w' => e = .returned (.tuple #[]) ∧ RaAt f w' (if (!bad && isPs r s) = true then r.tail else r) nv ns (bad || !isPs r s) ∧ PStep f.S nv w nv w' := by
  obtain ⟨t, q, e⟩ := ToksOk.ne h.suf h.nil
  have HI := Lib.hid (raIs s h 0 (by omega) (t := t) (by rw [e]; rfl))
  have hie : isAt r 0 s = isPs r s := rfl
  rw [hie] at HI
  have H := Lib.hid h
  have hp : f.pb < w.heap.size := h.blk.lt
  have c4 := h.cells.c4
  have f4 := h.blk.frozen 4
  cases bad
  · cases hi : isPs r s
    · rw [hi] at HI
      clear h e hie hi c4 f4
      have c4 := H.out.cells.c4
      go_enter Tryz.func112, Tryz.ntmps112
      go_upto_region 1 with (go_at_call 113; refine (HI).out.mono ?_; rintro e W1 ⟨rfl, hx1⟩; have X1 := Lib.hid hx1; have d4 := (H.out.ext hx1).cells.c4; have f4 := (H.out.ext hx1).blk.frozen 4; clear hx1)
      have s1 := (H.out.ext X1.out).setB true
      go_wp2_with fail
      refine bodyPost_ret (results_none rfl _ _ _) rfl ?_
      exact ⟨rfl, s1.1, (PStep.ext X1.out).trans s1.2⟩
    · rw [hi] at HI
      obtain ⟨t1, t2, t3⟩ := isPs_tail h.toks h.suf hi
      have hl := h.nl
      have hkL := plI_lt h.suf h.nil
      have hLL := h.toks.len
      have HT := Lib.hid t3
      have HL : Hid (ns.length + r.tail.length ≤ f.L.length) := Lib.hid (by rw [List.length_tail]; omega)
      clear h e hie hi t3 hl f4 c4
      have c4 := H.out.cells.c4
      go_enter Tryz.func112, Tryz.ntmps112
      go_upto_region 2 with (go_at_call 113; refine (HI).out.mono ?_; rintro e W1 ⟨rfl, hx1⟩; have X1 := Lib.hid hx1; have d1 := (H.out.ext hx1).cells.c1; have f1 := (H.out.ext hx1).blk.frozen 1; clear hx1)
      have s1 := (H.out.ext X1.out).setI t1 t2 HL.out ((plI f.L r : Int) + 1) (by rw [HT.out]; omega)
      generalize plI f.L r = k at *
      have hk2 : k ≤ 65537 := by omega
      go_wp2_with fail
      go_end0
      exact ⟨rfl, s1.1, (PStep.ext X1.out).trans s1.2⟩
  · clear h e hie HI
    have s1 := H.out.setB true
    go_enter Tryz.func112, Tryz.ntmps112
    go_wp2_with fail
    refine bodyPost_ret (results_none rfl _ _ _) rfl ?_
    exact ⟨rfl, s1.1, s1.2⟩

set_option maxRecDepth 100000 in
set_option maxHeartbeats 4000000 in
theorem raOpensQ {f : RF} {w : World} {r : List TokV} {nv : Value} {ns : List ByteArray} {bad : Bool} (h : RaAt f w r nv ns bad) (k : Nat) (hk1 : k ≤ 1) {t : TokV} (e : r[k]? = some t) :
    Calls Tryz.prog 148 #[.pointer (some ⟨f.pb, 0, none⟩), .int .i64 (k : Int)] w fun e w' => e = .returned (.bool (opensB (r.drop k))) ∧ ∃ m, w' = w.drewN m := by
  have HI := fun n => Lib.hid (raIsQ ⟨#[40]⟩ (h.ext ((Ext.refl w).drewN n)) k hk1 e)
  have hie : opensB (r.drop k) = (isAt r k ⟨#[40]⟩ && !t.lay) := by
    have hk : k < r.length := (List.getElem?_eq_some_iff.1 e).1
    have hg : r[k] = t := (List.getElem?_eq_some_iff.1 e).2
    unfold opensB isAt
    rw [isPs_lit, List.drop_eq_getElem_cons hk, hg]
    rfl
  rw [hie]
  obtain ⟨b, off, hA, d0, d1, d2, d3, d4⟩ := h.at_ k e
  have hlt := ra_lt h e
  have c0 := h.cells.c0
  have c1 := h.cells.c1
  rw [hA] at c0
  have hp : f.pb < w.heap.size := h.blk.lt
  have hbb : b < w.heap.size := cell_lt d0
  have hL := h.toks.len
  generalize plI f.L r = j at *
  have hq1 : ((j : Int) + (k : Int)) < (f.L.length : Int) := by omega
  have hq2 : ((j : Int) + (k : Int)).toNat = j + k := by omega
  generalize t.lay = tl at *
  clear h e hA hie d0 d1 d2 d3
  cases hi : isAt r k ⟨#[40]⟩
  · rw [hi] at HI
    clear hi
    go_enter Tryz.func148, Tryz.ntmps148
    go_wp2_with fail
    go_quiet ((go_at_call 113; exact Calls.quiet_of (HI _).out))
    go_wp2_with fail
    go_ret
    exact ⟨rfl, _, rfl⟩
  · rw [hi] at HI
    clear hi
    go_enter Tryz.func148, Tryz.ntmps148
    go_wp2_with fail
    go_quiet ((go_at_call 113; exact Calls.quiet_of (HI _).out))
    go_wp2_with fail
    go_ret
    exact ⟨by cases tl <;> rfl, _, rfl⟩
theorem raOpens {f : RF} {w : World} {r : List TokV} {nv : Value} {ns : List ByteArray} {bad : Bool} (h : RaAt f w r nv ns bad) (k : Nat) (hk1 : k ≤ 1) {t : TokV} (e : r[k]? = some t) :
    Calls Tryz.prog 148 #[.pointer (some ⟨f.pb, 0, none⟩), .int .i64 (k : Int)] w fun e w' => e = .returned (.bool (opensB (r.drop k))) ∧ Ext w w' :=
  (raOpensQ h k hk1 e).mono fun e w' ⟨e1, m, e2⟩ => ⟨e1, by rw [e2]; exact (Ext.refl _).drewN m⟩
end Go.Proofs.YtgcdhffeacdegaaGreatDoor

/- Layer 10, the reference: the walks of infix, begins. -/
namespace Go.Proofs.YtgcdhffeacdegaaGreatDoor
open Go.RowKit Go.El

/-- What a walk that looks at the next token wants to know. -/
theorem ra_here {f : RF} {w : World} {r : List TokV} {nv : Value} {ns : List ByteArray} {bad : Bool} (h : RaAt f w r nv ns bad) {t : TokV} {q : List TokV} (e : r = t :: q) :
    ∃ b off, f.A = some ⟨b, off, none⟩ ∧ w.cell? ⟨b, off + plI f.L r * 5, none⟩ = some (.int .i64 t.kind) ∧ w.cell? ⟨b, off + plI f.L r * 5 + 1, none⟩ = some (.string t.s) ∧ w.cell? ⟨b, off + plI f.L r * 5 + 2, none⟩ = some (.int .i64 t.n) ∧ w.cell? ⟨b, off + plI f.L r * 5 + 3, none⟩ = some (.int .i64 t.at_) ∧ w.cell? ⟨b, off + plI f.L r * 5 + 4, none⟩ = some (.bool t.lay) := by
  have := h.at_ 0 (t := t) (by rw [e]; rfl)
  simpa using this

/-- The next token, in a box of its own. -/
theorem ra_box {W0 : World} (t : TokV) : Ext W0 (W0.alloc (.cells #[.int .i64 t.kind, .string t.s, .int .i64 t.n, .int .i64 t.at_, .bool t.lay] 55)).drew ∧ Blk (W0.alloc (.cells #[.int .i64 t.kind, .string t.s, .int .i64 t.n, .int .i64 t.at_, .bool t.lay] 55)).drew W0.heap.size 55 #[.int .i64 t.kind, .string t.s, .int .i64 t.n, .int .i64 t.at_, .bool t.lay] := ⟨((Ext.refl W0).alloc _).drew, Blk.new W0 55 #[.int .i64 t.kind, .string t.s, .int .i64 t.n, .int .i64 t.at_, .bool t.lay]⟩
theorem infix_val {O : Ops} {r : List TokV} {t : TokV} {q : List TokV} (e : r = t :: q) : infixF O r = if t.kind = 1 ∨ (t.kind = 5 ∧ t.s = ⟨#[44]⟩) then O.fi t.s else none := by
  have hcm : isPu r 44 = (decide (t.kind = 5) && decide (t.s = ⟨#[44]⟩)) := by rw [← isPs_lit, e]; rfl
  have hin : infixF O r = if t.kind = 1 ∨ isPu r 44 = true then O.fi t.s else none := by rw [e]; rfl
  rw [hin, hcm]
  simp
theorem lit44 : (⟨#[44]⟩ : ByteArray).toList = [44] := by rw [ByteArray.toList_eq]

set_option maxRecDepth 100000 in
set_option maxHeartbeats 4000000 in
theorem rinfix_any {f : RF} {w : World} {r : List TokV} {nv : Value} {ns : List ByteArray} {bad : Bool} (h : RaAt f w r nv ns bad) :
    Calls Tryz.prog 73 #[.pointer (some ⟨f.pb, 0, none⟩), .int .i64 0] w fun e w' => e = .returned (opR (infixF f.O r)) ∧ Ext w w' := by
  obtain ⟨t, q, e⟩ := ToksOk.ne h.suf h.nil
  obtain ⟨b, off, hA, d0, d1, d2, d3, d4⟩ := ra_here h e
  have hlt := plI_lt h.suf h.nil
  obtain ⟨R, hR⟩ : ∃ R, infixF f.O r = R := ⟨_, rfl⟩
  rw [hR]
  rw [infix_val e] at hR
  have HR := Lib.hid hR
  have HF := fun W (x : Ext w W) => Lib.hid ((h.ext x).fi t.s)
  have hL := h.toks.len
  have c0 := h.cells.c0
  have c1 := h.cells.c1
  have c2 := h.cells.c2
  rw [hA] at c0
  have hp : f.pb < w.heap.size := h.blk.lt
  have hbb : b < w.heap.size := cell_lt d0
  have HX0 := Lib.hid (ext_box4 w (.cells #[.int .i64 0, .int .i64 0, .string ⟨#[]⟩] 70))
  have HZ0 := Lib.hid (Blk.new w 70 #[.int .i64 0, .int .i64 0, .string ⟨#[]⟩])
  have hb := @str_beq t.s ⟨#[44]⟩
  rw [lit44] at hb
  have hcs : (t.kind = 1 ∨ (t.kind = 5 ∧ (t.s.toList == [44]) = true) ∨ (t.kind ≠ 1 ∧ t.kind ≠ 5) ∨ (t.kind = 5 ∧ (t.s.toList == [44]) = false)) := by
    by_cases h1 : t.kind = 1
    · exact .inl h1
    · by_cases h5 : t.kind = 5
      · cases hs : (t.s.toList == [44])
        · exact .inr (.inr (.inr ⟨h5, rfl⟩))
        · exact .inr (.inl ⟨h5, rfl⟩)
      · exact .inr (.inr (.inl ⟨h1, h5⟩))
  generalize plI f.L r = k at *
  have hq1 : (k : Int) < (f.L.length : Int) := by omega
  unfold opR opA at HF
  clear h e hA hR
  rw [show opR R = .tuple #[.agg #[.int .i64 (R.getD zeroO).p, .int .i64 (R.getD zeroO).t, .string (R.getD zeroO).s], .bool R.isSome] from rfl]
  obtain ⟨bq, hbq⟩ : ∃ bq, R.isSome = bq := ⟨_, rfl⟩
  obtain ⟨o, ho⟩ : ∃ o, R.getD zeroO = o := ⟨_, rfl⟩
  rw [hbq, ho]
  have HBQ := Lib.hid hbq
  have HOO := Lib.hid ho
  clear hbq ho
  go_enter Tryz.func73, Tryz.ntmps73
  go_upto_region 1 with fail
  have x0 := HX0.out.cell c0
  have x1 := HX0.out.cell c1
  have x2 := HX0.out.cell c2
  have y0 := HX0.out.cell d0
  have y1 := HX0.out.cell d1
  have y2 := HX0.out.cell d2
  have y3 := HX0.out.cell d3
  have y4 := HX0.out.cell d4
  have hp1 : f.pb < (w.alloc (.cells #[.int .i64 0, .int .i64 0, .string ⟨#[]⟩] 70)).heap.size := by have := HX0.out.size; omega
  have hb1 : b < (w.alloc (.cells #[.int .i64 0, .int .i64 0, .string ⟨#[]⟩] 70)).heap.size := by have := HX0.out.size; omega
  generalize w.alloc (.cells #[.int .i64 0, .int .i64 0, .string ⟨#[]⟩] 70) = W0 at *
  clear c0 c1 c2 d0 d1 d2 d3 d4
  go_region
  all_goals
    obtain ⟨xb, kb⟩ := ra_box (W0 := W0) t
    have X1 := Lib.hid (HX0.out.trans xb)
    have Z1 := Lib.hid (HZ0.out.ext xb)
    have BT := Lib.hid kb
    have c2 := xb.cell x2
    clear x0 x1 x2 y0 y1 y2 y3 y4 hp1 hb1 xb kb
    generalize (W0.alloc (.cells #[.int .i64 t.kind, .string t.s, .int .i64 t.n, .int .i64 t.at_, .bool t.lay] 55)).drew = W1 at *
    generalize W0.heap.size = g6 at *
    rcases hcs with hk | ⟨hk, hs⟩ | ⟨hk1, hk5⟩ | ⟨hk, hs⟩
    · have hRR : findO t.s f.I = R := by rw [← HR.out, if_pos (.inl hk)]; rfl
      rw [hRR, HBQ.out, HOO.out] at HF
      rw [hk] at BT
      have k6 := BT.out.cell
      clear hb hk hRR HR
      go_upto_region 4 with fail
      go_region_law ((go_simp; go_at_call 115; refine (HF _ (X1.out.drew)).out.mono ?_; rintro e V2 ⟨rfl, hx⟩; have X3 := Lib.hid (X1.out.drew.trans hx); have Z3 := Lib.hid (Z1.out.ext ((Ext.refl _).drew.trans hx)); have zc := (Z1.out.ext ((Ext.refl _).drew.trans hx)).cell; have zf := (Z1.out.ext ((Ext.refl _).drew.trans hx)).frozen; clear hx))
      all_goals
        go_wp2_with fail
        have kb := blk_set3 Z3.out (.int .i64 o.p) (.int .i64 o.t) (.string o.s)
        have kc := kb.cell
        refine bodyPost_ret (v := .tuple #[.agg #[.int .i64 o.p, .int .i64 o.t, .string o.s], .bool bq]) ?_ rfl ⟨rfl, ext_set3 X3.out (Nat.le_refl _) _ _ _⟩
        simp [results, Tryz.results73, go_sem, kc]
    · have hts : t.s = ⟨#[44]⟩ := by rw [hs] at hb; exact of_decide_eq_true hb.symm
      have hRR : findO t.s f.I = R := by rw [← HR.out, if_pos (.inr ⟨hk, hts⟩)]; rfl
      rw [hRR, HBQ.out, HOO.out] at HF
      rw [hk] at BT
      have k6 := BT.out.cell
      clear hb hk hRR HR hts
      go_upto_region 4 with fail
      go_region_law ((go_simp; go_at_call 115; refine (HF _ (X1.out.drew)).out.mono ?_; rintro e V2 ⟨rfl, hx⟩; have X3 := Lib.hid (X1.out.drew.trans hx); have Z3 := Lib.hid (Z1.out.ext ((Ext.refl _).drew.trans hx)); have zc := (Z1.out.ext ((Ext.refl _).drew.trans hx)).cell; have zf := (Z1.out.ext ((Ext.refl _).drew.trans hx)).frozen; clear hx))
      all_goals
        go_wp2_with fail
        have kb := blk_set3 Z3.out (.int .i64 o.p) (.int .i64 o.t) (.string o.s)
        have kc := kb.cell
        refine bodyPost_ret (v := .tuple #[.agg #[.int .i64 o.p, .int .i64 o.t, .string o.s], .bool bq]) ?_ rfl ⟨rfl, ext_set3 X3.out (Nat.le_refl _) _ _ _⟩
        simp [results, Tryz.results73, go_sem, kc]
    · have hRR : R = none := by rw [← HR.out, if_neg (by omega)]
      subst hRR
      obtain rfl := HBQ.out
      obtain rfl := HOO.out
      have e1 : (t.kind == 1) = false := by simpa using hk1
      have e5 : (t.kind == 5) = false := by simpa using hk5
      have k6 := BT.out.cell
      have zc := Z1.out.cell
      have zf := Z1.out.frozen
      clear hb HR HF
      generalize t.kind = kd at *
      go_wp2_with fail
      have kb := blk_set3 Z1.out (.int .i64 0) (.int .i64 0) (.string ⟨#[]⟩)
      have kc := kb.cell
      refine bodyPost_ret (v := .tuple #[.agg #[.int .i64 0, .int .i64 0, .string ⟨#[]⟩], .bool false]) ?_ rfl ⟨rfl, ext_set3 X1.out (Nat.le_refl _) _ _ _⟩
      simp [results, Tryz.results73, go_sem, kc]
    · have hts : t.s ≠ ⟨#[44]⟩ := by rw [hs] at hb; exact of_decide_eq_false hb.symm
      have hRR : R = none := by rw [← HR.out, if_neg (by rintro (h | ⟨_, h⟩); omega; exact hts h)]
      subst hRR
      obtain rfl := HBQ.out
      obtain rfl := HOO.out
      have hsp : ¬ t.s.toList = [44] := by simpa using hs
      rw [hk] at BT
      have k6 := BT.out.cell
      have zc := Z1.out.cell
      have zf := Z1.out.frozen
      clear hb HR HF hts hk
      go_wp2_with fail
      have kb := blk_set3 Z1.out (.int .i64 0) (.int .i64 0) (.string ⟨#[]⟩)
      have kc := kb.cell
      refine bodyPost_ret (v := .tuple #[.agg #[.int .i64 0, .int .i64 0, .string ⟨#[]⟩], .bool false]) ?_ rfl ⟨rfl, ext_set3 X1.out (Nat.le_refl _) _ _ _⟩
      simp [results, Tryz.results73, go_sem, kc]
end Go.Proofs.YtgcdhffeacdegaaGreatDoor
