/- Layer 10, the program: the state of term. -/
import Derived.Test.YtgcdhffeacdegaaGreatDoorG30
namespace Go.Proofs.YtgcdhffeacdegaaGreatDoor
open Go.RowKit Go.El

/-- Behind the term on an operator's right. -/
def loopM (O : Ops) (n : Nat) (most : Int) (t : Tm) (o : OpV) (x : PR Tm) : PR Tm := match x with
  | .bad q => .bad q
  | .ok u q ms => loopN O n most (.mk 4 0 o.s [t, u]) o.p q ms
def termM (O : Ops) (n : Nat) (most : Int) (x : PR (Tm × Int)) : PR Tm := match x with
  | .bad q => .bad q
  | .ok a q ms => loopN O n most a.1 a.2 q ms
theorem termN_eq (O : Ops) (n : Nat) (most : Int) (r : List TokV) (ns : List ByteArray) : termN O (n + 1) most r ns = termM O n most (operN O n most r ns) := by
  simp only [termN]
  cases operN O n most r ns <;> rfl
theorem loop_none (O : Ops) (n : Nat) (most : Int) (t : Tm) (p : Int) (q : List TokV) (ms : List ByteArray) (h : infixF O q = none) : loopN O (n + 1) most t p q ms = .ok t q ms := by
  simp only [loopN, h]
theorem loop_stop (O : Ops) (n : Nat) (most : Int) (t : Tm) (p : Int) (q : List TokV) (ms : List ByteArray) {o : OpV} (h : infixF O q = some o) (hs : most < o.p ∨ leftI o.p o.t < p) : loopN O (n + 1) most t p q ms = .ok t q ms := by
  simp only [loopN, h]
  rw [if_pos hs]
theorem loop_go (O : Ops) (n : Nat) (most : Int) (t : Tm) (p : Int) (q : List TokV) (ms : List ByteArray) {o : OpV} (h : infixF O q = some o) (hs : ¬ (most < o.p ∨ leftI o.p o.t < p)) : loopN O (n + 1) most t p q ms = loopM O n most t o (termN O n (rightI o.p o.t) q.tail ms) := by
  simp only [loopN, h]
  rw [if_neg hs]
  cases termN O n (rightI o.p o.t) q.tail ms <;> rfl
/-- The state of term. -/
structure TermSt (f : PF) (w : World) (nv0 : Value) (most : Int) (r0 : List TokV) (X : PR Tm) (gB : Nat) (W : World) (p : Int) (t : Tm) (A : Option Addr) (c : Nat) (nv : Value) (q : List TokV) (ms : List ByteArray) (bad : Bool) : Prop where
  pa : PaAt f W q nv ms bad
  st : PStep f.S nv0 w nv W
  zb : Blk W w.heap.size 32 #[.int .i64 0, .int .i64 0, .string ⟨#[]⟩, .slice none 0 0]
  cz : Clr2 f.S nv W w.heap.size
  tb : Blk W gB 32 #[.int .i64 (Tm.k t), .int .i64 (Tm.n t), .string (Tm.s t), .slice A (Tm.l t).length c]
  cb : Clr2 f.S nv W gB
  ne : w.heap.size < gB
  tm : TmIn (fun k => NewT f.S nv w W k ∧ k ≠ gB ∧ k ≠ w.heap.size) W t A c
  len : q.length ≤ r0.length
  bd : bad = true → X = .bad q
  ok : bad = false → ∃ n, 5 * q.length + 1 ≤ n ∧ loopN f.O n most t p q ms = X
theorem TermSt.ext {f : PF} {w : World} {nv0 : Value} {most : Int} {r0 : List TokV} {X : PR Tm} {gB : Nat} {W W' : World} {p : Int} {t : Tm} {A : Option Addr} {c : Nat} {nv : Value} {q : List TokV} {ms : List ByteArray} {bad : Bool} (h : TermSt f w nv0 most r0 X gB W p t A c nv q ms bad) (x : Ext W W') : TermSt f w nv0 most r0 X gB W' p t A c nv q ms bad :=
  ⟨h.pa.ext x, h.st.trans (PStep.ext x), h.zb.ext x, (PStep.ext x).clr h.cz, h.tb.ext x, (PStep.ext x).clr h.cb, h.ne, (h.tm.ext x).mono (fun _ hk => ⟨hk.1.step (PStep.ext x), hk.2⟩), h.len, h.bd, h.ok⟩
theorem loop_end {x y : PR Tm} {t : Tm} {q : List TokV} {ms : List ByteArray} (h : x = .ok t q ms) (hx : x = y) : resIs y t q ms false := by
  rw [← hx, h]
  exact ⟨rfl, rfl, rfl, rfl⟩
theorem infix_more {f : PF} {W : World} {q : List TokV} {nv : Value} {ms : List ByteArray} {bad : Bool} (h : PaAt f W q nv ms bad) {o : OpV} (hi : infixF f.O q = some o) : q.tail <:+ f.L ∧ q.tail ≠ [] ∧ plI f.L q.tail = plI f.L q + 1 ∧ q.tail.length + 1 = q.length := by
  obtain ⟨t, q2, e⟩ := ToksOk.ne h.suf h.nil
  have hk : t.kind ≠ 6 := by
    intro hk
    rw [e] at hi
    unfold infixF at hi
    simp only at hi
    split at hi
    · next hc =>
      rcases hc with hc | hc
      · omega
      · simp [isPu, hk] at hc
    · cases hi
  obtain ⟨u, p, e2⟩ := h.toks.more h.suf e hk
  have hq : q.tail = q2 := by rw [e]; rfl
  rw [hq]
  exact ⟨suf_tail h.suf e, by simp [e2], plI_tail h.suf e, by rw [e]; simp⟩
theorem oper_end {O : Ops} {n : Nat} {most : Int} {x : PR (Tm × Int)} {a : Tm × Int} {r : List TokV} {ns : List ByteArray} {bad : Bool} (h : resIs x a r ns bad) : (bad = true → termM O n most x = .bad r) ∧ (bad = false → loopN O n most a.1 a.2 r ns = termM O n most x) := by
  cases x with
  | bad q =>
    obtain ⟨rfl, rfl⟩ := h
    exact ⟨fun _ => rfl, fun h => by cases h⟩
  | ok b q ms =>
    obtain ⟨rfl, rfl, rfl, rfl⟩ := h
    exact ⟨fun h => by (cases h), fun _ => rfl⟩
theorem loopM_end {O : Ops} {n : Nat} {most : Int} {t : Tm} {o : OpV} {x : PR Tm} {a : Tm} {r : List TokV} {ns : List ByteArray} {bad : Bool} (h : resIs x a r ns bad) : (bad = true → loopM O n most t o x = .bad r) ∧ (bad = false → loopN O n most (.mk 4 0 o.s [t, a]) o.p r ns = loopM O n most t o x) := by
  cases x with
  | bad q =>
    obtain ⟨rfl, rfl⟩ := h
    exact ⟨fun _ => rfl, fun h => by cases h⟩
  | ok b q ms =>
    obtain ⟨rfl, rfl, rfl, rfl⟩ := h
    exact ⟨fun h => by (cases h), fun _ => rfl⟩
theorem mods_set4 (S : List Nat) (W : World) (z : Nat) (hz : z ∈ S) (a b c d : Value) : Mods S W (set4 W z a b c d) :=
  (((((Mods.refl S W).setCell (p := ⟨z, 0, none⟩) (.inl hz) a).setCell (p := ⟨z, 1, none⟩) (.inl hz) b).setCell (p := ⟨z, 2, none⟩) (.inl hz) c).setCell (p := ⟨z, 3, none⟩) (.inl hz) d)
theorem TermSt.tmE {f : PF} {w : World} {nv0 : Value} {most : Int} {r0 : List TokV} {X : PR Tm} {gB : Nat} {W : World} {p : Int} {t : Tm} {A : Option Addr} {c : Nat} {nv : Value} {q : List TokV} {ms : List ByteArray} {bad : Bool} (h : TermSt f w nv0 most r0 X gB W p t A c nv q ms bad) (a b c2 d : Value) : TmIn (NewT f.S nv w (set4 W w.heap.size a b c2 d)) (set4 W w.heap.size a b c2 d) t A c :=
  TmIn.mods (mods_set4 [w.heap.size] W w.heap.size (by simp) a b c2 d) (fun _ hk => by simpa using hk.2.2) (fun _ hk => ⟨hk.1.1, clr_set4 hk.1.2 _ _ _ _ _⟩) h.tm
theorem TermSt.next {f : PF} {w : World} {nv0 : Value} {most : Int} {r0 : List TokV} {X : PR Tm} {gB : Nat} {W8 W9 : World} {t u : Tm} {A c9A : Option Addr} {c c9 : Nat} {nv8 : Value} {q8 : List TokV} {ms8 : List ByteArray} {b8 : Bool} {o : OpV} {m1 : Nat} {Y2 : PR Tm}
    (hk : loopM f.O m1 most t o Y2 = X) (h8 : PaAt f W8 q8 nv8 ms8 b8) (s8 : PStep f.S nv0 w nv8 W8) (z8 : Blk W8 w.heap.size 32 #[.int .i64 0, .int .i64 0, .string ⟨#[]⟩, .slice none 0 0]) (cz8 : Clr2 f.S nv8 W8 w.heap.size) (tb8 : Blk W8 gB 32 #[.int .i64 (Tm.k t), .int .i64 (Tm.n t), .string (Tm.s t), .slice A (Tm.l t).length c]) (cb8 : Clr2 f.S nv8 W8 gB) (ne : w.heap.size < gB) (hres : resIs Y2 u q8 ms8 b8) (ho : f.old w.heap.size) (l8 : q8.length ≤ r0.length) (hf : 5 * q8.length + 1 ≤ m1) (x9 : Ext W8 W9)
    (t9 : TmIn (fun k => (NewT f.S nv8 w W8 k ∧ k ≠ gB ∧ k ≠ w.heap.size) ∨ (W8.heap.size ≤ k ∧ k < W9.heap.size)) W9 (.mk 4 0 o.s [t, u]) c9A c9) :
    TermSt f w nv0 most r0 X gB (set4 W9 gB (.int .i64 4) (.int .i64 0) (.string o.s) (.slice c9A 2 c9)) o.p (.mk 4 0 o.s [t, u]) c9A c9 nv8 q8 ms8 b8 := by
  have he := loopM_end (O := f.O) (n := m1) (most := most) (t := t) (o := o) hres
  rw [hk] at he
  have px := PStep.ext (S := f.S) (nv := nv8) x9
  refine ⟨(h8.ext x9).set4 ho (Nat.le_of_lt ne) (tb8.ext x9) _ _ _ _, pstep_set4 (s8.trans px) (Nat.le_of_lt ne) _ _ _ _, blk_set4_far (z8.ext x9) (Nat.ne_of_lt ne) _ _ _ _, clr_set4 (px.clr cz8) _ _ _ _ _, blk_s4 (tb8.ext x9) _ _ _ _, clr_set4 (px.clr cb8) _ _ _ _ _, ne, ?_, l8, he.1, fun hb => ⟨m1, hf, he.2 hb⟩⟩
  have hb := tb8.lt
  refine TmIn.mods (mods_set4 [gB] W9 gB (by simp) _ _ _ _) (fun k hk => ?_) (fun k hk => ?_) t9
  · rcases hk with hk | hk
    · simpa using hk.2.1
    · simp; omega
  · rcases hk with hk | hk
    · exact ⟨⟨hk.1.1, clr_set4 (px.clr hk.1.2) _ _ _ _ _⟩, hk.2⟩
    · exact ⟨⟨by omega, clr_set4 (clr_box h8 hk.1 hk.2) _ _ _ _ _⟩, by omega, by omega⟩
end Go.Proofs.YtgcdhffeacdegaaGreatDoor
