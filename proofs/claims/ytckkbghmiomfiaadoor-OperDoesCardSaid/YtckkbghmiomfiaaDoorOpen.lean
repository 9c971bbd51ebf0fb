/- Layer 9: arguments that are operators, opened. Over any program. -/
import Derived.Test.YtckkbghmiomfiaaDoorLaw
import Derived.Test.YtckkbghmiomfiaaDoorS09
namespace Go.El
open Go.RowKit Go.ChangeShapes Go.WideShapes Go.ChangeAt Go.Deep Go.Joins

section
variable {H : Type} {enc : TypeId × Value → H} {P : Program} {w : World} {base : Nat} {spare : Nat → Bool} {held : Bool}

/-- The type of operators, as a program lays it. -/
structure OpType (P : Program) (top ti ts : TypeId) : Prop where
  shape : ∃ f0 f1 f2 : Field, P.underlying top = some (.struct #[f0, f1, f2]) ∧ f0.type = ti ∧ f1.type = ti ∧ f2.type = ts ∧ f0.offset = 0 ∧ f1.offset = 1 ∧ f2.offset = 2
  int : P.underlying ti = some (.int .i64)
  str : P.underlying ts = some .string
  c : P.cellsOf top = 3
  ci : P.cellsOf ti = 1
  cs : P.cellsOf ts = 1
/-- The type of a law's calls. -/
structure CallType (P : Program) (tl top ti ts : TypeId) : Prop where
  op : OpType P top ti ts
  shape : ∃ f0 f1 f2 : Field, P.underlying tl = some (.struct #[f0, f1, f2]) ∧ f0.type = ti ∧ f1.type = top ∧ f2.type = ts ∧ f0.offset = 0 ∧ f1.offset = 1 ∧ f2.offset = 4
  c : P.cellsOf tl = 5

variable {tl top ti ts : TypeId}

theorem op_of_trod (T : OpType P top ti ts) {fuel : Nat} {cs : List Value} {x : DataW H × List MemPlace} (h : DataW.trod enc P w base spare held fuel top cs = some x) :
    ∃ o : OpV, cs = opCells o ∧ (Lit.int .i64 o.p).wf = true ∧ (Lit.int .i64 o.t).wf = true ∧ o.s.size ≤ maxLen := by
  obtain ⟨f0, f1, f2, hu, t0, t1, t2, o0, o1, o2⟩ := T.shape
  obtain ⟨xs, n, _, _, hl, hlen, hf⟩ := DataW.trod_struct hu h
  rw [T.c] at hl
  match cs, hl with
  | [c0, c1, c2], _ =>
    have h0 := hf 0 f0 rfl
    have h1 := hf 1 f1 rfl
    have h2 := hf 2 f2 rfl
    match xs, hlen with
    | [x0, x1, x2], _ =>
      rw [t0, o0, T.ci] at h0
      rw [t1, o1, T.ci] at h1
      rw [t2, o2, T.cs] at h2
      simp only [List.drop_zero, List.drop_succ_cons, List.take_succ_cons, List.take_zero, List.getElem?_cons_zero, List.getElem?_cons_succ] at h0 h1 h2
      obtain ⟨p, e0, _, w0⟩ := DataW.trod_int T.int h0
      obtain ⟨t, e1, _, w1⟩ := DataW.trod_int T.int h1
      obtain ⟨s, e2, _, w2⟩ := DataW.trod_string T.str h2
      simp only [List.cons.injEq, and_true] at e0 e1 e2
      exact ⟨⟨p, t, s⟩, by rw [e0, e1, e2]; rfl, w0, w1, w2⟩

theorem open_op (T : OpType P top ti ts) {r : Reach} {b0 : Nat} {v : Value} {d : DataW H} {ps : List MemPlace} (hv : Value.okWide P w r b0 top v) (h : DataW.Trod enc P w base spare held top v d ps) :
    ∃ o : OpV, v = .agg #[.int .i64 o.p, .int .i64 o.t, .string o.s] ∧ (Lit.int .i64 o.p).wf = true ∧ (Lit.int .i64 o.t).wf = true ∧ o.s.size ≤ maxLen := by
  obtain ⟨_, _, _, hu, _⟩ := T.shape
  obtain ⟨cs, rfl, _⟩ := okWide_struct hu hv
  obtain ⟨fuel, hf⟩ := h
  obtain ⟨o, e, r⟩ := op_of_trod T hf
  obtain ⟨l⟩ := cs
  simp only [Value.cells] at e
  subst e
  exact ⟨o, rfl, r⟩

/-- A call of a law: its kind, its operator, its name. -/
structure CallV where
  k : Int
  o : OpV
  nm : ByteArray
def callCells (c : CallV) : List Value := [.int .i64 c.k, .int .i64 c.o.p, .int .i64 c.o.t, .string c.o.s, .string c.nm]
def CallV.good (c : CallV) : Prop := (Lit.int .i64 c.k).wf = true ∧ (Lit.int .i64 c.o.p).wf = true ∧ (Lit.int .i64 c.o.t).wf = true ∧ c.o.s.size ≤ maxLen ∧ c.nm.size ≤ maxLen

theorem call_of_trod (T : CallType P tl top ti ts) {fuel : Nat} {cs : List Value} {x : DataW H × List MemPlace} (h : DataW.trod enc P w base spare held fuel tl cs = some x) :
    ∃ c : CallV, cs = callCells c ∧ c.good := by
  obtain ⟨f0, f1, f2, hu, t0, t1, t2, o0, o1, o2⟩ := T.shape
  obtain ⟨xs, n, _, _, hl, hlen, hf⟩ := DataW.trod_struct hu h
  rw [T.c] at hl
  match cs, hl with
  | [c0, c1, c2, c3, c4], _ =>
    have h0 := hf 0 f0 rfl
    have h1 := hf 1 f1 rfl
    have h2 := hf 2 f2 rfl
    match xs, hlen with
    | [x0, x1, x2], _ =>
      rw [t0, o0, T.op.ci] at h0
      rw [t1, o1, T.op.c] at h1
      rw [t2, o2, T.op.cs] at h2
      simp only [List.drop_zero, List.drop_succ_cons, List.take_succ_cons, List.take_zero, List.getElem?_cons_zero, List.getElem?_cons_succ] at h0 h1 h2
      obtain ⟨k, e0, _, w0⟩ := DataW.trod_int T.op.int h0
      obtain ⟨o, e1, w1, w2, w3⟩ := op_of_trod T.op h1
      obtain ⟨nm, e2, _, w4⟩ := DataW.trod_string T.op.str h2
      simp only [List.cons.injEq, and_true, opCells] at e0 e1 e2
      exact ⟨⟨k, o, nm⟩, by rw [e0, e1.1, e1.2.1, e1.2.2, e2]; rfl, w0, w1, w2, w3, w4⟩

theorem open_call (T : CallType P tl top ti ts) {r : Reach} {b0 : Nat} {v : Value} {d : DataW H} {ps : List MemPlace} (hv : Value.okWide P w r b0 tl v) (h : DataW.Trod enc P w base spare held tl v d ps) :
    ∃ c : CallV, v = .agg #[.int .i64 c.k, .int .i64 c.o.p, .int .i64 c.o.t, .string c.o.s, .string c.nm] ∧ c.good := by
  obtain ⟨_, _, _, hu, _⟩ := T.shape
  obtain ⟨cs, rfl, _⟩ := okWide_struct hu hv
  obtain ⟨fuel, hf⟩ := h
  obtain ⟨c, e, r⟩ := call_of_trod T hf
  obtain ⟨l⟩ := cs
  simp only [Value.cells] at e
  subst e
  exact ⟨c, rfl, r⟩

/-- A slice whose elements read one by one. -/
theorem open_rows {α : Type} {cells : α → List Value} {k : Nat} {good : α → Prop} {t e : TypeId} (ht : P.underlying t = some (.slice e)) (hce : P.cellsOf e = k) (hk : ∀ x, (cells x).length = k) (h0 : 0 < k)
    (hel : ∀ {fuel : Nat} {cs : List Value} {x : DataW H × List MemPlace}, DataW.trod enc P w base spare held fuel e cs = some x → ∃ a : α, cs = cells a ∧ good a)
    {r : Reach} {b0 : Nat} {v : Value} {d : DataW H} {ps : List MemPlace} (hv : Value.okWide P w r b0 t v) (h : DataW.Trod enc P w base spare held t v d ps) :
    ∃ (A : Option Addr) (L : List α) (c : Nat), v = .slice A L.length c ∧ Src w A L.length k (flat cells L) ∧ (∀ x ∈ L, good x) ∧ L.length ≤ maxLen := by
  obtain ⟨fuel, hf⟩ := h
  have h1 : v.cells.toList = [v] := by
    simp only [Value.okWide, ht] at hv
    cases v <;> simp_all [Cell.okWide, Cell.ok, Value.cells]
  rw [h1] at hf
  rcases open_slice ht hf with ⟨h2, _⟩ | ⟨a, len, cap, m, n, D, Pl, hcs, hb, hl, hm, hmm, hx, hi⟩
  · simp only [List.cons.injEq, and_true] at h2
    subst h2
    exact ⟨none, [], 0, rfl, Src.none _ _ _, fun x hx => by simp at hx, Nat.zero_le _⟩
  · simp only [List.cons.injEq, and_true] at hcs
    subst hcs
    have hml : len ≤ m := by rw [hmm]; split <;> omega
    obtain ⟨L, hL, hp⟩ := list_of_all (p := fun i x => w.cells? base (a.add (i * k)) k = some (cells x) ∧ good x) len (fun i hil => by
      obtain ⟨cs', hc, ht'⟩ := hi i (by omega)
      obtain ⟨x, e, g⟩ := hel ht'
      rw [hce, e] at hc
      exact ⟨x, hc, g⟩)
    subst hL
    refine ⟨some a, L, cap, rfl, src_of_cells hk h0 (fun i x hx j u hu => ?_), fun x hx => ?_, by omega⟩
    · obtain ⟨_, _, hat⟩ := World.cells?_some (hp i x hx).1
      have hj : j < k := by
        have := (List.getElem?_eq_some_iff.1 hu).1
        rwa [hk] at this
      rw [← Go.Deep.add_add]
      exact (hat j hj).trans hu
    · obtain ⟨i, hi⟩ := List.mem_iff_getElem?.1 hx
      exact (hp i x hi).2

theorem open_ops (T : OpType P top ti ts) {t : TypeId} (ht : P.underlying t = some (.slice top)) {r : Reach} {b0 : Nat} {v : Value} {d : DataW H} {ps : List MemPlace} (hv : Value.okWide P w r b0 t v) (h : DataW.Trod enc P w base spare held t v d ps) :
    ∃ (A : Option Addr) (L : List OpV) (c : Nat), v = .slice A L.length c ∧ Src w A L.length 3 (flat opCells L) ∧ (∀ o ∈ L, o.s.size ≤ maxLen) ∧ L.length ≤ maxLen :=
  open_rows ht T.c opCells_len (by omega) (fun h => (op_of_trod T h).imp fun _ h => ⟨h.1, h.2.2.2⟩) hv h
theorem open_calls (T : CallType P tl top ti ts) {t : TypeId} (ht : P.underlying t = some (.slice tl)) {r : Reach} {b0 : Nat} {v : Value} {d : DataW H} {ps : List MemPlace} (hv : Value.okWide P w r b0 t v) (h : DataW.Trod enc P w base spare held t v d ps) :
    ∃ (A : Option Addr) (L : List CallV) (c : Nat), v = .slice A L.length c ∧ Src w A L.length 5 (flat callCells L) ∧ (∀ o ∈ L, o.good) ∧ L.length ≤ maxLen :=
  open_rows ht T.c (fun _ => rfl) (by omega) (fun h => call_of_trod T h) hv h
end

end Go.El
