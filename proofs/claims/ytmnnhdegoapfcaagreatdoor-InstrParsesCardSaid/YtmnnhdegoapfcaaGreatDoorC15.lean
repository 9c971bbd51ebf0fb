/- Layer 16, plain: what the walk of Check leans on. -/
import Derived.Test.YtmnnhdegoapfcaaGreatDoorC14
import Derived.Test.YtmnnhdegoapfcaaGreatDoorC01
import Derived.Test.YtmnnhdegoapfcaaGreatDoorC02
import Derived.Test.YtmnnhdegoapfcaaGreatDoorC10
import Derived.Test.YtmnnhdegoapfcaaGreatDoorCards
import Derived.Test.YtmnnhdegoapfcaaGreatDoorTie
import Derived.Lay
import Derived.Shelf.Vars
import Derived.MakeChecks
import Derived.Lib.LaidTab
namespace Go.Proofs.YtmnnhdegoapfcaaGreatDoor
open Go.RowKit Go.El

def insCells (i : Ins) : List Value := [.int .i64 i.op, .string i.s, .int .i64 i.n, .int .i64 i.v, .int .i64 i.a]
theorem insCells_len (i : Ins) : (insCells i).length = 5 := rfl
/-- What is read at a place of a slice of instructions. -/
theorem src_ins {w : World} {A : Option Addr} {C : List Ins} (h : El.Src w A C.length 5 (flat insCells C)) {k : Nat} (hk : k < C.length) : ∃ b off, A = some ⟨b, off, none⟩ ∧ w.cell? ⟨b, off + k * 5, none⟩ = some (.int .i64 C[k].op) ∧ w.cell? ⟨b, off + k * 5 + 1, none⟩ = some (.string C[k].s) ∧ w.cell? ⟨b, off + k * 5 + 2, none⟩ = some (.int .i64 C[k].n) ∧ w.cell? ⟨b, off + k * 5 + 3, none⟩ = some (.int .i64 C[k].v) ∧ w.cell? ⟨b, off + k * 5 + 4, none⟩ = some (.int .i64 C[k].a) := by
  obtain ⟨b, off, rfl, hc⟩ := h.form (by omega) (by omega)
  have ho : C[k]? = some C[k] := List.getElem?_eq_getElem hk
  have e (j : Nat) (hj : j < 5) (u : Value) (hu : (insCells C[k])[j]? = some u) : w.cell? ⟨b, off + (k * 5 + j), none⟩ = some u := hc _ u (by rw [flat_at insCells_len C k j _ ho hj]; exact hu)
  refine ⟨b, off, rfl, e 0 (by omega) _ rfl, ?_, ?_, ?_, ?_⟩
  · have := e 1 (by omega) _ rfl; rwa [← Nat.add_assoc] at this
  · have := e 2 (by omega) _ rfl; rwa [← Nat.add_assoc] at this
  · have := e 3 (by omega) _ rfl; rwa [← Nat.add_assoc] at this
  · have := e 4 (by omega) _ rfl; rwa [← Nat.add_assoc] at this

theorem start_cells : Tryz.zeroCells102.setIfInBounds 321 (.int .i64 (-1)) = (stList (InSt.start 0)).toArray := by kernel_rfl
theorem start_lx (k : Nat) : (InSt.start k).x.length = 256 := by simp [InSt.start]
theorem start_ly (k : Nat) : (InSt.start k).y.length = 65 := by simp [InSt.start]
theorem start_set (k : Nat) (hk : k ≤ 16) : ({ InSt.start k with x := (InSt.start k).x.set (k + 1) true } : InSt) = InSt.start (k + 1) := by
  have e : (InSt.start k).x.set (k + 1) true = (InSt.start (k + 1)).x := by
    apply List.ext_getElem
    · simp [InSt.start]
    · intro j h1 h2
      simp only [InSt.start, List.getElem_set, List.getElem_map, List.getElem_range]
      by_cases c : k + 1 = j
      · rw [if_pos c]
        exact (decide_eq_true (by omega)).symm
      · rw [if_neg c]
        exact decide_eq_decide.2 (by omega)
  rw [e]
  rfl
theorem start_ok (k : Nat) : StOk (InSt.start k) := ⟨by simp [InSt.start], by simp [InSt.start], by simp [InSt.start], by simp [InSt.start], 0, rfl, by omega⟩

/-- What an instruction that may be holds. -/
theorem may_ok {i : Ins} (h : insMay i = true) : InsOk i ∧ (i.op = 5 ∨ i.op = 14 → 1 ≤ i.n ∧ i.n ≤ 16) := by
  unfold insMay at h
  split at h
  · cases h
  · rename_i hn
    have hn' : nameF i.op ≠ [] := fun e => hn (.inl e)
    obtain ⟨h0, h3⟩ := nameF_in hn'
    have h1 : i.op ≠ 0 := by
      intro e
      rw [e] at hn'
      exact hn' rfl
    obtain ⟨op, sn, n, v, a⟩ := i
    dsimp only at h h0 h3 h1 hn' ⊢
    clear hn hn'
    obtain ⟨k, rfl⟩ : ∃ k : Nat, op = k := ⟨op.toNat, by omega⟩
    simp only [Bool.and_eq_true] at h
    obtain ⟨⟨⟨⟨hv, _⟩, ha⟩, hn⟩, _⟩ := h
    have hvv : -64 ≤ v ∧ v ≤ 255 := by
      unfold withinF at hv
      split at hv
      · simpa using hv
      · simp at hv; omega
    have T1 : ∀ o ∈ List.range 31, 1 ≤ o → (o ≤ 5 ∨ 10 ≤ o ∧ o ≤ 14) → hasF o 4 = false ∧ hasF o 2 = true := by decide +kernel
    have T2 : ∀ o ∈ List.range 31, 1 ≤ o → (o = 21 ∨ o = 23) → hasF o 4 = true := by decide +kernel
    have T3 : ∀ o ∈ List.range 31, 1 ≤ o → (o = 21 ∨ o = 22) → hasF o 32 = false ∧ hasF o 64 = true := by decide +kernel
    have T4 : ∀ o ∈ List.range 31, 1 ≤ o → (o = 5 ∨ o = 14) → hasF o 32 = true := by decide +kernel
    refine ⟨⟨by show (1 : Int) ≤ k; omega, by show (k : Int) ≤ 30; omega, hvv.1, hvv.2, ?_, ?_, ?_⟩, ?_⟩
    · intro hc
      obtain ⟨t1, t2⟩ := T1 k (by simpa using (by omega : k < 31)) (by omega) (by dsimp only at hc; omega)
      rw [t1, t2] at ha
      simpa [withinF] using ha
    · intro hc
      obtain ⟨t1, t2⟩ := T3 k (by simpa using (by omega : k < 31)) (by omega) (by dsimp only at hc; omega)
      unfold numberF at hn
      simp only [t1, t2] at hn
      simpa [withinF] using hn
    · intro hc
      have t1 := T2 k (by simpa using (by omega : k < 31)) (by omega) (by dsimp only at hc; omega)
      rw [t1] at ha
      simpa [withinF] using ha
    · intro hc
      have t1 := T4 k (by simpa using (by omega : k < 31)) (by omega) (by omega)
      unfold numberF at hn
      simp only [t1] at hn
      simpa [withinF] using hn

theorem learn_ok {s : InSt} (h : StOk s) (v : Int) : StOk (s.learn v).2 := by
  unfold InSt.learn
  split
  · exact ⟨h.u0, h.u1, h.s0, h.s1, h.p⟩
  · split
    · exact h
    · exact ⟨h.u0, h.u1, h.s0, h.s1, h.p⟩
theorem rowV_ok {s : InSt} (h : StOk s) (i : Ins) : StOk (s.rowV i).2 := by
  unfold InSt.rowV
  split
  · exact learn_ok h _
  · split <;> exact h
theorem step_ok {s : InSt} (h : StOk s) {i : Ins} (hi : insMay i = true) : StOk (s.step i).2 := by
  obtain ⟨hk, hn⟩ := may_ok hi
  unfold InSt.step
  split
  · exact h
  split
  · unfold InSt.rowU
    split
    · exact h
    · exact rowV_ok (s := { s with uni := s.uni - 1 }) ⟨by have := h.u0; show 0 ≤ s.uni - 1; omega, by have := h.u1; show s.uni - 1 ≤ _; omega, h.s0, h.s1, h.p⟩ i
  split
  · unfold InSt.rowS
    split
    · exact h
    · have r := rowV_ok (s := { s with set := s.set - 1 }) ⟨h.u0, h.u1, by have := h.s0; show 0 ≤ s.set - 1; omega, by have := h.s1; show s.set - 1 ≤ _; omega, h.p⟩ i
      dsimp only
      split
      · exact ⟨r.u0, r.u1, r.s0, r.s1, r.p⟩
      · exact r
  split
  · exact h
  rename_i c1 c2 c3 c4
  split
  · rename_i c5
    unfold InSt.get
    dsimp only
    split
    · split
      · exact learn_ok h _
      · exact h
    · split
      · exact h
      · split
        · rename_i c6
          have := hn (.inl c6)
          exact ⟨by show 0 ≤ i.n; omega, by show i.n ≤ _; omega, h.s0, h.s1, h.p⟩
        · exact h
  rename_i c5
  split
  · rename_i c6
    unfold InSt.store
    split
    · rename_i c7
      have := hn (.inr c7)
      have hb := hk.a (.inr ⟨by omega, by omega⟩)
      exact ⟨h.u0, h.u1, by show 0 ≤ i.n; omega, by show i.n ≤ _; omega, i.a.toNat, by show i.a = _; omega, by omega⟩
    · dsimp only
      split
      · have r := learn_ok h i.v
        exact ⟨r.u0, r.u1, r.s0, r.s1, r.p⟩
      · split <;> exact ⟨h.u0, h.u1, h.s0, h.s1, h.p⟩
  split
  · unfold InSt.env
    split <;> exact ⟨h.u0, h.u1, h.s0, h.s1, h.p⟩
  split
  · split
    · exact learn_ok h _
    · exact h
  split
  · exact learn_ok h _
  split
  · exact h
  split
  · exact h
  unfold InSt.flow InSt.call InSt.end_
  repeat' split
  all_goals exact ⟨h.u0, h.u1, h.s0, h.s1, h.p⟩

theorem run_split : ∀ {l : List Ins} {k : Nat} {s st : InSt}, k ≤ l.length → s.run (l.take k) = some st → s.run l = st.run (l.drop k) ∧ runAt s l = k + runAt st (l.drop k)
  | l, 0, s, st, _, h => by
    simp only [List.take_zero, InSt.run] at h
    injection h with h
    subst h
    simp
  | [], k + 1, s, st, hk, h => by simp at hk
  | i :: r, k + 1, s, st, hk, h => by
    simp only [List.take_succ_cons, InSt.run] at h
    split at h
    · rename_i hi
      obtain ⟨h1, h2⟩ := run_split (l := r) (k := k) (by simpa using hk) h
      simp only [InSt.run, runAt, hi, if_true, List.drop_succ_cons]
      exact ⟨h1, by omega⟩
    · cases h
theorem run_snoc {l : List Ins} {k : Nat} {s st : InSt} (hk : k < l.length) (h : s.run (l.take k) = some st) (hm : insMay l[k] = true) (hs : (st.step l[k]).1 = true) : s.run (l.take (k + 1)) = some (st.step l[k]).2 := by
  obtain ⟨h1, _⟩ := run_split (l := l.take (k + 1)) (k := k) (s := s) (st := st) (by simp; omega) (by rw [List.take_take]; rwa [show min k (k + 1) = k by omega])
  rw [h1, List.take_succ_eq_append_getElem hk, List.drop_append_of_le_length (by simp; omega)]
  have e : List.drop k (List.take k l) = [] := List.drop_eq_nil_of_le (by simp; omega)
  rw [e]
  simp only [List.nil_append, InSt.run, hm, hs, Bool.and_self, if_true]
theorem chk_at {l : List Ins} {arity k : Nat} {st : InSt} (ha : arity ≤ 16) (hl : l.length ≤ 4096) (hk : k < l.length) (h : (InSt.start arity).run (l.take k) = some st) (hb : (insMay l[k] && (st.step l[k]).1) = false) : chkIns l arity = ((k : Int), 160) := by
  obtain ⟨h1, h2⟩ := run_split (Nat.le_of_lt hk) h
  have e : l.drop k = l[k] :: l.drop (k + 1) := List.drop_eq_getElem_cons hk
  rw [e] at h1 h2
  simp only [InSt.run, runAt, hb, Bool.false_eq_true, if_false] at h1 h2
  unfold chkIns
  rw [if_neg (by omega), if_neg (by omega), Int.toNat_natCast, h1, h2]
  rfl
theorem chk_end {l : List Ins} {arity : Nat} {st : InSt} (ha : arity ≤ 16) (hl : l.length ≤ 4096) (h : (InSt.start arity).run l = some st) : chkIns l arity = ((l.length : Int), if st.ended then 0 else 160) := by
  unfold chkIns
  rw [if_neg (by omega), if_neg (by omega), Int.toNat_natCast, h]

end Go.Proofs.YtmnnhdegoapfcaaGreatDoor

/- What the rows of this seat have in common: instructions that come in; the listed variables; a start. -/
namespace Go.Proofs.YtmnnhdegoapfcaaGreatDoor
open Go.RowKit Go.El Go.ChangeShapes Go.WideShapes Go.ChangeAt Go.Deep Go.Joins

theorem own : ownKnob Tryz.prog.godebug = none := by kernel_rfl
theorem laidOut : laidOutB Tryz.prog = true := by kernel_rfl

section
variable {H : Type} {enc : TypeId × Value → H} {P : Program} {w : World} {base : Nat} {spare : Nat → Bool} {held : Bool}

/-- The type of instructions, as a program lays it. -/
structure InsType (P : Program) (tt ti ts : TypeId) : Prop where
  shape : ∃ f0 f1 f2 f3 f4 : Field, P.underlying tt = some (.struct #[f0, f1, f2, f3, f4]) ∧ f0.type = ti ∧ f1.type = ts ∧ f2.type = ti ∧ f3.type = ti ∧ f4.type = ti ∧ f0.offset = 0 ∧ f1.offset = 1 ∧ f2.offset = 2 ∧ f3.offset = 3 ∧ f4.offset = 4
  int : P.underlying ti = some (.int .i64)
  str : P.underlying ts = some .string
  c : P.cellsOf tt = 5
  ci : P.cellsOf ti = 1
  cs : P.cellsOf ts = 1
def InsGood (i : Ins) : Prop := i.s.size ≤ maxLen
variable {tt ti ts : TypeId}
theorem ins_of_trod (T : InsType P tt ti ts) {fuel : Nat} {cs : List Value} {x : DataW H × List MemPlace} (h : DataW.trod enc P w base spare held fuel tt cs = some x) : ∃ i : Ins, cs = insCells i ∧ InsGood i := by
  obtain ⟨f0, f1, f2, f3, f4, hu, t0, t1, t2, t3, t4, o0, o1, o2, o3, o4⟩ := T.shape
  obtain ⟨xs, n, _, _, hl, hlen, hf⟩ := DataW.trod_struct hu h
  rw [T.c] at hl
  match cs, hl with
  | [c0, c1, c2, c3, c4], _ =>
    have h0 := hf 0 f0 rfl
    have h1 := hf 1 f1 rfl
    have h2 := hf 2 f2 rfl
    have h3 := hf 3 f3 rfl
    have h4 := hf 4 f4 rfl
    match xs, hlen with
    | [x0, x1, x2, x3, x4], _ =>
      rw [t0, o0, T.ci] at h0
      rw [t1, o1, T.cs] at h1
      rw [t2, o2, T.ci] at h2
      rw [t3, o3, T.ci] at h3
      rw [t4, o4, T.ci] at h4
      simp only [List.drop_zero, List.drop_succ_cons, List.take_succ_cons, List.take_zero, List.getElem?_cons_zero, List.getElem?_cons_succ] at h0 h1 h2 h3 h4
      obtain ⟨a, e0, _, _⟩ := DataW.trod_int T.int h0
      obtain ⟨s, e1, _, w1⟩ := DataW.trod_string T.str h1
      obtain ⟨b, e2, _, _⟩ := DataW.trod_int T.int h2
      obtain ⟨c, e3, _, _⟩ := DataW.trod_int T.int h3
      obtain ⟨d, e4, _, _⟩ := DataW.trod_int T.int h4
      simp only [List.cons.injEq, and_true] at e0 e1 e2 e3 e4
      exact ⟨⟨a, s, b, c, d⟩, by rw [e0, e1, e2, e3, e4]; rfl, w1⟩
theorem open_ins (T : InsType P tt ti ts) {r : Reach} {b0 : Nat} {v : Value} {d : DataW H} {ps : List MemPlace} (hv : Value.okWide P w r b0 tt v) (h : DataW.Trod enc P w base spare held tt v d ps) :
    ∃ i : Ins, v = insVal i ∧ InsGood i := by
  obtain ⟨_, _, _, _, _, hu, _⟩ := T.shape
  obtain ⟨cs, rfl, _⟩ := okWide_struct hu hv
  obtain ⟨fuel, hf⟩ := h
  obtain ⟨i, e, r⟩ := ins_of_trod T hf
  obtain ⟨l⟩ := cs
  simp only [Value.cells] at e
  subst e
  exact ⟨i, rfl, r⟩
theorem open_inss (T : InsType P tt ti ts) {t : TypeId} (ht : P.underlying t = some (.slice tt)) {r : Reach} {b0 : Nat} {v : Value} {d : DataW H} {ps : List MemPlace} (hv : Value.okWide P w r b0 t v) (h : DataW.Trod enc P w base spare held t v d ps) :
    ∃ (A : Option Addr) (L : List Ins) (c : Nat), v = .slice A L.length c ∧ El.Src w A L.length 5 (flat insCells L) ∧ (∀ x ∈ L, InsGood x) ∧ L.length ≤ c ∧ L.length ≤ maxLen := by
  obtain ⟨fuel, hf⟩ := h
  have h1 : v.cells.toList = [v] := by
    simp only [Value.okWide, ht] at hv
    cases v <;> simp_all [Cell.okWide, Cell.ok, Value.cells]
  rw [h1] at hf
  rcases open_slice ht hf with ⟨h2, _⟩ | ⟨a, len, cap, m, n, D, Pl, hcs, hb, hl, hm, hmm, hx, hi⟩
  · simp only [List.cons.injEq, and_true] at h2
    subst h2
    exact ⟨none, [], 0, rfl, El.Src.none _ _ _, fun x hx => by simp at hx, Nat.zero_le _, Nat.zero_le _⟩
  · simp only [List.cons.injEq, and_true] at hcs
    subst hcs
    have hml : len ≤ m := by rw [hmm]; split <;> omega
    obtain ⟨L, hL, hp⟩ := list_of_all (p := fun i x => w.cells? base (a.add (i * 5)) 5 = some (insCells x) ∧ InsGood x) len (fun i hil => by
      obtain ⟨cs', hc, ht'⟩ := hi i (by omega)
      obtain ⟨x, e, g⟩ := ins_of_trod T ht'
      rw [T.c, e] at hc
      exact ⟨x, hc, g⟩)
    subst hL
    refine ⟨some a, L, cap, rfl, src_of_cells insCells_len (by omega) (fun i x hx j u hu => ?_), fun x hx => ?_, by omega, by omega⟩
    · obtain ⟨_, _, hat⟩ := World.cells?_some (hp i x hx).1
      have hj : j < 5 := by
        have := (List.getElem?_eq_some_iff.1 hu).1
        rwa [insCells_len] at this
      rw [← Go.Deep.add_add]
      exact (hat j hj).trans hu
    · obtain ⟨i, hi⟩ := List.mem_iff_getElem?.1 hx
      exact (hp i x hi).2

/-- From a table of names and numbers that is listed to its cells. -/
theorem cells_of_pairs {W : World} {sp : Nat → Bool} {fuel : Nat} {t e : TypeId} {n : Nat} {cs : List Value} {ls : List (List UInt8 × Nat)} {p : List MemPlace} {f0 f1 : Field}
    (ht : P.underlying t = some (.array n e)) (he : P.underlying e = some (.struct #[f0, f1])) (h0 : P.underlying f0.type = some .string) (h1 : P.underlying f1.type = some (.int .i64)) (o0 : f0.offset = 0) (o1 : f1.offset = 1)
    (hce : P.cellsOf e = 2) (hc0 : P.cellsOf f0.type = 1) (hc1 : P.cellsOf f1.type = 1)
    (h : DataW.trod enc P W base sp held fuel t cs = some (.agg (ls.map fun l => .agg [.lit (.string l.1), .lit (.int .i64 l.2)]), p)) (i : Nat) (l : List UInt8 × Nat) (hl : ls[i]? = some l) :
    cs[i * 2]? = some (.string ⟨l.1.toArray⟩) ∧ cs[i * 2 + 1]? = some (.int .i64 l.2) := by
  obtain ⟨xs, m, rfl, hx, hlen, hxl, hat⟩ := DataW.trod_array ht h
  simp only [Prod.mk.injEq, DataW.agg.injEq] at hx
  have hxs : xs.map (·.1) = ls.map fun l => (DataW.agg [.lit (.string l.1), .lit (.int .i64 l.2)] : DataW H) := hx.1.symm
  have hll : ls.length = n := by
    have := congrArg List.length hxs
    simp at this
    omega
  have hi : i < n := by rw [← hll]; exact (List.getElem?_eq_some_iff.1 hl).1
  have h2 := hat i hi
  rw [List.getElem?_eq_getElem (by omega), hce] at h2
  obtain ⟨y0, y1, k, hy, hyl, g0, g1⟩ := trod_struct2 he h2
  rw [o0, hc0] at g0
  rw [o1, hc1] at g1
  rw [hce] at hyl
  have h3 : (xs.map (·.1))[i]? = some (DataW.agg [y0.1, y1.1]) := by
    rw [List.getElem?_map, List.getElem?_eq_getElem (by omega), hy]
    rfl
  rw [hxs, List.getElem?_map, hl] at h3
  simp only [Option.map_some, Option.some.injEq, DataW.agg.injEq, List.cons.injEq, and_true] at h3
  generalize hq : (cs.drop (i * 2)).take 2 = q at *
  match q, hyl with
  | [c0, c1], _ =>
    simp only [List.drop_zero, List.take_succ_cons, List.take_zero, List.drop_succ_cons] at g0 g1
    obtain ⟨s, e0, x0, _⟩ := DataW.trod_string h0 g0
    obtain ⟨z, e1, x1, _⟩ := DataW.trod_int h1 g1
    simp only [List.cons.injEq, and_true] at e0 e1
    rw [x0] at h3
    rw [x1] at h3
    simp only [DataW.lit.injEq, Lit.string.injEq, Lit.int.injEq, true_and] at h3
    obtain ⟨h4, h5⟩ := h3
    have k0 : cs[i * 2]? = some c0 := by
      have := congrArg (·[0]?) hq
      simpa [List.getElem?_take, List.getElem?_drop] using this
    have k1 : cs[i * 2 + 1]? = some c1 := by
      have := congrArg (·[1]?) hq
      simpa [List.getElem?_take, List.getElem?_drop] using this
    refine ⟨by rw [k0, e0, h4], by rw [k1, e1, h5]⟩
end

theorem insType : InsType Tryz.prog 25 3 9 := ⟨⟨_, _, _, _, _, Tryz.underlying25, rfl, rfl, rfl, rfl, rfl, rfl, rfl, rfl, rfl, rfl⟩, Tryz.underlying3, Tryz.underlying9, by kernel_rfl, by kernel_rfl, by kernel_rfl⟩

def laidL : List (String × DataW Unit) := Rows.instrParsesRow.laid
def tzTab : List Int := [0, 1, 56, 2, 57, 49, 28, 3, 61, 58, 42, 50, 38, 29, 17, 4, 62, 47, 59, 36, 45, 43, 51, 22, 53, 39, 33, 30, 24, 18, 12, 5, 63, 55, 48, 27, 60, 41, 37, 16, 46, 35, 44, 21, 52, 32, 23, 11, 54, 26, 40, 15, 34, 20, 31, 10, 25, 14, 19, 9, 13, 8, 7, 6]
def tzName : String := (laidL.drop 1).head?.elim "" (·.1)
def p10Name : String := (laidL.drop 2).head?.elim "" (·.1)
def rangeName : String := (laidL.drop 3).head?.elim "" (·.1)
def synName : String := (laidL.drop 4).head?.elim "" (·.1)
def opsName : String := (laidL.drop 5).head?.elim "" (·.1)
theorem tz_list : laidL = (laidL.take 1) ++ (tzName, Lib.tabData .u8 tzTab) :: laidL.drop 2 := by rfl
theorem p10_list : laidL = (laidL.take 2) ++ (p10Name, Lib.tabData .u64 Lib.pow10Tab) :: laidL.drop 3 := by rfl
theorem range_list : laidL = (laidL.take 3) ++ (rangeName, Rows.laid_strconv_ErrRange) :: laidL.drop 4 := by rfl
theorem syn_list : laidL = (laidL.take 4) ++ (synName, Rows.laid_strconv_ErrSyntax) :: laidL.drop 5 := by rfl
theorem ops_list : laidL = (laidL.take 5) ++ (opsName, .agg (opTab.map fun l => .agg [.lit (.string l.1), .lit (.int .i64 l.2)])) :: laidL.drop 6 := by rfl

theorem laidVars_app {P : Program} {w : World} : ∀ {a b : List (String × DataW Unit)} {ps : List MemPlace}, DataW.LaidVars P w (a ++ b) ps → ∃ qs, DataW.LaidVars P w b qs
  | [], _, ps, h => ⟨ps, h⟩
  | (_, _) :: _, _, _, ⟨_, _, _, _, _, _, _, _, _, _, h, _⟩ => laidVars_app h

set_option maxRecDepth 100000 in
theorem tz_of_laid {W : World} (h : laidMetH Tryz.prog laidL W) : TzAt W := by
  rw [MakeChecks.laidMetH_plain _ _ _ (by kernel_rfl), tz_list] at h
  obtain ⟨ps, h, _, _⟩ := h
  obtain ⟨qs, h⟩ := laidVars_app h
  obtain ⟨g', t', cs, fuel, p, q, hg', ht', hvar, hd, _, _⟩ := h
  have hg : Tryz.prog.globalNamed tzName = some 6 := by kernel_rfl
  have hty : ((Tryz.prog.globals[6]?).map (·.type)) = some 275 := by kernel_rfl
  obtain rfl := Option.some.inj (hg.symm.trans hg')
  obtain rfl := Option.some.inj (hty.symm.trans ht')
  have hcs := Lib.cells_of_tab Tryz.underlying275 Tryz.underlying5 (by kernel_rfl) (by kernel_rfl) hd
  unfold TzAt
  rw [World.var?_cell hg hvar 15, ← Array.getElem?_toList, hcs]
  rfl
set_option maxRecDepth 100000 in
theorem p10_of_laid {W : World} (h : laidMetH Tryz.prog laidL W) : Lib.TabIs Tryz.prog W pwName .u64 Lib.pow10Tab := by
  rw [MakeChecks.laidMetH_plain _ _ _ (by kernel_rfl), p10_list] at h
  obtain ⟨ps, h, _, _⟩ := h
  obtain ⟨qs, h⟩ := laidVars_app h
  obtain ⟨g', t', cs, fuel, p, q, hg', ht', hvar, hd, _, _⟩ := h
  have hg : Tryz.prog.globalNamed p10Name = some 4 := by kernel_rfl
  have hty : ((Tryz.prog.globals[4]?).map (·.type)) = some 249 := by kernel_rfl
  obtain rfl := Option.some.inj (hg.symm.trans hg')
  obtain rfl := Option.some.inj (hty.symm.trans ht')
  have hcs := Lib.cells_of_tab Tryz.underlying249 Tryz.underlying162 (by kernel_rfl) (by kernel_rfl) hd
  have hnm : p10Name = pwName := by kernel_rfl
  rw [← hnm]
  unfold Lib.TabIs
  rw [hvar]
  congr 1
  exact Array.ext' hcs
set_option maxRecDepth 100000 in
theorem range_of_laid {W : World} (h : laidMetH Tryz.prog laidL W) : ∃ te pe, W.cell? ⟨3, 0, none⟩ = some (.iface te pe) := by
  rw [MakeChecks.laidMetH_plain _ _ _ (by kernel_rfl), range_list] at h
  obtain ⟨ps, h, _, _⟩ := h
  obtain ⟨qs, h⟩ := laidVars_app h
  obtain ⟨g', t', cs, fuel, p, q, hg', ht', hvar, hd, _, _⟩ := h
  have hg : Tryz.prog.globalNamed rangeName = some 3 := by kernel_rfl
  have hty : ((Tryz.prog.globals[3]?).map (·.type)) = some 65 := by kernel_rfl
  obtain rfl := Option.some.inj (hg.symm.trans hg')
  obtain rfl := Option.some.inj (hty.symm.trans ht')
  obtain ⟨_, u, v, hcs, _, _⟩ := iface_of_trod Tryz.underlying65 hd
  refine ⟨u, v, ?_⟩
  rw [World.var?_cell hg hvar 0, ← Array.getElem?_toList, hcs]
  rfl
set_option maxRecDepth 100000 in
theorem syn_of_laid {W : World} (h : laidMetH Tryz.prog laidL W) : ∃ te pe, W.cell? ⟨2, 0, none⟩ = some (.iface te pe) := by
  rw [MakeChecks.laidMetH_plain _ _ _ (by kernel_rfl), syn_list] at h
  obtain ⟨ps, h, _, _⟩ := h
  obtain ⟨qs, h⟩ := laidVars_app h
  obtain ⟨g', t', cs, fuel, p, q, hg', ht', hvar, hd, _, _⟩ := h
  have hg : Tryz.prog.globalNamed synName = some 2 := by kernel_rfl
  have hty : ((Tryz.prog.globals[2]?).map (·.type)) = some 65 := by kernel_rfl
  obtain rfl := Option.some.inj (hg.symm.trans hg')
  obtain rfl := Option.some.inj (hty.symm.trans ht')
  obtain ⟨_, u, v, hcs, _, _⟩ := iface_of_trod Tryz.underlying65 hd
  refine ⟨u, v, ?_⟩
  rw [World.var?_cell hg hvar 0, ← Array.getElem?_toList, hcs]
  rfl
set_option maxRecDepth 100000 in
theorem ops_of_laid {W : World} (h : laidMetH Tryz.prog laidL W) : OpTabAt W := by
  rw [MakeChecks.laidMetH_plain _ _ _ (by kernel_rfl), ops_list] at h
  obtain ⟨ps, h, _, _⟩ := h
  obtain ⟨qs, h⟩ := laidVars_app h
  obtain ⟨g', t', cs, fuel, p, q, hg', ht', hvar, hd, _, _⟩ := h
  have hg : Tryz.prog.globalNamed opsName = some 0 := by kernel_rfl
  have hty : ((Tryz.prog.globals[0]?).map (·.type)) = some 110 := by kernel_rfl
  obtain rfl := Option.some.inj (hg.symm.trans hg')
  obtain rfl := Option.some.inj (hty.symm.trans ht')
  intro k hk
  have hl : opTab[k]? = some (opTab.getD k ([], 0)) := by
    rw [List.getD_eq_getElem?_getD, List.getElem?_eq_getElem (by exact hk)]
    rfl
  obtain ⟨h1, h2⟩ := cells_of_pairs Tryz.underlying110 Tryz.underlying109 Tryz.underlying9 Tryz.underlying3 rfl rfl (by kernel_rfl) (by kernel_rfl) (by kernel_rfl) hd k _ hl
  refine ⟨?_, ?_⟩
  · rw [World.var?_cell hg hvar, ← Array.getElem?_toList]
    exact h1
  · rw [World.var?_cell hg hvar, ← Array.getElem?_toList]
    exact h2
theorem env_of_laid {W : World} (h : laidMetH Tryz.prog laidL W) (hs : W.ShapedOpen Tryz.prog) : Env W :=
  ⟨ops_of_laid h, ⟨cell_of_shapedOpen_int (t := 3) (zero := #[.int .i64 0]) hs (by decide +kernel) (by kernel_rfl) rfl (by kernel_rfl) (by kernel_rfl) Tryz.underlying3, range_of_laid h⟩, tz_of_laid h, p10_of_laid h, syn_of_laid h⟩

noncomputable def laidWorld (os : Os) : World := World.laidAll Tryz.prog os laidL
set_option maxRecDepth 100000 in
theorem laid_met (os : Os) (args : Array Value) : laidMetH Tryz.prog laidL ((laidWorld os).forCall (fun _ _ => 0) ⟨#[], args, []⟩).memory := by
  rw [MakeChecks.laidMetH_plain _ _ _ (by kernel_rfl)]
  exact laidMet_laidAll _ (by kernel_rfl) (by kernel_rfl)

end Go.Proofs.YtmnnhdegoapfcaaGreatDoor
