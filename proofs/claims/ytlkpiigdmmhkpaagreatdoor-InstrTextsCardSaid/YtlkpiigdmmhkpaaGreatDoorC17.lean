/- Layer 16, plain: what the walk of Check leans on. -/
import Derived.Test.YtlkpiigdmmhkpaaGreatDoorC16
import Derived.Test.YtlkpiigdmmhkpaaGreatDoorC01
namespace Go.Proofs.YtlkpiigdmmhkpaaGreatDoor
open Go.RowKit Go.El

def insCells (i : Ins) : List Value := [.int .i64 i.op, .string i.s, .int .i64 i.n, .int .i64 i.v, .int .i64 i.a]
theorem insCells_len (i : Ins) : (insCells i).length = 5 := rfl
/-- What is read at a place of a slice of instructions. -/
theorem src_ins {w : World} {A : Option Addr} {C : List Ins} (h : El.Src w A C.length 5 (flat insCells C)) {k : Nat} (hk : k < C.length) : ∃ b off, A = some ⟨b, off, none⟩ ∧ w.cell? ⟨b, off + k * 5, none⟩ = some (.int .i64 C[k].op) ∧ w.cell? ⟨b, off + k * 5 + 1, none⟩ = some (.string C[k].s) ∧ w.cell? ⟨b, off + k * 5 + 2, none⟩ = some (.int .i64 C[k].n) ∧ w.cell? ⟨b, off + k * 5 + 3, none⟩ = some (.int .i64 C[k].v) ∧ w.cell? ⟨b, off + k * 5 + 4, none⟩ = some (.int .i64 C[k].a) := by
  obtain ⟨b, off, rfl, hc⟩ := h.form (by omega) (by omega)
  have ho : C[k]? = some C[k] := List.getElem?_eq_getElem hk
  have e (j : Nat) (hj : j < 5) (u : Value) (hu : (insCells C[k])[j]? = some u) : w.cell? ⟨b, off + (k * 5 + j), none⟩ = some u := hc _ u (by rw [flat_at insCells_len C k j _ ho hj]; exact hu)
  refine ⟨b, off, rfl, e 0 (by omega) _ rfl, ?_, ?_, ?_, ?_⟩
  · have := e 1 (by omega) _ rfl; rwa [← Nat.add_assoc] at this
  · have := e 2 (by omega) _ rfl; rwa [← Nat.add_assoc] at this
  · have := e 3 (by omega) _ rfl; rwa [← Nat.add_assoc] at this
  · have := e 4 (by omega) _ rfl; rwa [← Nat.add_assoc] at this

theorem start_cells : Tryz.zeroCells66.setIfInBounds 321 (.int .i64 (-1)) = (stList (InSt.start 0)).toArray := by kernel_rfl
theorem start_lx (k : Nat) : (InSt.start k).x.length = 256 := by simp [InSt.start]
theorem start_ly (k : Nat) : (InSt.start k).y.length = 65 := by simp [InSt.start]
theorem start_set (k : Nat) (hk : k ≤ 16) : ({ InSt.start k with x := (InSt.start k).x.set (k + 1) true } : InSt) = InSt.start (k + 1) := by
  have e : (InSt.start k).x.set (k + 1) true = (InSt.start (k + 1)).x := by
    apply List.ext_getElem
    · simp [InSt.start]
    · intro j h1 h2
      simp only [InSt.start, List.getElem_set, List.getElem_map, List.getElem_range]
      by_cases c : k + 1 = j
      · rw [if_pos c]
        exact (decide_eq_true (by omega)).symm
      · rw [if_neg c]
        exact decide_eq_decide.2 (by omega)
  rw [e]
  rfl
theorem start_ok (k : Nat) : StOk (InSt.start k) := ⟨by simp [InSt.start], by simp [InSt.start], by simp [InSt.start], by simp [InSt.start], 0, rfl, by omega⟩

/-- What an instruction that may be holds. -/
theorem may_ok {i : Ins} (h : insMay i = true) : InsOk i ∧ (i.op = 5 ∨ i.op = 14 → 1 ≤ i.n ∧ i.n ≤ 16) := by
  unfold insMay at h
  split at h
  · cases h
  · rename_i hn
    have hn' : nameF i.op ≠ [] := fun e => hn (.inl e)
    obtain ⟨h0, h3⟩ := nameF_in hn'
    have h1 : i.op ≠ 0 := by
      intro e
      rw [e] at hn'
      exact hn' rfl
    obtain ⟨op, sn, n, v, a⟩ := i
    dsimp only at h h0 h3 h1 hn' ⊢
    clear hn hn'
    obtain ⟨k, rfl⟩ : ∃ k : Nat, op = k := ⟨op.toNat, by omega⟩
    simp only [Bool.and_eq_true] at h
    obtain ⟨⟨⟨⟨hv, _⟩, ha⟩, hn⟩, _⟩ := h
    have hvv : -64 ≤ v ∧ v ≤ 255 := by
      unfold withinF at hv
      split at hv
      · simpa using hv
      · simp at hv; omega
    have T1 : ∀ o ∈ List.range 31, 1 ≤ o → (o ≤ 5 ∨ 10 ≤ o ∧ o ≤ 14) → hasF o 4 = false ∧ hasF o 2 = true := by decide +kernel
    have T2 : ∀ o ∈ List.range 31, 1 ≤ o → (o = 21 ∨ o = 23) → hasF o 4 = true := by decide +kernel
    have T3 : ∀ o ∈ List.range 31, 1 ≤ o → (o = 21 ∨ o = 22) → hasF o 32 = false ∧ hasF o 64 = true := by decide +kernel
    have T4 : ∀ o ∈ List.range 31, 1 ≤ o → (o = 5 ∨ o = 14) → hasF o 32 = true := by decide +kernel
    refine ⟨⟨by show (1 : Int) ≤ k; omega, by show (k : Int) ≤ 30; omega, hvv.1, hvv.2, ?_, ?_, ?_⟩, ?_⟩
    · intro hc
      obtain ⟨t1, t2⟩ := T1 k (by simpa using (by omega : k < 31)) (by omega) (by dsimp only at hc; omega)
      rw [t1, t2] at ha
      simpa [withinF] using ha
    · intro hc
      obtain ⟨t1, t2⟩ := T3 k (by simpa using (by omega : k < 31)) (by omega) (by dsimp only at hc; omega)
      unfold numberF at hn
      simp only [t1, t2] at hn
      simpa [withinF] using hn
    · intro hc
      have t1 := T2 k (by simpa using (by omega : k < 31)) (by omega) (by dsimp only at hc; omega)
      rw [t1] at ha
      simpa [withinF] using ha
    · intro hc
      have t1 := T4 k (by simpa using (by omega : k < 31)) (by omega) (by omega)
      unfold numberF at hn
      simp only [t1] at hn
      simpa [withinF] using hn

theorem learn_ok {s : InSt} (h : StOk s) (v : Int) : StOk (s.learn v).2 := by
  unfold InSt.learn
  split
  · exact ⟨h.u0, h.u1, h.s0, h.s1, h.p⟩
  · split
    · exact h
    · exact ⟨h.u0, h.u1, h.s0, h.s1, h.p⟩
theorem rowV_ok {s : InSt} (h : StOk s) (i : Ins) : StOk (s.rowV i).2 := by
  unfold InSt.rowV
  split
  · exact learn_ok h _
  · split <;> exact h
theorem step_ok {s : InSt} (h : StOk s) {i : Ins} (hi : insMay i = true) : StOk (s.step i).2 := by
  obtain ⟨hk, hn⟩ := may_ok hi
  unfold InSt.step
  split
  · exact h
  split
  · unfold InSt.rowU
    split
    · exact h
    · exact rowV_ok (s := { s with uni := s.uni - 1 }) ⟨by have := h.u0; show 0 ≤ s.uni - 1; omega, by have := h.u1; show s.uni - 1 ≤ _; omega, h.s0, h.s1, h.p⟩ i
  split
  · unfold InSt.rowS
    split
    · exact h
    · have r := rowV_ok (s := { s with set := s.set - 1 }) ⟨h.u0, h.u1, by have := h.s0; show 0 ≤ s.set - 1; omega, by have := h.s1; show s.set - 1 ≤ _; omega, h.p⟩ i
      dsimp only
      split
      · exact ⟨r.u0, r.u1, r.s0, r.s1, r.p⟩
      · exact r
  split
  · exact h
  rename_i c1 c2 c3 c4
  split
  · rename_i c5
    unfold InSt.get
    dsimp only
    split
    · split
      · exact learn_ok h _
      · exact h
    · split
      · exact h
      · split
        · rename_i c6
          have := hn (.inl c6)
          exact ⟨by show 0 ≤ i.n; omega, by show i.n ≤ _; omega, h.s0, h.s1, h.p⟩
        · exact h
  rename_i c5
  split
  · rename_i c6
    unfold InSt.store
    split
    · rename_i c7
      have := hn (.inr c7)
      have hb := hk.a (.inr ⟨by omega, by omega⟩)
      exact ⟨h.u0, h.u1, by show 0 ≤ i.n; omega, by show i.n ≤ _; omega, i.a.toNat, by show i.a = _; omega, by omega⟩
    · dsimp only
      split
      · have r := learn_ok h i.v
        exact ⟨r.u0, r.u1, r.s0, r.s1, r.p⟩
      · split <;> exact ⟨h.u0, h.u1, h.s0, h.s1, h.p⟩
  split
  · unfold InSt.env
    split <;> exact ⟨h.u0, h.u1, h.s0, h.s1, h.p⟩
  split
  · split
    · exact learn_ok h _
    · exact h
  split
  · exact learn_ok h _
  split
  · exact h
  split
  · exact h
  unfold InSt.flow InSt.call InSt.end_
  repeat' split
  all_goals exact ⟨h.u0, h.u1, h.s0, h.s1, h.p⟩

theorem run_split : ∀ {l : List Ins} {k : Nat} {s st : InSt}, k ≤ l.length → s.run (l.take k) = some st → s.run l = st.run (l.drop k) ∧ runAt s l = k + runAt st (l.drop k)
  | l, 0, s, st, _, h => by
    simp only [List.take_zero, InSt.run] at h
    injection h with h
    subst h
    simp
  | [], k + 1, s, st, hk, h => by simp at hk
  | i :: r, k + 1, s, st, hk, h => by
    simp only [List.take_succ_cons, InSt.run] at h
    split at h
    · rename_i hi
      obtain ⟨h1, h2⟩ := run_split (l := r) (k := k) (by simpa using hk) h
      simp only [InSt.run, runAt, hi, if_true, List.drop_succ_cons]
      exact ⟨h1, by omega⟩
    · cases h
theorem run_snoc {l : List Ins} {k : Nat} {s st : InSt} (hk : k < l.length) (h : s.run (l.take k) = some st) (hm : insMay l[k] = true) (hs : (st.step l[k]).1 = true) : s.run (l.take (k + 1)) = some (st.step l[k]).2 := by
  obtain ⟨h1, _⟩ := run_split (l := l.take (k + 1)) (k := k) (s := s) (st := st) (by simp; omega) (by rw [List.take_take]; rwa [show min k (k + 1) = k by omega])
  rw [h1, List.take_succ_eq_append_getElem hk, List.drop_append_of_le_length (by simp; omega)]
  have e : List.drop k (List.take k l) = [] := List.drop_eq_nil_of_le (by simp; omega)
  rw [e]
  simp only [List.nil_append, InSt.run, hm, hs, Bool.and_self, if_true]
theorem chk_at {l : List Ins} {arity k : Nat} {st : InSt} (ha : arity ≤ 16) (hl : l.length ≤ 4096) (hk : k < l.length) (h : (InSt.start arity).run (l.take k) = some st) (hb : (insMay l[k] && (st.step l[k]).1) = false) : chkIns l arity = ((k : Int), 160) := by
  obtain ⟨h1, h2⟩ := run_split (Nat.le_of_lt hk) h
  have e : l.drop k = l[k] :: l.drop (k + 1) := List.drop_eq_getElem_cons hk
  rw [e] at h1 h2
  simp only [InSt.run, runAt, hb, Bool.false_eq_true, if_false] at h1 h2
  unfold chkIns
  rw [if_neg (by omega), if_neg (by omega), Int.toNat_natCast, h1, h2]
  rfl
theorem chk_end {l : List Ins} {arity : Nat} {st : InSt} (ha : arity ≤ 16) (hl : l.length ≤ 4096) (h : (InSt.start arity).run l = some st) : chkIns l arity = ((l.length : Int), if st.ended then 0 else 160) := by
  unfold chkIns
  rw [if_neg (by omega), if_neg (by omega), Int.toNat_natCast, h]

end Go.Proofs.YtlkpiigdmmhkpaaGreatDoor
