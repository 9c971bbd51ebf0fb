/- The program's table and the reference's: what one call does to both. No program in sight. -/
import Derived.Test.YtckkbghmiomfiaaDoorSetsP
namespace Go.El

theorem isR_isK (o x : OpV) : isR o.s (preB o.t) x = isK o x := rfl

theorem Keys.two {L : List OpV} (h : Keys L) {a b : OpV} (ha : a ∈ L) (hb : b ∈ L) (hs : a.s = b.s) (hk : preB a.t = preB b.t) : a = b := by
  induction L with
  | nil => cases ha
  | cons c l ih =>
    obtain ⟨q1, q2⟩ := List.pairwise_cons.1 h
    rcases List.mem_cons.1 ha with ha | ha <;> rcases List.mem_cons.1 hb with hb | hb
    · exact ha.trans hb.symm
    · exact absurd ⟨hs, hk⟩ (ha ▸ q1 b hb)
    · exact absurd ⟨hs.symm, hk.symm⟩ (hb ▸ q1 a ha)
    · exact ih q2 ha hb

/-- What a search in the row finds. -/
theorem idxR_some' {s : ByteArray} {pre : Bool} {L : List OpV} {k : Nat} (h : idxR s pre L = some k) : ∃ o, L[k]? = some o ∧ o ∈ L ∧ o.s = s ∧ preB o.t = pre := by
  unfold idxR at h
  obtain ⟨hlt, hk, _⟩ := List.findIdx?_eq_some_iff_getElem.1 h
  refine ⟨L[k], List.getElem?_eq_getElem hlt, List.getElem_mem hlt, ?_⟩
  simpa [isR] using hk
theorem idxR_none' {s : ByteArray} {pre : Bool} {L : List OpV} (h : idxR s pre L = none) : ∀ x ∈ L, ¬ (x.s = s ∧ preB x.t = pre) := by
  unfold idxR at h
  rw [List.findIdx?_eq_none_iff] at h
  intro x hx
  have := h x hx
  simpa [isR] using this

/-- What the search finds. -/
def findL (s : ByteArray) (pre : Bool) (L : List OpV) : Option OpV := (idxR s pre L).bind fun k => L[k]?

/-- The two searches. -/
theorem find_both {I Q L : List OpV} (hi : Inv I Q) (hp : (I ++ Q).Perm L) (s : ByteArray) (pre : Bool) : findL s pre L = findO s (if pre then Q else I) := by
  have hL : Keys L := hi.keys.perm hp
  have hside : ∀ x, x ∈ (if pre then Q else I) ↔ (x ∈ L ∧ preB x.t = pre) := fun x => by
    rw [← hp.mem_iff, List.mem_append]
    cases pre
    · simp only [Bool.false_eq_true, if_false]
      exact ⟨fun h => ⟨.inl h, hi.kI x h⟩, fun h => h.1.resolve_right (fun h2 => by rw [hi.kQ x h2] at h; cases h.2)⟩
    · simp only [if_true]
      exact ⟨fun h => ⟨.inr h, hi.kQ x h⟩, fun h => h.1.resolve_left (fun h2 => by rw [hi.kI x h2] at h; cases h.2)⟩
  unfold findL
  cases hx : idxR s pre L with
  | none =>
    have hno := idxR_none' hx
    cases hf : findO s (if pre then Q else I) with
    | none => rfl
    | some o =>
      obtain ⟨h1, h2⟩ := findO_some hf
      obtain ⟨h3, h4⟩ := (hside o).1 h1
      exact absurd ⟨h2, h4⟩ (hno o h3)
  | some k =>
    obtain ⟨o, ho, hm, h1, h2⟩ := idxR_some' hx
    show L[k]? = _
    rw [ho]
    cases hf : findO s (if pre then Q else I) with
    | none =>
      have := findO_none hf
      exact absurd (List.mem_map.2 ⟨o, (hside o).2 ⟨hm, h2⟩, h1⟩) this
    | some q =>
      obtain ⟨h3, h4⟩ := findO_some hf
      obtain ⟨h5, h6⟩ := (hside q).1 h3
      rw [hL.two hm h5 (h1.trans h4.symm) (h2.trans h6.symm)]

theorem found_both {I Q L : List OpV} (hi : Inv I Q) (hp : (I ++ Q).Perm L) (o : OpV) : foundR o L = foundT o I Q := by
  have h := find_both hi hp o.s (preB o.t)
  unfold foundR foundT opsOf
  rw [← h]
  unfold findL
  cases hx : idxR o.s (preB o.t) L with
  | none => rfl
  | some k =>
    obtain ⟨q, hq, _⟩ := idxR_some' hx
    show true = (L[k]?).isSome
    rw [hq]; rfl

theorem len_both {I Q L : List OpV} (hp : (I ++ Q).Perm L) : L.length = I.length + Q.length := by rw [← hp.length_eq, List.length_append]
theorem err_both {I Q L : List OpV} (hi : Inv I Q) (hp : (I ++ Q).Perm L) (o : OpV) : errR o L = errT o I Q := by
  unfold errR errT
  rw [found_both hi hp, len_both hp]

/-- A row without what has a key, by its place. -/
theorem erase_filter {o : OpV} : ∀ {L : List OpV} {k : Nat}, Keys L → idxR o.s (preB o.t) L = some k → L.eraseIdx k = L.filter (nK o)
  | [], k, _, h => by simp [idxR] at h
  | a :: l, k, hk, h => by
    obtain ⟨q1, q2⟩ := List.pairwise_cons.1 hk
    cases ha : isK o a
    · have hn : nK o a = true := by simp [nK, ha]
      have h' : ∃ j, k = j + 1 ∧ idxR o.s (preB o.t) l = some j := by
        unfold idxR at h ⊢
        rw [List.findIdx?_cons] at h
        rw [isR_isK, ha] at h
        simp only [Bool.false_eq_true, if_false, Option.map_eq_some_iff] at h
        obtain ⟨j, hj, rfl⟩ := h
        exact ⟨j, rfl, hj⟩
      obtain ⟨j, rfl, hj⟩ := h'
      rw [List.eraseIdx_cons_succ, erase_filter q2 hj]
      simp [hn]
    · have hn : nK o a = false := by simp [nK, ha]
      have h0 : k = 0 := by
        unfold idxR at h
        rw [List.findIdx?_cons, isR_isK, ha] at h
        simpa using h.symm
      subst h0
      have hall : l.filter (nK o) = l := by
        rw [List.filter_eq_self]
        intro x hx
        have := q1 x hx
        simp only [isK, Bool.and_eq_true, decide_eq_true_eq, beq_iff_eq] at ha
        simp only [nK, isK, Bool.not_eq_true', Bool.and_eq_false_iff, decide_eq_false_iff_not, beq_eq_false_iff_ne]
        by_cases e : x.s = o.s
        · exact .inr (fun e2 => this ⟨ha.1.trans e.symm, ha.2.trans e2.symm⟩)
        · exact .inl e
      simp [hn, hall]
theorem set_erase {o : OpV} : ∀ {L : List OpV} {k : Nat}, k < L.length → (L.set k o).Perm (L.eraseIdx k ++ [o])
  | [], _, h => by simp at h
  | a :: l, 0, _ => by
    simp only [List.set_cons_zero, List.eraseIdx_cons_zero]
    exact (List.perm_append_comm (l₁ := [o]) (l₂ := l))
  | a :: l, k + 1, h => by
    simp only [List.set_cons_succ, List.eraseIdx_cons_succ, List.cons_append]
    exact (set_erase (by simpa using h)).cons a

theorem next_both {I Q L : List OpV} (hi : Inv I Q) (hp : (I ++ Q).Perm L) (o : OpV) : (nextI o I Q ++ nextQ o I Q).Perm (nextR o L) := by
  have hf := found_both hi hp o
  have hl := len_both hp
  have ha : actI o (foundR o L) L.length = actT o I Q := by unfold actT; rw [hf, hl]
  have hL : Keys L := hi.keys.perm hp
  rcases act_err o (foundT o I Q) (I.length + Q.length) with h1 | h1 | h1
  · obtain ⟨e1, e2⟩ := next_err (o := o) (I := I) (Q := Q) h1.1
    have e3 : nextR o L = L := by
      unfold nextR
      rw [ha, show actT o I Q = 0 from h1.2]
      split <;> simp
    rw [e1, e2, e3]
    exact hp
  all_goals
    obtain ⟨f1, f2⟩ := next_filters hi o h1.1
    have hsplit : (nextI o I Q ++ nextQ o I Q).Perm ((nextI o I Q ++ nextQ o I Q).filter (nK o) ++ (nextI o I Q ++ nextQ o I Q).filter (isK o)) := by
      refine (List.filter_append_perm (isK o) _).symm.trans ?_
      exact List.perm_append_comm
    refine hsplit.trans ?_
    rw [f1, f2]
    have hw := hp.filter (nK o)
  · rw [if_pos h1.2.2, List.append_nil]
    refine hw.trans ?_
    unfold nextR
    rw [ha, show actT o I Q = 1 from h1.2.1]
    cases hx : idxR o.s (preB o.t) L with
    | none =>
      have hfo : foundT o I Q = false := by rw [← hf]; unfold foundR; rw [hx]; rfl
      have : actT o I Q = 1 := h1.2.1
      unfold actT actI at this
      rw [hfo] at this
      simp only [h1.2.2] at this
      split at this <;> simp at this
    | some k =>
      simp only [if_true]
      rw [erase_filter hL hx]
  · rw [if_neg h1.2.2]
    refine (hw.append_right [o]).trans ?_
    unfold nextR
    rw [ha, show actT o I Q = 2 from h1.2.1]
    cases hx : idxR o.s (preB o.t) L with
    | none =>
      simp only [if_true]
      have hno := idxR_none' hx
      have hall : L.filter (nK o) = L := by
        rw [List.filter_eq_self]
        intro x hx'
        have := hno x hx'
        simp only [nK, isK, Bool.not_eq_true', Bool.and_eq_false_iff, decide_eq_false_iff_not, beq_eq_false_iff_ne]
        by_cases e : x.s = o.s
        · exact .inr (fun e2 => this ⟨e, e2⟩)
        · exact .inl e
      rw [hall]
    | some k =>
      obtain ⟨q, hq, _⟩ := idxR_some' hx
      have hk : k < L.length := (List.getElem?_eq_some_iff.1 hq).1
      simp only [show ((2 : Nat) = 1) = False by simp, if_false, if_true]
      rw [← erase_filter hL hx]
      exact (set_erase hk).symm

/-- All of both: one row. -/
theorem all_both {I Q L M : List OpV} (hi : Inv I Q) (hp : (I ++ Q).Perm L) (hM : M.Perm (I ++ Q)) (sM : M.Pairwise (fun a b => ltO b a = false)) : M = allR L :=
  hi.one hM ((allR_perm L).trans hp.symm) sM (allR_sorted L)

end Go.El
