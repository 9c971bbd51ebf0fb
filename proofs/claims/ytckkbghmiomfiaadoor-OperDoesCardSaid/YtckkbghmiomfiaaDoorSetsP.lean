/- What Set tells: what was set is there, all others stay. No program in sight. -/
import Derived.Test.YtckkbghmiomfiaaDoorInv
namespace Go.El

/-- Has an operator the name and the kind of another one? -/
def isK (o x : OpV) : Bool := decide (x.s = o.s) && (preB x.t == preB o.t)
def nK (o x : OpV) : Bool := !isK o x

theorem set_other (o : OpV) : ∀ l : List OpV, (setO o l).filter (fun x => !decide (x.s = o.s)) = l.filter (fun x => !decide (x.s = o.s))
  | [] => by simp [setO]
  | q :: l => by
    unfold setO
    split
    · next h => simp [h]
    · next h => simp [h, set_other o l]
theorem filter_no {s : ByteArray} {l : List OpV} (h : s ∉ l.map (·.s)) : l.filter (fun x => decide (x.s = s)) = [] := by
  rw [List.filter_eq_nil_iff]
  intro x hx
  simp only [decide_eq_true_eq]
  rintro rfl
  exact h (List.mem_map_of_mem hx)
theorem set_this (o : OpV) : ∀ l : List OpV, (l.map (·.s)).Nodup → (setO o l).filter (fun x => decide (x.s = o.s)) = [o]
  | [], _ => by simp [setO]
  | q :: l, h => by
    rw [List.map_cons, List.nodup_cons] at h
    unfold setO
    split
    · next he =>
      rw [he] at h
      simp [filter_no h.1]
    · next he => simp [he, set_this o l h.2]
theorem del_other (s : ByteArray) : ∀ l : List OpV, (delO s l).filter (fun x => !decide (x.s = s)) = l.filter (fun x => !decide (x.s = s))
  | [] => by simp [delO]
  | q :: l => by
    unfold delO
    split
    · next h => simp [h]
    · next h => simp [h, del_other s l]
theorem del_this (s : ByteArray) : ∀ l : List OpV, (l.map (·.s)).Nodup → (delO s l).filter (fun x => decide (x.s = s)) = []
  | [], _ => by simp [delO]
  | q :: l, h => by
    rw [List.map_cons, List.nodup_cons] at h
    unfold delO
    split
    · next he =>
      rw [he] at h
      exact filter_no h.1
    · next he => simp [he, del_this s l h.2]

theorem filter_len (o : OpV) : ∀ l : List OpV, l.length = (l.filter (isK o)).length + (l.filter (nK o)).length
  | [] => rfl
  | q :: l => by
    have ih := filter_len o l
    cases h : isK o q
    · have h2 : nK o q = true := by simp [nK, h]
      simp [h, h2]
      omega
    · have h2 : nK o q = false := by simp [nK, h]
      simp [h, h2]
      omega
theorem filter_same {p q : OpV → Bool} {l : List OpV} (h : ∀ x ∈ l, p x = q x) : l.filter p = l.filter q := List.filter_congr h
theorem isK_in {o : OpV} {l : List OpV} (h : ∀ x ∈ l, preB x.t = preB o.t) : l.filter (isK o) = l.filter (fun x => decide (x.s = o.s)) := filter_same fun x hx => by simp [isK, h x hx]
theorem nK_in {o : OpV} {l : List OpV} (h : ∀ x ∈ l, preB x.t = preB o.t) : l.filter (nK o) = l.filter (fun x => !decide (x.s = o.s)) := filter_same fun x hx => by simp [nK, isK, h x hx]
theorem isK_out {o : OpV} {l : List OpV} (h : ∀ x ∈ l, preB x.t = !preB o.t) : l.filter (isK o) = [] := by
  rw [List.filter_eq_nil_iff]
  intro x hx
  simp [isK, h x hx]

theorem act_err (o : OpV) (found : Bool) (len : Nat) : (errI o found len ≠ 0 ∧ actI o found len = 0) ∨ (errI o found len = 0 ∧ actI o found len = 1 ∧ o.p = 0) ∨ (errI o found len = 0 ∧ actI o found len = 2 ∧ o.p ≠ 0) := by
  rcases set_cases o found len with ⟨_, h, h'⟩ | ⟨_, _, h, h'⟩ | ⟨_, _, _, _, h, h'⟩ | ⟨_, _, hp, _, h, h'⟩ | ⟨_, _, _, _, _, h, h'⟩ | ⟨_, _, hp, _, h, h'⟩
  · exact .inl ⟨by omega, h'⟩
  · exact .inl ⟨by omega, h'⟩
  · exact .inl ⟨by omega, h'⟩
  · exact .inr (.inl ⟨h, h', hp⟩)
  · exact .inl ⟨by omega, h'⟩
  · exact .inr (.inr ⟨h, h', hp⟩)

theorem next_err {o : OpV} {I Q : List OpV} (h : errT o I Q ≠ 0) : nextI o I Q = I ∧ nextQ o I Q = Q := by
  have ha : actT o I Q = 0 := by
    rcases act_err o (foundT o I Q) (I.length + Q.length) with h1 | h1 | h1
    · exact h1.2
    · exact absurd h1.1 h
    · exact absurd h1.1 h
  unfold nextI nextQ
  rw [ha]
  simp [doO]

/-- One map behind a step that was made. -/
theorem do_filters {act : Nat} {o : OpV} {l : List OpV} (hn : (l.map (·.s)).Nodup) (hk : ∀ x ∈ l, preB x.t = preB o.t) (ha : act = 1 ∨ act = 2) :
    (doO act o l).filter (nK o) = l.filter (nK o) ∧ (doO act o l).filter (isK o) = if act = 1 then [] else [o] := by
  have hm : ∀ x ∈ doO act o l, preB x.t = preB o.t := (doO_ok act o l (preB o.t) (fun _ => rfl) hn hk).2.1
  rw [nK_in hm, nK_in hk, isK_in hm]
  rcases ha with rfl | rfl
  · exact ⟨del_other _ _, del_this _ _ hn⟩
  · exact ⟨set_other _ _, set_this _ _ hn⟩

theorem next_filters {I Q : List OpV} (h : Inv I Q) (o : OpV) (he : errT o I Q = 0) :
    (nextI o I Q ++ nextQ o I Q).filter (nK o) = (I ++ Q).filter (nK o) ∧ (nextI o I Q ++ nextQ o I Q).filter (isK o) = if o.p = 0 then [] else [o] := by
  have hc : (actT o I Q = 1 ∧ o.p = 0) ∨ (actT o I Q = 2 ∧ o.p ≠ 0) := by
    rcases act_err o (foundT o I Q) (I.length + Q.length) with h1 | h1 | h1
    · exact absurd he h1.1
    · exact .inl h1.2
    · exact .inr h1.2
  have ha : actT o I Q = 1 ∨ actT o I Q = 2 := hc.imp (·.1) (·.1)
  have hif : (if actT o I Q = 1 then ([] : List OpV) else [o]) = if o.p = 0 then [] else [o] := by
    rcases hc with ⟨h1, h2⟩ | ⟨h1, h2⟩
    · rw [if_pos h1, if_pos h2]
    · rw [if_neg (by omega), if_neg h2]
  rw [List.filter_append, List.filter_append, List.filter_append, ← hif]
  unfold nextI nextQ
  cases hp : preB o.t
  · obtain ⟨r1, r2⟩ := do_filters (act := actT o I Q) h.nI (fun x hx => by rw [h.kI x hx, hp]) ha
    have r3 : Q.filter (isK o) = [] := isK_out (fun x hx => by rw [h.kQ x hx, hp]; rfl)
    simp only [Bool.false_eq_true, if_false]
    rw [r1, r2, r3, List.append_nil]
    exact ⟨rfl, rfl⟩
  · obtain ⟨r1, r2⟩ := do_filters (act := actT o I Q) h.nQ (fun x hx => by rw [h.kQ x hx, hp]) ha
    have r3 : I.filter (isK o) = [] := isK_out (fun x hx => by rw [h.kI x hx, hp]; rfl)
    simp only [if_true]
    rw [r1, r2, r3, List.nil_append]
    exact ⟨rfl, rfl⟩

def neO (o x : OpV) : Bool := !decide (x = o)

theorem sets_law {I Q N W : List OpV} (h : Inv I Q) (o : OpV) (he : errT o I Q = 0) (hN : N.Perm (nextI o I Q ++ nextQ o I Q)) (hW : W.Perm (I ++ Q)) (sN : N.Pairwise (fun a b => ltO b a = false)) (sW : W.Pairwise (fun a b => ltO b a = false)) :
    N.filter (neO o) = W.filter (nK o) ∧ (o.p = 0 ∨ N.length = (W.filter (nK o)).length + 1) := by
  obtain ⟨f1, f2⟩ := next_filters h o he
  have hisk : N.filter (isK o) = if o.p = 0 then [] else [o] := by
    have hp := hN.filter (isK o)
    rw [f2] at hp
    by_cases hz : o.p = 0
    · rw [if_pos hz] at hp ⊢
      exact hp.eq_nil
    · rw [if_neg hz] at hp ⊢
      exact List.perm_singleton.1 hp
  have hne : N.filter (neO o) = N.filter (nK o) := filter_same fun x hx => by
    unfold neO nK
    congr 1
    rw [Bool.eq_iff_iff, decide_eq_true_iff]
    constructor
    · rintro rfl; simp [isK]
    · intro hk
      have : x ∈ N.filter (isK o) := List.mem_filter.2 ⟨hx, hk⟩
      rw [hisk] at this
      split at this
      · cases this
      · simpa using this
  have hp : (N.filter (nK o)).Perm (W.filter (nK o)) := by
    refine (hN.filter _).trans ?_
    rw [f1]
    exact (hW.filter _).symm
  have hk : Keys (N.filter (nK o)) := List.Pairwise.sublist List.filter_sublist ((h.next o).keys.perm hN.symm)
  refine ⟨?_, ?_⟩
  · rw [hne]
    exact sorted_one hp hk (sN.sublist List.filter_sublist) (sW.sublist List.filter_sublist)
  · by_cases hz : o.p = 0
    · exact .inl hz
    · refine .inr ?_
      rw [← hp.length_eq]
      rw [if_neg hz] at hisk
      have hl := filter_len o N
      rw [hl, hisk]
      simp
      omega

theorem sets_same {I Q N W : List OpV} (h : Inv I Q) (o : OpV) (he : errT o I Q ≠ 0) (hN : N.Perm (nextI o I Q ++ nextQ o I Q)) (hW : W.Perm (I ++ Q)) (sN : N.Pairwise (fun a b => ltO b a = false)) (sW : W.Pairwise (fun a b => ltO b a = false)) : W = N := by
  obtain ⟨e1, e2⟩ := next_err he
  rw [e1, e2] at hN
  exact h.one hW hN sW sN

theorem filter_take {p : OpV → Bool} {L : List OpV} {k : Nat} {x : OpV} (h : L[k]? = some x) : (L.take (k + 1)).filter p = (L.take k).filter p ++ if p x then [x] else [] := by
  rw [List.take_add_one, h, List.filter_append]
  cases hp : p x <;> simp [hp]

end Go.El
