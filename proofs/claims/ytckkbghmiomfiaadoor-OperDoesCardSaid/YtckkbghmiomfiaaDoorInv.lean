/- What holds of every table: one name at most once in each map, infix ones in one, prefix ones in the other, 64 at most. No program in sight. -/
import Derived.Test.YtckkbghmiomfiaaDoorIns
namespace Go.El

structure Inv (I Q : List OpV) : Prop where
  nI : (I.map (·.s)).Nodup
  nQ : (Q.map (·.s)).Nodup
  kI : ∀ o ∈ I, preB o.t = false
  kQ : ∀ o ∈ Q, preB o.t = true
  len : I.length + Q.length ≤ 64

theorem findO_none {s : ByteArray} : ∀ {l : List OpV}, findO s l = none → s ∉ l.map (·.s)
  | [], _ => by simp
  | q :: l, h => by
    unfold findO at h
    split at h
    · cases h
    · next hne =>
      have := findO_none h
      simp only [List.map_cons, List.mem_cons, not_or]
      exact ⟨fun e => hne e.symm, this⟩
theorem findO_some {s : ByteArray} {o : OpV} : ∀ {l : List OpV}, findO s l = some o → o ∈ l ∧ o.s = s
  | [], h => by cases h
  | q :: l, h => by
    unfold findO at h
    split at h
    · next he => cases h; exact ⟨by simp, he⟩
    · have := findO_some h
      exact ⟨List.mem_cons_of_mem _ this.1, this.2⟩
theorem setO_new {o : OpV} : ∀ {l : List OpV}, findO o.s l = none → setO o l = l ++ [o]
  | [], _ => rfl
  | q :: l, h => by
    unfold findO at h
    split at h
    · cases h
    · next hne =>
      unfold setO
      rw [if_neg hne, setO_new h]
      rfl
theorem setO_map {o : OpV} : ∀ {l : List OpV}, (findO o.s l).isSome = true → (setO o l).map (·.s) = l.map (·.s)
  | [], h => by simp [findO] at h
  | q :: l, h => by
    unfold findO at h
    unfold setO
    split
    · next he => simp [he]
    · next hne =>
      rw [if_neg hne] at h
      simp [setO_map h]
theorem setO_mem {o x : OpV} : ∀ {l : List OpV}, x ∈ setO o l → x = o ∨ x ∈ l
  | [], h => by simp [setO] at h; exact .inl h
  | q :: l, h => by
    unfold setO at h
    split at h
    · rcases List.mem_cons.1 h with h | h
      · exact .inl h
      · exact .inr (List.mem_cons_of_mem _ h)
    · rcases List.mem_cons.1 h with h | h
      · exact .inr (by rw [h]; simp)
      · rcases setO_mem h with h | h
        · exact .inl h
        · exact .inr (List.mem_cons_of_mem _ h)
theorem delO_sub {s : ByteArray} : ∀ l : List OpV, (delO s l).Sublist l
  | [] => List.Sublist.refl _
  | q :: l => by
    unfold delO
    split
    · exact List.sublist_cons_self _ _
    · exact (delO_sub l).cons_cons _

/-- One map behind a step. -/
theorem doO_ok (act : Nat) (o : OpV) (l : List OpV) (b : Bool) (hb : act = 2 → preB o.t = b) (hn : (l.map (·.s)).Nodup) (hk : ∀ x ∈ l, preB x.t = b) : ((doO act o l).map (·.s)).Nodup ∧ (∀ x ∈ doO act o l, preB x.t = b) ∧ (doO act o l).length ≤ l.length + (if act = 2 ∧ (findO o.s l).isSome = false then 1 else 0) := by
  unfold doO
  by_cases h1 : act = 1
  · subst h1
    rw [if_pos rfl]
    have hs := delO_sub (s := o.s) l
    exact ⟨hn.sublist (hs.map _), fun x hx => hk x (hs.subset hx), by have := hs.length_le; omega⟩
  · rw [if_neg h1]
    by_cases h2 : act = 2
    · subst h2
      rw [if_pos rfl]
      have hm : ∀ x ∈ setO o l, preB x.t = b := fun x hx => by
        rcases setO_mem hx with rfl | hx
        · exact hb rfl
        · exact hk x hx
      cases hf : (findO o.s l).isSome
      · have hnone : findO o.s l = none := by simpa using hf
        refine ⟨?_, hm, by rw [setO_new hnone]; simp⟩
        rw [setO_new hnone, List.map_append, List.nodup_append]
        refine ⟨hn, by simp, fun x hx y hy => ?_⟩
        simp at hy
        subst hy
        rintro rfl
        exact findO_none hnone hx
      · have e := setO_map hf
        refine ⟨by rw [e]; exact hn, hm, ?_⟩
        have := congrArg List.length e
        simp at this
        omega
    · rw [if_neg h2]
      exact ⟨hn, hk, by omega⟩

theorem act_two {o : OpV} {found : Bool} {len : Nat} (h : actI o found len = 2) (hf : found = false) : len < 64 := by
  rcases set_cases o found len with ⟨_, _, h'⟩ | ⟨_, _, _, h'⟩ | ⟨_, _, _, _, _, h'⟩ | ⟨_, _, _, _, _, h'⟩ | ⟨_, _, _, _, _, _, h'⟩ | ⟨_, _, _, h1, _, h'⟩
  · omega
  · omega
  · omega
  · omega
  · omega
  · rcases h1 with h1 | h1
    · rw [hf] at h1; cases h1
    · exact h1

theorem Inv.next {I Q : List OpV} (h : Inv I Q) (o : OpV) : Inv (nextI o I Q) (nextQ o I Q) := by
  have hl := h.len
  unfold nextI nextQ
  cases hp : preB o.t
  · obtain ⟨r1, r2, r3⟩ := doO_ok (actT o I Q) o I false (fun _ => hp) h.nI h.kI
    refine ⟨r1, h.nQ, r2, h.kQ, ?_⟩
    simp only [Bool.false_eq_true, if_false]
    split at r3
    · next hc =>
      have hf : foundT o I Q = false := by unfold foundT opsOf; rw [hp]; exact hc.2
      have := act_two (o := o) (found := foundT o I Q) (len := I.length + Q.length) hc.1 hf
      omega
    · omega
  · obtain ⟨r1, r2, r3⟩ := doO_ok (actT o I Q) o Q true (fun _ => hp) h.nQ h.kQ
    refine ⟨h.nI, r1, h.kI, r2, ?_⟩
    simp only [if_true]
    split at r3
    · next hc =>
      have hf : foundT o I Q = false := by unfold foundT opsOf; rw [hp]; exact hc.2
      have := act_two (o := o) (found := foundT o I Q) (len := I.length + Q.length) hc.1 hf
      omega
    · omega

theorem keys_of_names {l : List OpV} (h : (l.map (·.s)).Nodup) : Keys l := by
  unfold Keys
  rw [List.nodup_iff_pairwise_ne, List.pairwise_map] at h
  exact h.imp fun hab hs => hab hs.1
theorem Inv.keys {I Q : List OpV} (h : Inv I Q) : Keys (I ++ Q) := by
  unfold Keys
  rw [List.pairwise_append]
  refine ⟨keys_of_names h.nI, keys_of_names h.nQ, fun a ha b hb hab => ?_⟩
  rw [h.kI a ha, h.kQ b hb] at hab
  exact absurd hab.2 (by decide)

/-- Two rows in order of the same table are one. -/
theorem Inv.one {I Q M N : List OpV} (h : Inv I Q) (hM : M.Perm (I ++ Q)) (hN : N.Perm (I ++ Q)) (sM : M.Pairwise (fun a b => ltO b a = false)) (sN : N.Pairwise (fun a b => ltO b a = false)) : M = N :=
  sorted_one (hM.trans hN.symm) (h.keys.perm hM.symm) sM sN

end Go.El
