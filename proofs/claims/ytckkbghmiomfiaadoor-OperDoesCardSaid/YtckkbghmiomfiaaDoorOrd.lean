/- The order of operators: by name, infix ahead of prefix. No program in sight. -/
import Derived.Test.YtckkbghmiomfiaaDoorS09
namespace Go.El

open Op (bytesLess)

theorem bl_irrefl : ∀ x, bytesLess x x = false
  | [] => rfl
  | a :: x => by
    have h : ¬ a < a := by rw [UInt8.lt_iff_toNat_lt]; omega
    simp [bytesLess, bl_irrefl x]
theorem bl_trans : ∀ x y z, bytesLess x y = true → bytesLess y z = true → bytesLess x z = true
  | _, [], _, h, _ => by simp [bytesLess] at h
  | _, _ :: _, [], _, h => by simp [bytesLess] at h
  | [], _ :: _, _ :: _, _, _ => rfl
  | a :: x, b :: y, c :: z, h, k => by
    simp only [bytesLess, Bool.or_eq_true, decide_eq_true_eq, Bool.and_eq_true, beq_iff_eq, UInt8.lt_iff_toNat_lt] at h k ⊢
    rcases h with h | ⟨rfl, h⟩ <;> rcases k with k | ⟨rfl, k⟩
    · exact .inl (by omega)
    · exact .inl h
    · exact .inl k
    · exact .inr ⟨rfl, bl_trans x y z h k⟩
theorem bl_tri : ∀ x y, bytesLess x y = false → bytesLess y x = false → x = y
  | [], [], _, _ => rfl
  | [], _ :: _, h, _ => by simp [bytesLess] at h
  | _ :: _, [], _, h => by simp [bytesLess] at h
  | a :: x, b :: y, h, k => by
    simp only [bytesLess, Bool.or_eq_false_iff, decide_eq_false_iff_not, UInt8.lt_iff_toNat_lt] at h k
    have e : a = b := UInt8.toNat_inj.1 (by omega)
    subst e
    have h2 := h.2
    have k2 := k.2
    simp at h2 k2
    rw [bl_tri x y h2 k2]

/-- Does an operator come ahead of another one? -/
def ltO (a b : OpV) : Bool := bytesLess a.s.toList b.s.toList || (decide (a.s = b.s) && !preB a.t && preB b.t)

theorem toList_inj {a b : ByteArray} (h : a.toList = b.toList) : a = b := by
  rw [ByteArray.toList_eq, ByteArray.toList_eq] at h
  cases a; cases b
  simpa using h

theorem ltO_irrefl (x : OpV) : ltO x x = false := by
  simp [ltO, bl_irrefl]
theorem ltO_trans (x y z : OpV) (h : ltO x y = true) (k : ltO y z = true) : ltO x z = true := by
  simp only [ltO, Bool.or_eq_true, Bool.and_eq_true, decide_eq_true_eq, Bool.not_eq_true'] at h k ⊢
  rcases h with h | ⟨⟨e, h1⟩, h2⟩ <;> rcases k with k | ⟨⟨e', k1⟩, k2⟩
  · exact .inl (bl_trans _ _ _ h k)
  · exact .inl (by rw [← e']; exact h)
  · exact .inl (by rw [e]; exact k)
  · rw [h2] at k1
    cases k1
/-- Two that lie neither way have one name and one kind. -/
theorem ltO_tri (x y : OpV) (h : ltO x y = false) (k : ltO y x = false) : x.s = y.s ∧ preB x.t = preB y.t := by
  simp only [ltO, Bool.or_eq_false_iff] at h k
  have e := toList_inj (bl_tri _ _ h.1 k.1)
  have h2 := h.2
  have k2 := k.2
  rw [e] at h2 k2
  refine ⟨e, ?_⟩
  cases h3 : preB x.t <;> cases h4 : preB y.t <;> simp_all
theorem ltO_key {x y z : OpV} (hs : x.s = y.s) (hk : preB x.t = preB y.t) : ltO x z = ltO y z := by
  unfold ltO
  rw [hs, hk]
theorem ltO_ntrans (x y z : OpV) (h : ltO x y = false) (k : ltO y z = false) : ltO x z = false := by
  cases hxz : ltO x z
  · rfl
  · cases hyx : ltO y x
    · obtain ⟨e1, e2⟩ := ltO_tri x y h hyx
      rw [ltO_key e1 e2, k] at hxz
      cases hxz
    · rw [ltO_trans y x z hyx hxz] at k
      cases k

/-- One name and one kind at most once. -/
def Keys (L : List OpV) : Prop := L.Pairwise fun a b => ¬ (a.s = b.s ∧ preB a.t = preB b.t)
theorem Keys.perm {L M : List OpV} (h : Keys L) (hp : L.Perm M) : Keys M :=
  hp.pairwise h fun hab hba => hab ⟨hba.1.symm, hba.2.symm⟩

/-- Two rows in order, of the same operators, no two of one name and kind, are one. -/
theorem sorted_one : ∀ {L M : List OpV}, L.Perm M → Keys L → L.Pairwise (fun a b => ltO b a = false) → M.Pairwise (fun a b => ltO b a = false) → L = M := by
  intro L M hp hk hL hM
  refine hp.eq_of_pairwise (fun a b ha hb h1 h2 => ?_) hL hM
  by_cases e : a = b
  · exact e
  · obtain ⟨e1, e2⟩ := ltO_tri a b h2 h1
    have hb' : b ∈ L := hp.mem_iff.2 hb
    exfalso
    have : ∀ {l : List OpV}, Keys l → a ∈ l → b ∈ l → False := by
      intro l
      induction l with
      | nil => intro _ h; cases h
      | cons c l ih =>
        intro hkl ha hb
        obtain ⟨q1, q2⟩ := List.pairwise_cons.1 hkl
        rcases List.mem_cons.1 ha with ha | ha <;> rcases List.mem_cons.1 hb with hb | hb
        · exact e (ha.trans hb.symm)
        · exact q1 b hb (ha ▸ ⟨e1, e2⟩)
        · exact q1 a ha (hb ▸ ⟨e1.symm, e2.symm⟩)
        · exact ih q2 ha hb
    exact this hk ha hb'

end Go.El
