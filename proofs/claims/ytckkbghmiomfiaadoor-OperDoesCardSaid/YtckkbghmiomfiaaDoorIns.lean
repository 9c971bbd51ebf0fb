/- The reference's All: one operator after another, laid in order. No program in sight. -/
import Derived.Test.YtckkbghmiomfiaaDoorOrd
namespace Go.El

/-- One more operator, laid in order. -/
def posO (x : OpV) : List OpV → Nat
  | [] => 0
  | a :: l => if ltO a x then posO x l + 1 else 0
def insO (x : OpV) (l : List OpV) : List OpV := l.take (posO x l) ++ x :: l.drop (posO x l)
def allR (L : List OpV) : List OpV := L.foldl (fun l x => insO x l) []

theorem posO_le (x : OpV) : ∀ l, posO x l ≤ l.length
  | [] => Nat.le_refl _
  | a :: l => by
    unfold posO
    split
    · have := posO_le x l; simp; omega
    · exact Nat.zero_le _
theorem pos_step (x y : OpV) : ∀ (l : List OpV) (j : Nat), j ≤ posO x l → l[j]? = some y → (ltO y x = true → j + 1 ≤ posO x l) ∧ (ltO y x = false → posO x l = j)
  | [], _, _, h => by simp at h
  | a :: l, 0, _, h => by
    simp at h
    subst h
    unfold posO
    constructor
    · intro h; rw [if_pos h]; omega
    · intro h; rw [h]; rfl
  | a :: l, j + 1, hj, h => by
    unfold posO at hj ⊢
    cases ha : ltO a x
    · rw [ha] at hj; simp at hj
    · rw [ha] at hj
      simp only [if_true] at hj ⊢
      have := pos_step x y l j (by omega) (by simpa using h)
      exact ⟨fun h => by have := this.1 h; omega, fun h => by rw [this.2 h]⟩

theorem insO_perm (x : OpV) (l : List OpV) : (insO x l).Perm (x :: l) := by
  unfold insO
  refine List.perm_middle.trans ?_
  rw [List.take_append_drop]
theorem insO_len (x : OpV) (l : List OpV) : (insO x l).length = l.length + 1 := (insO_perm x l).length_eq
theorem insO_cons (x a : OpV) (l : List OpV) : insO x (a :: l) = if ltO a x then a :: insO x l else x :: a :: l := by
  unfold insO
  cases h : ltO a x
  · have : posO x (a :: l) = 0 := by unfold posO; rw [h]; rfl
    rw [this]; rfl
  · have : posO x (a :: l) = posO x l + 1 := by
      show (if ltO a x then posO x l + 1 else 0) = _
      rw [h]; rfl
    rw [this]; rfl
theorem insO_sorted (x : OpV) : ∀ l : List OpV, l.Pairwise (fun a b => ltO b a = false) → (insO x l).Pairwise (fun a b => ltO b a = false)
  | [], _ => by simp [insO, posO]
  | a :: l, h => by
    obtain ⟨h1, h2⟩ := List.pairwise_cons.1 h
    rw [insO_cons]
    cases ha : ltO a x
    · refine List.pairwise_cons.2 ⟨fun b hb => ?_, h⟩
      rcases List.mem_cons.1 hb with rfl | hb
      · exact ha
      · exact ltO_ntrans b a x (h1 b hb) ha
    · refine List.pairwise_cons.2 ⟨fun b hb => ?_, insO_sorted x l h2⟩
      rcases List.mem_cons.1 ((insO_perm x l).mem_iff.1 hb) with rfl | hb
      · cases hxa : ltO b a
        · rfl
        · have := ltO_trans a b a ha hxa
          rw [ltO_irrefl] at this
          cases this
      · exact h1 b hb

theorem foldl_ins (L : List OpV) : ∀ l : List OpV, l.Pairwise (fun a b => ltO b a = false) → (L.foldl (fun l x => insO x l) l).Pairwise (fun a b => ltO b a = false) ∧ (L.foldl (fun l x => insO x l) l).Perm (l ++ L) := by
  induction L with
  | nil => intro l h; exact ⟨h, by simp⟩
  | cons x L ih =>
    intro l h
    obtain ⟨h1, h2⟩ := ih (insO x l) (insO_sorted x l h)
    refine ⟨h1, h2.trans ?_⟩
    exact ((insO_perm x l).append_right L).trans (List.perm_middle.symm)
theorem allR_sorted (L : List OpV) : (allR L).Pairwise (fun a b => ltO b a = false) := (foldl_ins L [] List.Pairwise.nil).1
theorem allR_perm (L : List OpV) : (allR L).Perm L := by have h := (foldl_ins L [] List.Pairwise.nil).2; rw [List.nil_append] at h; exact h
theorem allR_take (L : List OpV) {k : Nat} {x : OpV} (h : L[k]? = some x) : allR (L.take (k + 1)) = insO x (allR (L.take k)) := by
  unfold allR
  rw [List.take_add_one, h]
  simp

end Go.El
