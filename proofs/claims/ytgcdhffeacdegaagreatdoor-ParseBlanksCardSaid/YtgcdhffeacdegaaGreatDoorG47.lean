/- Layer 10, plain: a reading that ends at the point ends so at a closing bracket. -/
import Derived.Test.YtgcdhffeacdegaaGreatDoorG04
namespace Go.El

section
variable {O : Ops} {E X : TokV} {R : List TokV} (hE : E.kind = 6) (hX : X.kind = 5) (hs : X.s.data.toList = [41])
include hE hX hs
theorem pu_eq (M : List TokV) {c : UInt8} (hc : c ≠ 41) : isPu (M ++ X :: R) c = isPu (M ++ [E]) c := by
  cases M with
  | nil =>
    simp only [List.nil_append, isPu, hE, hX, hs]
    have : ¬ ([41] : List UInt8) = [c] := by
      intro e
      injection e with e _
      exact hc e.symm
    simp [this]
  | cons t M => rfl
omit hX hs in
theorem pu_ne (M : List TokV) {c : UInt8} (h : isPu (M ++ [E]) c = true) : ∃ t q, M = t :: q := by
  cases M with
  | nil => simp [isPu, hE] at h
  | cons t q => exact ⟨t, q, rfl⟩
theorem op_eq (M : List TokV) : opensB (M ++ X :: R) = opensB (M ++ [E]) := by
  unfold opensB
  rw [pu_eq hE hX hs M (by decide)]
  cases M with
  | nil => simp [isPu, hE]
  | cons t M => rfl
theorem in_eq (M : List TokV) : infixF O (M ++ X :: R) = infixF O (M ++ [E]) := by
  cases M with
  | nil =>
    have h1 := pu_eq hE hX hs (R := R) [] (c := 44) (by decide)
    have h2 : isPu [E] 44 = false := by simp [isPu, hE]
    simp only [List.nil_append] at h1 ⊢
    have e1 : infixF O (X :: R) = none := if_neg (by
      rintro (h | h)
      · omega
      · rw [h1, h2] at h; cases h)
    have e2 : infixF O [E] = none := if_neg (by
      rintro (h | h)
      · omega
      · rw [h2] at h; cases h)
    rw [e1, e2]
  | cons t M => rfl
theorem be_eq (M : List TokV) : beginsB O (M ++ X :: R) = beginsB O (M ++ [E]) := by
  cases M with
  | nil =>
    have h := fun c hc => pu_eq hE hX hs (R := R) [] (c := c) hc
    simp only [List.nil_append] at h ⊢
    simp only [beginsB, hE, hX, h 40 (by decide), h 91 (by decide), h 123 (by decide)]
    simp [isPu, hE]
  | cons t M =>
    have := op_eq hE hX hs (R := R) M
    simp only [List.cons_append, beginsB, this]
    rfl
omit hs in
theorem nu_eq (M : List TokV) : numB (M ++ X :: R) = numB (M ++ [E]) := by
  cases M with
  | nil => simp [numB, hE, hX]
  | cons t M => rfl
omit hX hs in
theorem nu_ne (M : List TokV) (h : numB (M ++ [E]) = true) : ∃ t q, M = t :: q := by
  cases M with
  | nil => simp [numB, hE] at h
  | cons t q => exact ⟨t, q, rfl⟩
omit hX hs in
theorem in_ne (M : List TokV) {o : OpV} (h : infixF O (M ++ [E]) = some o) : ∃ t q, M = t :: q := by
  cases M with
  | nil => simp [infixF, isPu, hE] at h
  | cons t q => exact ⟨t, q, rfl⟩
omit hX hs in
theorem op_ne (M : List TokV) (h : opensB (M ++ [E]) = true) : ∃ t q, M = t :: q := by
  unfold opensB at h
  rw [Bool.and_eq_true] at h
  exact pu_ne hE M h.1

/-- What ends at the point ends at the bracket. -/
def Shut {α : Type} (E X : TokV) (R : List TokV) (x y : PR α) : Prop := ∀ a r ms, x = .ok a r ms → ∃ q, r = q ++ [E] ∧ y = .ok a (q ++ X :: R) ms
omit hE hX hs in
theorem shut_bad {α : Type} (r : List TokV) (y : PR α) : Shut E X R (.bad r) y := fun _ _ _ h => by cases h
omit hE hX hs in
theorem shut_ok {α : Type} (a : α) (q : List TokV) (ms : List ByteArray) : Shut E X R (.ok a (q ++ [E]) ms) (.ok a (q ++ X :: R) ms) := fun _ _ _ h => by
  cases h
  exact ⟨q, rfl, rfl⟩
omit hX hs in
theorem shut_want {α : Type} (c : UInt8) (a : α) (M : List TokV) (ns : List ByteArray) : Shut E X R (wantP c a (M ++ [E]) ns) (wantP c a (M ++ X :: R) ns) := by
  unfold wantP
  cases h : isPu (M ++ [E]) c
  · exact shut_bad _ _
  · obtain ⟨t, q, rfl⟩ := pu_ne hE M h
    have : isPu (t :: q ++ X :: R) c = true := h
    rw [this]
    exact shut_ok a q ns
structure ShutN (O : Ops) (E X : TokV) (R : List TokV) (n : Nat) : Prop where
  term : ∀ most M ns, Shut E X R (termN O n most (M ++ [E]) ns) (termN O n most (M ++ X :: R) ns)
  loop : ∀ most t p M ns, Shut E X R (loopN O n most t p (M ++ [E]) ns) (loopN O n most t p (M ++ X :: R) ns)
  oper : ∀ most M ns, Shut E X R (operN O n most (M ++ [E]) ns) (operN O n most (M ++ X :: R) ns)
  brac : ∀ t M ns, Shut E X R (bracN O n t (M ++ [E]) ns) (bracN O n t (M ++ X :: R) ns)
  named : ∀ s M ns, Shut E X R (namedN O n s (M ++ [E]) ns) (namedN O n s (M ++ X :: R) ns)
  row : ∀ lim acc M ns, Shut E X R (rowN O n lim acc (M ++ [E]) ns) (rowN O n lim acc (M ++ X :: R) ns)
  sign : ∀ s most M ns, Shut E X R (signN O n s most (M ++ [E]) ns) (signN O n s most (M ++ X :: R) ns)

theorem shut_all : ∀ n, ShutN O E X R n
  | 0 => ⟨fun _ _ _ => shut_bad _ _, fun _ _ _ _ _ => shut_bad _ _, fun _ _ _ => shut_bad _ _, fun _ _ _ => shut_bad _ _, fun _ _ _ => shut_bad _ _, fun _ _ _ _ => shut_bad _ _, fun _ _ _ _ => shut_bad _ _⟩
  | n + 1 => by
    have ih := shut_all n
    refine ⟨fun most M ns => ?_, fun most t p M ns => ?_, fun most M ns => ?_, fun t M ns => ?_, fun s M ns => ?_, fun lim acc M ns => ?_, fun s most M ns => ?_⟩
    · simp only [termN]
      have hi := ih.oper most M ns
      cases hx : operN O n most (M ++ [E]) ns with
      | bad q0 => exact shut_bad _ _
      | ok a0 r0 m0 =>
        obtain ⟨q, rfl, hy⟩ := hi a0 r0 m0 hx
        rw [hy]
        exact ih.loop most a0.1 a0.2 q m0
    · simp only [loopN]
      rw [in_eq hE hX hs M]
      cases h : infixF O (M ++ [E]) with
      | none => exact shut_ok t M ns
      | some o =>
        obtain ⟨u, q2, rfl⟩ := in_ne hE M h
        dsimp only
        split
        · exact shut_ok t (u :: q2) ns
        · simp only [List.cons_append, List.tail_cons]
          have hi := ih.term (rightI o.p o.t) q2 ns
          cases hx : termN O n (rightI o.p o.t) (q2 ++ [E]) ns with
          | bad q0 => exact shut_bad _ _
          | ok a0 r0 m0 =>
            obtain ⟨q, rfl, hy⟩ := hi a0 r0 m0 hx
            rw [hy]
            exact ih.loop most _ _ q m0
    · cases M with
      | nil =>
        simp only [List.nil_append, operN, hE]
        exact shut_bad _ _
      | cons t M =>
        simp only [List.cons_append, operN]
        split
        · exact ih.brac t M ns
        · split
          · exact shut_bad _ _
          · split
            · exact shut_ok _ M ns
            · split
              · exact shut_ok _ M _
              · split
                · exact ih.named _ M ns
                · exact ih.sign _ _ M ns
    · simp only [bracN]
      split
      · have hi := ih.term 1200 M ns
        cases hx : termN O n 1200 (M ++ [E]) ns with
        | bad q0 => exact shut_bad _ _
        | ok a0 r0 m0 =>
          obtain ⟨q, rfl, hy⟩ := hi a0 r0 m0 hx
          rw [hy]
          exact shut_want hE 41 _ q m0
      · split
        · rw [pu_eq hE hX hs M (c := 93) (by decide)]
          cases h : isPu (M ++ [E]) 93
          · simp only [Bool.false_eq_true, if_false]
            have hi := ih.row false [] M ns
            cases hx : rowN O n false [] (M ++ [E]) ns with
            | bad q0 => exact shut_bad _ _
            | ok a0 r0 m0 =>
              obtain ⟨q, rfl, hy⟩ := hi a0 r0 m0 hx
              rw [hy]
              dsimp only
              rw [pu_eq hE hX hs q (c := 124) (by decide)]
              cases h2 : isPu (q ++ [E]) 124
              · simp only [Bool.false_eq_true, if_false]
                exact shut_want hE 93 _ q m0
              · obtain ⟨t2, q2, rfl⟩ := pu_ne hE q h2
                simp only [if_true]
                simp only [List.cons_append, List.tail_cons]
                have hi3 := ih.term 999 q2 m0
                cases hx3 : termN O n 999 (q2 ++ [E]) m0 with
                | bad q0 => exact shut_bad _ _
                | ok a3 r3 m3 =>
                  obtain ⟨q3, rfl, hy3⟩ := hi3 a3 r3 m3 hx3
                  rw [hy3]
                  exact shut_want hE 93 _ q3 m3
          · obtain ⟨t2, q2, rfl⟩ := pu_ne hE M h
            simp only [if_true]
            exact ih.named _ q2 ns
        · split
          · rw [pu_eq hE hX hs M (c := 125) (by decide)]
            cases h : isPu (M ++ [E]) 125
            · simp only [Bool.false_eq_true, if_false]
              have hi := ih.term 1200 M ns
              cases hx : termN O n 1200 (M ++ [E]) ns with
              | bad q0 => exact shut_bad _ _
              | ok a0 r0 m0 =>
                obtain ⟨q, rfl, hy⟩ := hi a0 r0 m0 hx
                rw [hy]
                exact shut_want hE 125 _ q m0
            · obtain ⟨t2, q2, rfl⟩ := pu_ne hE M h
              simp only [if_true]
              exact ih.named _ q2 ns
          · exact shut_bad _ _
    · simp only [namedN]
      rw [op_eq hE hX hs M]
      cases h : opensB (M ++ [E])
      · simp only [Bool.false_eq_true, if_false]
        exact shut_ok _ M ns
      · obtain ⟨t2, q2, rfl⟩ := op_ne hE M h
        simp only [if_true]
        simp only [List.cons_append, List.tail_cons]
        have hi := ih.row true [] q2 ns
        cases hx : rowN O n true [] (q2 ++ [E]) ns with
        | bad q0 => exact shut_bad _ _
        | ok a0 r0 m0 =>
          obtain ⟨q, rfl, hy⟩ := hi a0 r0 m0 hx
          rw [hy]
          exact shut_want hE 41 _ q m0
    · simp only [rowN]
      have hi := ih.term 999 M ns
      cases hx : termN O n 999 (M ++ [E]) ns with
      | bad q0 => exact shut_bad _ _
      | ok a0 r0 m0 =>
        obtain ⟨q, rfl, hy⟩ := hi a0 r0 m0 hx
        rw [hy]
        dsimp only
        rw [pu_eq hE hX hs q (c := 44) (by decide)]
        cases h : isPu (q ++ [E]) 44
        · simp only [Bool.false_eq_true, if_false]
          exact shut_ok _ q m0
        · obtain ⟨t2, q2, rfl⟩ := pu_ne hE q h
          simp only [if_true]
          split
          · exact shut_bad _ _
          · exact ih.row lim _ q2 m0
    · simp only [signN]
      rw [op_eq hE hX hs M, nu_eq hE hX M, be_eq hE hX hs M]
      split
      · exact ih.named _ M ns
      · split
        · rename_i h
          obtain ⟨t2, q2, rfl⟩ := nu_ne hE M h.2
          exact shut_ok _ q2 ns
        · split
          · exact shut_ok _ M ns
          · rename_i o _
            split
            · skip
              have hi := ih.term (rightI o.p o.t) M ns
              cases hx : termN O n (rightI o.p o.t) (M ++ [E]) ns with
              | bad q0 => exact shut_bad _ _
              | ok a0 r0 m0 =>
                obtain ⟨q, rfl, hy⟩ := hi a0 r0 m0 hx
                rw [hy]
                exact shut_ok _ q m0
            · exact shut_ok _ M ns
end
end Go.El
