/- (*sync.Once).Do and atomic additions, as the evaluator takes them. Over any program. -/
import Derived.Test.YtkenjhchfidpbaaGreatDoorC22
import Derived.Laws.LoneSync
namespace Go.Ev
open Go.RowKit

/-- The contract of (*sync.Once).Do with one function, a bound method. -/
structure OnceOk (P : Program) (d g : FuncId) : Prop where
  enter : ∀ (args : Array Value) (w : World), (callFunc d args).run P w = .ok (.enter d args) w
  first : ∀ (b off : Nat) (t : Value) (S : World → Prop) (w : World), w.cell? ⟨b, off, none⟩ = some (.int .u32 0) → w.cell? ⟨b, off + 1, none⟩ = some (.int .i32 0) → w.frozen? ⟨b, off + 1, none⟩ = false →
    (Calls P g #[t] (w.setCell ⟨b, off + 1, none⟩ (.int .i32 1)) fun e w2 => (∃ v, e = .returned v) ∧ S w2) →
    (∀ w2, S w2 → ∃ x, w2.cell? ⟨b, off, none⟩ = some x ∧ w2.frozen? ⟨b, off, none⟩ = false ∧ w2.cell? ⟨b, off + 1, none⟩ = some (.int .i32 1) ∧ w2.frozen? ⟨b, off + 1, none⟩ = false) →
    Calls P d #[.pointer (some ⟨b, off, none⟩), .func (.func g) #[t] #[]] w fun e w' => e = .returned (.tuple #[]) ∧ ∃ w2, S w2 ∧ w' = (w2.drew.setCell ⟨b, off, none⟩ (.int .u32 1)).setCell ⟨b, off + 1, none⟩ (.int .i32 0)
  done : ∀ (a : Addr) (fv : Value) (w : World), w.cell? a = some (.int .u32 1) → Calls P d #[.pointer (some a), fv] w fun e w' => e = .returned (.tuple #[]) ∧ w' = w

section
variable {C : Ctx} {P : Program} {d g : FuncId}

theorem ofB {x y : AV} {l : List AV} {w : World} {φ : Pl} {b o : Nat} {l' : List Value} (hl : VRs φ (x :: y :: l) l') (hr : w.rangeAt b o l') : ∃ x' y', VR φ x x' ∧ VR φ y y' ∧ w.cell? ⟨b, o, none⟩ = some x' ∧ w.cell? ⟨b, o + 1, none⟩ = some y' := by
  cases hl with
  | cons _ x' _ l1 h1 t =>
    cases t with
    | cons _ y' _ l2 h2 t => exact ⟨x', y', h1, h2, by have := hr 0 x' rfl; simpa using this, hr 1 y' rfl⟩

theorem once_1 (O : OnceOk P d g) (hg : runs C g = true) (_hd : runs C d = false) : Ext1 C P d (10 + g) := by
  intro cf hcf N φ h h' w args args' v s hargs e
  have e1 : onceA cf g args h = some (v, h') := by
    unfold extA at e
    split at e
    · exfalso; omega
    · exfalso; omega
    · rw [show Nat.ble 10 (10 + g) = true from Nat.ble_eq_true_of_le (Nat.le_add_right 10 g)] at e
      rw [show Nat.sub (10 + g) 10 = g from Nat.add_sub_cancel_left 10 g] at e
      exact e
  clear e
  refine .inr ⟨O.enter args' w, fun n => callsIn_wide.2 ?_⟩
  unfold onceA at e1
  split at e1
  · rename_i i o f first cap
    obtain ⟨p', f', rfl, hp, hf⟩ := args2 hargs
    cases hp with
    | ptr _ _ b k hb =>
      split at e1
      · -- called already
        rename_i y z hl
        injection e1 with e1; injection e1 with e2 e3; subst e2 e3
        obtain ⟨l', d1, d2, d3⟩ := loadC_rel s hl hb
        obtain ⟨x', y', c1, c2, c3, c4⟩ := ofB d2 d3
        cases c1
        refine (O.done ⟨b, k + o, none⟩ f' w c3).mono ?_
        rintro e w' ⟨rfl, rfl⟩
        exact ⟨φ, Le.refl φ, vrunit, s, Below.refl N _⟩
      · -- for the first time
        rename_i z hl
        unfold onceK at e1
        split at e1
        · rename_i g' t
          obtain ⟨h1, e2a, e1a⟩ := ob_some e1
          clear e1
          obtain ⟨q, e2⟩ := iff_some e2a
          clear e2a
          have hgg := Nat.eq_of_beq_eq_true q
          clear q
          subst hgg
          obtain ⟨⟨v0, h2⟩, e3, e1⟩ := ob_some e1a
          clear e1a
          split at e1
          · rename_i z2 hl2
            obtain ⟨h3, e4, e7⟩ := ob_some e1
            clear e1
            injection e7 with e7; injection e7 with e5 e6; subst e5 e6
            obtain ⟨l', d1, d2, d3⟩ := loadC_rel s hl hb
            obtain ⟨x', y', c1, c2, c3, c4⟩ := ofB d2 d3
            cases c1
            cases c2
            obtain ⟨s1, s2, s3, s4⟩ := storeC_rel s e2 (.cons _ _ _ _ (.int .i32 1) .nil) hb
            have s1 : Sim N φ h1 (w.setCell ⟨b, k + o + 1, none⟩ (.int .i32 1)) := s1
            have s2 : Below N w (w.setCell ⟨b, k + o + 1, none⟩ (.int .i32 1)) := s2
            have s3 := s3 0 (by simp)
            cases hf with
            | fn _ fr _ _ first' cap' hff ha hc =>
              cases hff
              obtain ⟨fl⟩ := first'
              obtain ⟨cl⟩ := cap'
              cases hc
              cases ha with
              | cons _ t' _ l1 ht hn =>
                cases hn
                have hcall : Calls P g' #[t'] (w.setCell ⟨b, k + o + 1, none⟩ (.int .i32 1)) fun e w2 => (∃ v, e = .returned v) ∧ ∃ ψ, Le φ ψ ∧ Sim N ψ h2 w2 ∧ Below N w w2 := by
                  rcases hcf (args' := #[t']) s1 (.cons _ _ _ _ ht .nil) e3 with ⟨x1, _⟩ | ⟨_, x2⟩
                  · rw [hg] at x1; exact absurd x1 (by simp)
                  · refine (callsIn_wide.1 (x2 0)).mono ?_
                    intro e w2 he
                    cases e with
                    | returned v' => obtain ⟨ψ, m1, _, m3, m4⟩ := he; exact ⟨⟨v', rfl⟩, ψ, m1, m3, s2.trans m4⟩
                    | panicked c => exact he.elim
                    | outgrown => exact he.elim
                refine (O.first b (k + o) t' (fun w2 => ∃ ψ, Le φ ψ ∧ Sim N ψ h2 w2 ∧ Below N w w2) w c3 c4 s3.2 hcall ?_).mono ?_
                · rintro w2 ⟨ψ, m1, m2, m3⟩
                  have hb2 := m1.p _ _ hb
                  obtain ⟨l2, q1, q2, q3⟩ := loadC_rel m2 hl2 hb2
                  obtain ⟨x2, y2, u1, u2, u3, u4⟩ := ofB q2 q3
                  cases u2
                  obtain ⟨_, _, t3, _⟩ := storeC_rel m2 e4 (.cons _ _ _ _ (.int .u32 1) (.cons _ _ _ _ (.int .i32 0) .nil)) hb2
                  have t0 := t3 0 (by simp)
                  have t1 := t3 1 (by simp)
                  exact ⟨x2, u3, t0.2, u4, t1.2⟩
                · rintro e w' ⟨rfl, w2, ⟨ψ, m1, m2, m3⟩, rfl⟩
                  have hb2 := m1.p _ _ hb
                  obtain ⟨t1, t2, _, _⟩ := storeC_rel m2.draw e4 (.cons _ _ _ _ (.int .u32 1) (.cons _ _ _ _ (.int .i32 0) .nil)) hb2
                  exact ⟨ψ, m1, vrunit, t1, m3.drew.trans t2⟩
          · exact absurd e1 (by simp)
        · exact absurd e1 (by simp)
      · exact absurd e1 (by simp)
  · exact absurd e1 (by simp)

/-- An atomic addition. -/
theorem add_1 (hr : ∀ (a : Addr) (x y : Int) (w : World), w.cell? a = some (.int .i64 x) → w.frozen? a = false → (callFunc d #[.pointer (some a), .int .i64 y]).run P w = .ok (.value (.int .i64 (IntKind.i64.wrap (x + y)))) (w.setCell a (.int .i64 (IntKind.i64.wrap (x + y)))))
    (_hd : runs C d = false) : Ext1 C P d 4 := by
  intro cf _ N φ h h' w args args' v s hargs e
  unfold extA at e
  split at e
  · exfalso; omega
  · rename_i i o y _
    obtain ⟨p', y', rfl, hp, hy⟩ := args2 hargs
    cases hy
    cases hp with
    | ptr _ _ b k hb =>
      split at e
      · rename_i n hl
        split at e
        · rename_i h1 hst
          injection e with e; injection e with e1 e2; subst e1 e2
          obtain ⟨v', c1, c2⟩ := load1_rel s hl hb
          cases c2
          obtain ⟨s1, s2, s3, _⟩ := storeC_rel s hst (.cons _ _ _ _ (.int .i64 (IntKind.i64.wrap (n + y))) .nil) hb
          have s3 := s3 0 (by simp)
          exact .inl ⟨_, _, hr _ _ _ w c1 s3.2, φ, Le.refl φ, .int _ _, s1, s2⟩
        · exact absurd e (by simp)
      · exact absurd e (by simp)
  · exact absurd (show (none : Option (AV × H)) = some (v, h') from e) (by simp)
end
end Go.Ev
