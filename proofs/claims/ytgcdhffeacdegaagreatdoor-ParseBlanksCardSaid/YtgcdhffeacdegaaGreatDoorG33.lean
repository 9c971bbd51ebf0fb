/- Layer 10, plain: a term is no larger than the tokens that it was read from. -/
import Derived.Test.YtgcdhffeacdegaaGreatDoorG04
import Derived.Test.YtgcdhffeacdegaaGreatDoorG13
namespace Go.El

def PR.fit {α : Type} (g : α → Nat) (m : Nat) : PR α → Prop
  | .bad _ => True
  | .ok a r _ => g a + r.length ≤ m
theorem fit_want {α : Type} {g : α → Nat} {m : Nat} {c : UInt8} {a : α} {r : List TokV} {ns : List ByteArray} (h : g a + r.length ≤ m + 1) : (wantP c a r ns).fit g m := by
  unfold wantP
  cases r with
  | nil => exact trivial
  | cons t r =>
    split
    · simp only [PR.fit, List.tail_cons]
      simp only [List.length_cons] at h
      omega
    · exact trivial
def szO (a : Tm × Int) : Nat := szT a.1
def szR (l : List Tm) : Nat := szL l + l.length
theorem szL_app : ∀ (a b : List Tm), szL (a ++ b) = szL a + szL b
  | [], b => by simp [szL]
  | t :: a, b => by simp [szL, szL_app a b]; omega
theorem szR_app (a : List Tm) (u : Tm) : szR (a ++ [u]) = szR a + szT u + 1 := by
  simp [szR, szL_app, szL]
  omega
theorem szT_comp (s : ByteArray) (l : List Tm) : szT (compT s l) ≤ 1 + szL l := by
  unfold compT
  split
  · simp [atomT, szT, szL]
  · simp [szT]
theorem szT_list : ∀ (l : List Tm) (u : Tm), szT (listT l u) = szR l + szT u
  | [], u => by simp [listT, szR, szL]
  | t :: l, u => by
    have ih := szT_list l u
    simp only [listT, List.foldr_cons, szT, szL, szR, List.length_cons] at ih ⊢
    omega
theorem pu_len {r : List TokV} {c : UInt8} (h : isPu r c = true) : r.tail.length + 1 = r.length := by
  cases r with
  | nil => cases h
  | cons t r => rfl
structure FitN (O : Ops) (n : Nat) : Prop where
  term : ∀ most r ns, (termN O n most r ns).fit szT r.length
  loop : ∀ most t p r ns, (loopN O n most t p r ns).fit szT (szT t + r.length)
  oper : ∀ most r ns, (operN O n most r ns).fit szO r.length
  brac : ∀ t r ns, (bracN O n t r ns).fit szO (r.length + 1)
  named : ∀ s r ns, (namedN O n s r ns).fit szO (r.length + 1)
  row : ∀ lim acc r ns, (rowN O n lim acc r ns).fit szR (szR acc + r.length + 1)
  sign : ∀ s most r ns, (signN O n s most r ns).fit szO (r.length + 1)
theorem fit_all (O : Ops) : ∀ n, FitN O n
  | 0 => ⟨fun _ _ _ => trivial, fun _ _ _ _ _ => trivial, fun _ _ _ => trivial, fun _ _ _ => trivial, fun _ _ _ => trivial, fun _ _ _ _ => trivial, fun _ _ _ _ => trivial⟩
  | n + 1 => by
    have ih := fit_all O n
    refine ⟨fun most r ns => ?_, fun most t p r ns => ?_, fun most r ns => ?_, fun t r ns => ?_, fun s r ns => ?_, fun lim acc r ns => ?_, fun s most r ns => ?_⟩
    · have h1 := ih.oper most r ns
      simp only [termN]
      cases ho : operN O n most r ns with
      | bad q => exact trivial
      | ok a q ms =>
        rw [ho] at h1
        have h2 := ih.loop most a.1 a.2 q ms
        simp only
        cases hl : loopN O n most a.1 a.2 q ms with
        | bad q2 => exact trivial
        | ok b q2 m2 =>
          rw [hl] at h2
          simp only [PR.fit, szO] at h1 h2 ⊢
          omega
    · simp only [loopN]
      cases hi : infixF O r with
      | none => exact Nat.le_refl _
      | some o =>
        simp only
        split
        · exact Nat.le_refl _
        · have h1 := ih.term (rightI o.p o.t) r.tail ns
          have hr : r.tail.length + 1 = r.length := by
            cases r with
            | nil => cases hi
            | cons x r => rfl
          cases ht : termN O n (rightI o.p o.t) r.tail ns with
          | bad q => exact trivial
          | ok u q ms =>
            rw [ht] at h1
            have h2 := ih.loop most (.mk 4 0 o.s [t, u]) o.p q ms
            simp only
            cases hl : loopN O n most (.mk 4 0 o.s [t, u]) o.p q ms with
            | bad q2 => exact trivial
            | ok b q2 m2 =>
              rw [hl] at h2
              simp only [PR.fit, szT, szL] at h1 h2 ⊢
              omega
    · cases r with
      | nil => exact trivial
      | cons t r =>
        simp only [operN]
        split
        · exact ih.brac t r ns
        · split
          · exact trivial
          · split
            · simp only [PR.fit, szO, intT, szT, szL, List.length_cons]
              omega
            · split
              · simp only [PR.fit, szO, varT, List.length_cons]
                cases varI t.s ns <;> simp [szT, szL] <;> omega
              · split
                · exact ih.named _ r ns
                · exact ih.sign _ _ r ns
    · simp only [bracN]
      split
      · have h1 := ih.term 1200 r ns
        cases ht : termN O n 1200 r ns with
        | bad q => exact trivial
        | ok u q ms =>
          rw [ht] at h1
          exact fit_want (by simp only [PR.fit, szO] at h1 ⊢; omega)
      · split
        · split
          · next hp =>
            have h1 := ih.named nilB r.tail ns
            have h2 := pu_len hp
            cases ht : namedN O n nilB r.tail ns with
            | bad q => exact trivial
            | ok u q ms =>
              rw [ht] at h1
              simp only [PR.fit] at h1 ⊢
              omega
          · have h1 := ih.row false [] r ns
            cases ht : rowN O n false [] r ns with
            | bad q => exact trivial
            | ok l q ms =>
              rw [ht] at h1
              simp only [PR.fit, szR, szL, List.length_nil] at h1
              simp only
              split
              · next hp =>
                have h2 := ih.term 999 q.tail ms
                have h3 := pu_len hp
                cases hu : termN O n 999 q.tail ms with
                | bad q2 => exact trivial
                | ok u q2 m2 =>
                  rw [hu] at h2
                  refine fit_want ?_
                  simp only [PR.fit] at h2
                  simp only [szO, szT_list, szR]
                  omega
              · refine fit_want ?_
                simp only [szO, szT_list, szR, atomT, szT, szL]
                omega
        · split
          · split
            · next hp =>
              have h1 := ih.named curB r.tail ns
              have h2 := pu_len hp
              cases ht : namedN O n curB r.tail ns with
              | bad q => exact trivial
              | ok u q ms =>
                rw [ht] at h1
                simp only [PR.fit] at h1 ⊢
                omega
            · have h1 := ih.term 1200 r ns
              cases ht : termN O n 1200 r ns with
              | bad q => exact trivial
              | ok u q ms =>
                rw [ht] at h1
                have h2 := szT_comp curB [u]
                refine fit_want ?_
                simp only [PR.fit] at h1
                simp only [szO]
                simp only [szL] at h2
                omega
          · exact trivial
    · simp only [namedN]
      split
      · next ho =>
        have hp : isPu r 40 = true := by
          unfold opensB at ho
          rw [Bool.and_eq_true] at ho
          exact ho.1
        have h0 := pu_len hp
        have h1 := ih.row true [] r.tail ns
        cases ht : rowN O n true [] r.tail ns with
        | bad q => exact trivial
        | ok l q ms =>
          rw [ht] at h1
          have h2 := szT_comp s l
          refine fit_want ?_
          simp only [PR.fit, szR, szL, List.length_nil] at h1
          simp only [szO]
          omega
      · simp only [PR.fit, szO, atomT, szT, szL]
        omega
    · have h1 := ih.term 999 r ns
      simp only [rowN]
      cases ht : termN O n 999 r ns with
      | bad q => exact trivial
      | ok u q ms =>
        rw [ht] at h1
        simp only [PR.fit] at h1
        simp only
        split
        · next hp =>
          split
          · exact trivial
          · have h2 := ih.row lim (acc ++ [u]) q.tail ms
            have h3 := pu_len hp
            cases hw : rowN O n lim (acc ++ [u]) q.tail ms with
            | bad q2 => exact trivial
            | ok l q2 m2 =>
              rw [hw] at h2
              simp only [PR.fit, szR_app] at h2 ⊢
              omega
        · simp only [PR.fit, szR_app]
          omega
    · simp only [signN]
      split
      · exact ih.named s r ns
      · split
        · simp only [PR.fit, szO, intT, szT, szL]
          have := List.length_tail (l := r)
          omega
        · cases O.fp s with
          | none =>
            simp only [PR.fit, szO, atomT, szT, szL]
            omega
          | some o =>
            simp only
            split
            · have h1 := ih.term (rightI o.p o.t) r ns
              cases ht : termN O n (rightI o.p o.t) r ns with
              | bad q => exact trivial
              | ok u q ms =>
                rw [ht] at h1
                have h2 := szT_comp s [u]
                simp only [PR.fit, szO, szL] at h1 h2 ⊢
                omega
            · simp only [PR.fit, szO, atomT, szT, szL]
              omega
theorem szT_read {O : Ops} {n : Nat} {most : Int} {r q : List TokV} {ns ms : List ByteArray} {t : Tm} (h : termN O n most r ns = .ok t q ms) : szT t ≤ r.length := by
  have h1 := (fit_all O n).term most r ns
  rw [h] at h1
  simp only [PR.fit] at h1
  omega
end Go.El

/- Layer 10, plain: the tokens of a clause are tokens. -/
namespace Go.El

theorem punct_in (c : UInt8) (h : isPunct c = true) : ([[40], [41], [91], [93], [123], [125], [44], [124]] : List (List UInt8)).contains [c] = true := by
  unfold isPunct at h
  simp at h ⊢
  rcases h with ((((((h | h) | h) | h) | h) | h) | h) | h <;> simp [h]
theorem oneS_tok {B : List UInt8} {i : Nat} {c : UInt8} {kd : Int} {s : List UInt8} {n : Int} {e : Nat} (h : oneS B i c = .ok (kd, s, n, e)) {a : Int} (ha : 0 ≤ a ∧ a ≤ 100000) (l : Bool) : tokOk ⟨kd, ⟨s.toArray⟩, n, a, l⟩ = true := by
  have key : ∀ {k : Int} {u : List UInt8} {j : Nat}, nameS k u j = .ok (kd, s, n, e) → (k = 1 ∨ k = 2 ∨ k = 3 ∨ k = 6 ∨ (k = 5 ∧ ([[40], [41], [91], [93], [123], [125], [44], [124]] : List (List UInt8)).contains u = true)) → tokOk ⟨kd, ⟨s.toArray⟩, n, a, l⟩ = true := fun hn hk => by
    obtain ⟨h1, h2⟩ := nameS_eq hn
    injection h1 with h3 h4
    injection h4 with h5 h6
    injection h6 with h7 h8
    subst h3 h5 h7
    have hsz : (⟨s.toArray⟩ : ByteArray).size ≤ 64 := by
      show s.toArray.size ≤ 64
      simpa using h2
    rcases hk with rfl | rfl | rfl | rfl | ⟨rfl, hc⟩
    all_goals simp [tokOk, ha, hsz]
    simpa using hc
  unfold oneS at h
  split at h
  · exact key h (by simp)
  · split at h
    · exact key h (by simp)
    · split at h
      · exact key h (by simp)
      · split at h
        · exact key h (by simp)
        · split at h
          · split at h
            · next hb =>
              injection h with h
              injection h with h3 h4
              injection h4 with h5 h6
              injection h6 with h7 h8
              subst h3 h5 h7
              have : (⟨([] : List UInt8).toArray⟩ : ByteArray).size ≤ 64 := by decide
              simp [tokOk, ha, this]
              omega
            · cases h
          · split at h
            · exact key h (by simp)
            · split at h
              · next hp => exact key h (.inr (.inr (.inr (.inr ⟨rfl, punct_in c hp⟩))))
              · split at h
                · cases hq : quoS B (i + 1) [] with
                  | none => rw [hq] at h; cases h
                  | some p =>
                    obtain ⟨u, j⟩ := p
                    rw [hq] at h
                    exact key h (by simp)
                · cases h
theorem scan_tokOk {B : List UInt8} {i : Nat} (hi : i ≤ B.length) (hB : B.length ≤ 65536) {t : TokV} {e : Nat} (h : scanS B i = (t, e, 0)) : tokOk t = true ∧ i < e ∧ e ≤ B.length := by
  have hst := scanS_step (B := B) (i := i) (by rw [h])
  rw [h] at hst
  refine ⟨?_, hst⟩
  have hsk := skipTo_le hi
  unfold scanS at h
  cases hs : skipTo B i with
  | mk k ok =>
    rw [hs] at h hsk
    cases ok with
    | false => simp at h
    | true =>
      simp only at h hsk
      cases hc : B[k]? with
      | none => rw [hc] at h; simp at h
      | some c =>
        rw [hc] at h
        simp only at h
        cases ho : oneS B k c with
        | error x =>
          rw [ho] at h
          simp only at h
          injection h with _ h2
          injection h2 with _ h3
          have := oneS_err ho
          omega
        | ok p =>
          obtain ⟨kd, s, n, j⟩ := p
          rw [ho] at h
          simp only at h
          injection h with h1 _
          rw [← h1]
          exact oneS_tok ho ⟨by omega, by omega⟩ _
theorem ctoksN_ok : ∀ (n : Nat) {B : List UInt8} {i : Nat} {acc l : List TokV} {e : Nat}, ctoksN n B i acc = .ok (l, e) → (∀ t ∈ acc, tokOk t = true) → acc.length ≤ i → i ≤ B.length → B.length ≤ 65536 → ToksOk l ∧ e ≤ B.length ∧ i < e
  | 0, _, _, _, _, _, h, _, _, _, _ => by cases h
  | n + 1, B, i, acc, l, e, h, ha, hl, hi, hB => by
    simp only [ctoksN] at h
    cases hs : scanS B i with
    | mk t r =>
      obtain ⟨j, x⟩ := r
      rw [hs] at h
      simp only at h
      split at h
      · cases h
      · split at h
        · cases h
        · next hx =>
          have hx0 : x = 0 := Decidable.byContradiction fun hne => hx hne
          subst hx0
          obtain ⟨ht, h1, h2⟩ := scan_tokOk hi hB hs
          split at h
          · next hk =>
            injection h with h
            injection h with h3 h4
            subst h3 h4
            refine ⟨⟨fun u hu => ?_, by simp; omega, acc, t, rfl, hk⟩, h2, h1⟩
            rcases List.mem_append.1 hu with hu | hu
            · exact ha u hu
            · simp at hu
              rw [hu]
              exact ht
          · have := ctoksN_ok n h (fun u hu => by
              rcases List.mem_append.1 hu with hu | hu
              · exact ha u hu
              · simp at hu
                rw [hu]
                exact ht) (by simp; omega) h2 hB
            exact ⟨this.1, this.2.1, by omega⟩
theorem ctoks_ok {B : List UInt8} {i : Nat} (hi : i ≤ B.length) (hB : B.length ≤ 65536) {l : List TokV} {e : Nat} (h : ctoks B i = .ok (l, e)) : ToksOk l ∧ e ≤ B.length ∧ i < e :=
  ctoksN_ok _ h (fun t ht => by simp at ht) (Nat.zero_le _) hi hB
/-- One round of the gathering. -/
theorem ctoksN_more : ∀ (n m : Nat) (B : List UInt8) (i : Nat) (acc : List TokV), i ≤ B.length → B.length + 1 - i ≤ n → n ≤ m → ctoksN m B i acc = ctoksN n B i acc
  | 0, _, B, i, _, hi, h, _ => by omega
  | n + 1, 0, _, _, _, _, _, h => by omega
  | n + 1, m + 1, B, i, acc, hi, h, hm => by
    simp only [ctoksN]
    cases hs : scanS B i with
    | mk t r =>
      obtain ⟨j, x⟩ := r
      simp only
      split
      · rfl
      · split
        · rfl
        · next hx =>
          have hx0 : x = 0 := Decidable.byContradiction fun hne => hx hne
          subst hx0
          have hst := scanS_step (B := B) (i := i) (by rw [hs])
          rw [hs] at hst
          split
          · rfl
          · exact ctoksN_more n m B j _ hst.2 (by have := hst.1; simp only at this; omega) (by omega)
end Go.El
