/- Layer 10, plain: a text with a blank and a point behind it; more fuel; what is left of tokens is some of them. -/
import Derived.Test.YtgcdhffeacdegaaGreatDoorG46
import Derived.Test.YtgcdhffeacdegaaGreatDoorG47
namespace Go.El

section
variable (A : List UInt8)
/-- A text with its point. -/
def ptT : List UInt8 := A ++ [32, 46]
theorem pt_len : (ptT A).length = A.length + 2 := by simp [ptT]
theorem pt_get {i : Nat} {c : UInt8} (h : A[i]? = some c) : (ptT A)[i]? = some c := by
  unfold ptT
  rw [List.getElem?_append_left (List.getElem?_eq_some_iff.1 h).1]
  exact h
theorem pt_end : (ptT A)[A.length]? = some 32 := by unfold ptT; rw [List.getElem?_append_right (Nat.le_refl _)]; simp
theorem pt_end1 : (ptT A)[A.length + 1]? = some 46 := by unfold ptT; rw [List.getElem?_append_right (by omega)]; simp
theorem pt_end2 : (ptT A)[A.length + 2]? = none := List.getElem?_eq_none (by rw [pt_len]; omega)
theorem pt_drop {i : Nat} (hi : i ≤ A.length) : (ptT A).drop i = A.drop i ++ [32, 46] := by unfold ptT; rw [List.drop_append_of_le_length hi]
theorem pt_row {p : UInt8 → Bool} (hp : p 32 = false) {i : Nat} (hi : i ≤ A.length) : rowTo p (ptT A) i = rowTo p A i := by
  unfold rowTo
  rw [pt_drop A hi]
  congr 2
  generalize A.drop i = l
  induction l with
  | nil => simp [hp]
  | cons c l ih =>
    rw [List.cons_append, List.takeWhile_cons, List.takeWhile_cons, ih]
theorem pt_eol {i : Nat} (hi : i ≤ A.length) : eol (ptT A) i = eol A i ∨ eol A i = A.length ∧ eol (ptT A) i = A.length + 2 := by
  unfold eol rowTo
  rw [pt_drop A hi, List.takeWhile_append]
  split
  · next h =>
    right
    rw [List.length_drop] at h
    rw [h, List.length_append, List.length_drop]
    refine ⟨by omega, ?_⟩
    show i + (A.length - i + 2) = _
    omega
  · exact .inl rfl
theorem pt_closeF : ∀ (l : List UInt8), closeF l = none → closeF (l ++ [32, 46]) = none
  | [], _ => by decide
  | c :: l, h => by
    unfold closeF at h
    rw [List.cons_append]
    unfold closeF
    split at h
    · cases h
    · next hc =>
      rw [Option.map_eq_none_iff] at h
      rw [if_neg (fun g => hc ⟨g.1, by
        rcases l with _ | ⟨d, l⟩
        · have := g.2; simp at this
        · simpa using g.2⟩), pt_closeF l h]
      rfl
theorem pt_close {i : Nat} (hi : i ≤ A.length) : close (ptT A) i = close A i := by
  unfold close
  rw [pt_drop A hi]
  cases h : closeF (A.drop i) with
  | none => rw [pt_closeF _ h]
  | some m => rw [closeF_pre _ _ m h]
theorem pt_next {k : Nat} (hk : k < A.length) {x : UInt8} (hx : x ≠ 32) : (ptT A)[k + 1]? = some x ↔ A[k + 1]? = some x := by
  by_cases h : k + 1 < A.length
  · unfold ptT
    rw [List.getElem?_append_left h]
  · have e : k + 1 = A.length := by omega
    rw [e, pt_end, List.getElem?_eq_none (Nat.le_refl _)]
    simp [Ne.symm hx]
theorem pt_next0 {k : Nat} (hk : k ≤ A.length) {x : UInt8} (hx : x ≠ 32) : (ptT A)[k]? = some x ↔ A[k]? = some x := by
  by_cases h : k < A.length
  · unfold ptT
    rw [List.getElem?_append_left h]
  · have e : k = A.length := by omega
    rw [e, pt_end, List.getElem?_eq_none (Nat.le_refl _)]
    simp [Ne.symm hx]
/-- Layout: it ends where it ended; or it reaches the point; or all is a comment. -/
theorem pt_skipN : ∀ (n i : Nat), i ≤ A.length → A.length + 1 - i ≤ n → skipTo (ptT A) i = skipN n A i ∨ skipN n A i = (A.length, true) ∧ (skipTo (ptT A) i = (A.length + 1, true) ∨ skipTo (ptT A) i = (A.length + 2, true))
  | 0, i, hi, hn => by omega
  | n + 1, i, hi, hn => by
    simp only [skipN]
    cases hc : A[i]? with
    | none =>
      have h := List.getElem?_eq_none_iff.1 hc
      obtain rfl : i = A.length := by omega
      refine .inr ⟨rfl, .inl ?_⟩
      rw [skipTo_eq (pt_end A), if_pos (by decide), skipTo_eq (pt_end1 A)]
      rfl
    | some c =>
      have hlt : i < A.length := (List.getElem?_eq_some_iff.1 hc).1
      simp only
      rw [skipTo_eq (pt_get A hc)]
      split
      · exact pt_skipN n (i + 1) hlt (by omega)
      · split
        · next h37 =>
          subst h37
          have h1 := eol_gt hc
          have hle : eol A i ≤ A.length := rowTo_le hi
          rcases pt_eol A hi with h2 | ⟨h2, h3⟩
          · rw [h2]
            exact pt_skipN n (eol A i) hle (by omega)
          · rw [h2, h3, skipTo_end (by rw [pt_len]; omega)]
            refine .inr ⟨?_, .inr rfl⟩
            cases n with
            | zero => rfl
            | succ n =>
              simp only [skipN]
              rw [List.getElem?_eq_none (Nat.le_refl _)]
        · split
          · next hcm =>
            have h2 := (pt_next A hlt (by decide)).1 hcm.2
            rw [if_pos ⟨hcm.1, h2⟩]
            have hl2 := (List.getElem?_eq_some_iff.1 h2).1
            rw [pt_close A (by omega)]
            cases hcl : close A (i + 2) with
            | none => exact .inl rfl
            | some e =>
              have hb2 := close_bd hcl
              exact pt_skipN n (e + 2) (by omega) (by omega)
          · next hcm =>
            rw [if_neg (fun g => hcm ⟨g.1, (pt_next A hlt (by decide)).2 g.2⟩)]
            exact .inl rfl
theorem pt_skip {i : Nat} (hi : i ≤ A.length) : skipTo (ptT A) i = skipTo A i ∨ skipTo A i = (A.length, true) ∧ (skipTo (ptT A) i = (A.length + 1, true) ∨ skipTo (ptT A) i = (A.length + 2, true)) := pt_skipN A _ i hi (Nat.le_refl _)
theorem pt_getD {i : Nat} (hi : i < A.length) : (ptT A).getD i 0 = A.getD i 0 := by
  simp only [List.getD_eq_getElem?_getD]
  rw [pt_get A (List.getElem?_eq_getElem hi), List.getElem?_eq_getElem hi]
theorem pt_esc {i : Nat} (hi : i ≤ A.length) : escS (ptT A) i = escS A i := by
  unfold escS
  cases hc : A[i]? with
  | none =>
    have h := List.getElem?_eq_none_iff.1 hc
    obtain rfl : i = A.length := by omega
    rw [pt_end]
    rfl
  | some c =>
    have hlt : i < A.length := (List.getElem?_eq_some_iff.1 hc).1
    rw [pt_get A hc]
    simp only
    rw [pt_row A (i := i + 1) (by decide) hlt]
    have hle : rowTo isHex A (i + 1) ≤ A.length := rowTo_le hlt
    split
    · rfl
    · split
      · rfl
      · split
        · rfl
        · split
          · split
            · next h2 =>
              have h3 := (pt_next0 A hle (by decide)).1 h2
              have hl2 := (List.getElem?_eq_some_iff.1 h3).1
              rw [if_pos h3]
              split
              · next g => rw [pt_getD A (by omega)]
              · split
                · next g => rw [pt_getD A (by omega), pt_getD A (by omega)]
                · rfl
            · next h2 => rw [if_neg (fun g => h2 ((pt_next0 A hle (by decide)).2 g))]
          · rfl
theorem pt_quoN : ∀ (n i : Nat) (acc : List UInt8), A.length + 1 - i ≤ n → i ≤ A.length → quoS (ptT A) i acc = quoN n A i acc
  | 0, i, acc, hn, hi => by omega
  | n + 1, i, acc, hn, hi => by
    simp only [quoN]
    cases hc : A[i]? with
    | none =>
      have h := List.getElem?_eq_none_iff.1 hc
      obtain rfl : i = A.length := by omega
      rw [quoS_eq (pt_end A), if_neg (fun g => absurd g.1 (by decide)), if_neg (by decide), if_neg (by decide), if_neg (by decide)]
      rw [quoS_eq (pt_end1 A), if_neg (fun g => absurd g.1 (by decide)), if_neg (by decide), if_neg (by decide), if_neg (by decide)]
      exact quoS_end (by rw [pt_len]; omega)
    | some c =>
      have hlt : i < A.length := (List.getElem?_eq_some_iff.1 hc).1
      rw [quoS_eq (pt_get A hc)]
      simp only
      by_cases g : c = 39 ∧ A[i + 1]? = some 39
      · have hl2 := (List.getElem?_eq_some_iff.1 g.2).1
        rw [if_pos g, if_pos ⟨g.1, (pt_next A hlt (by decide)).2 g.2⟩]
        exact pt_quoN n (i + 2) _ (by omega) hl2
      · rw [if_neg g, if_neg (fun g2 => g ⟨g2.1, (pt_next A hlt (by decide)).1 g2.2⟩)]
        split
        · rfl
        · split
          · rw [pt_esc A hlt]
            cases he : escS A (i + 1) with
            | none => rfl
            | some p =>
              have hb := escS_bd (x := p.1) (j := p.2) he
              exact pt_quoN n p.2 _ (by omega) hb.2
          · split
            · rfl
            · exact pt_quoN n (i + 1) _ (by omega) hlt
theorem pt_quo {i : Nat} {acc : List UInt8} (hi : i ≤ A.length) : quoS (ptT A) i acc = quoS A i acc := pt_quoN A _ i acc (Nat.le_refl _) hi
theorem pt_ends {k : Nat} (hk : k < A.length) (c : UInt8) : endsS (ptT A) k c = endsS A k c := by
  unfold endsS
  by_cases h : k + 1 < A.length
  · rw [pt_get A (List.getElem?_eq_getElem h), List.getElem?_eq_getElem h]
  · have e : k + 1 = A.length := by omega
    rw [e, pt_end, List.getElem?_eq_none (Nat.le_refl _)]
    rfl
theorem pt_sub {i j : Nat} (hj : j ≤ A.length) (hi : i ≤ j) : sub (ptT A) i j = sub A i j := by
  unfold sub
  rw [pt_drop A (by omega), List.take_append_of_le_length (by rw [List.length_drop]; omega)]
theorem pt_one {k : Nat} (hlt : k < A.length) (c : UInt8) : oneS (ptT A) k c = oneS A k c := by
  have hl : k ≤ A.length := by omega
  unfold oneS
  rw [pt_ends A hlt, pt_row A (by decide) hl, pt_row A (by decide) hl, pt_row A (by decide) hl]
  rw [pt_sub A (rowTo_le hl) (rowTo_ge _ _ _), pt_sub A (rowTo_le hl) (rowTo_ge _ _ _), pt_sub A (rowTo_le hl) (rowTo_ge _ _ _), pt_quo A hlt]
theorem pt_scan {i : Nat} (hi : i ≤ A.length) (h : (scanS A i).2.2 ≠ 4) : scanS (ptT A) i = scanS A i := by
  have hsk := pt_skip A hi
  rcases scanS_cases A i with ⟨k, hs, g⟩ | ⟨k, hs, hk, g⟩ | ⟨k, c, x, hs, hk, hx, g⟩ | ⟨k, c, kd, s, n, e, hs, hk, ho, g⟩
  · rw [hs] at hsk
    rcases hsk with h2 | ⟨h2, _⟩
    · rw [g, scanS_open h2]
    · cases h2
  · rw [g] at h
    exact absurd rfl h
  · have hlt : k < A.length := (List.getElem?_eq_some_iff.1 hk).1
    rw [hs] at hsk
    rcases hsk with h2 | ⟨h2, _⟩
    · rw [g, scanS_err h2 (pt_get A hk) (by rw [pt_one A hlt]; exact hx)]
    · injection h2 with h2 _
      omega
  · have hlt : k < A.length := (List.getElem?_eq_some_iff.1 hk).1
    rw [hs] at hsk
    rcases hsk with h2 | ⟨h2, _⟩
    · rw [g, scanS_ok h2 (pt_get A hk) (by rw [pt_one A hlt]; exact ho)]
    · injection h2 with h2 _
      omega
/-- Behind the last token stands the point, or nothing. -/
theorem pt_last {i : Nat} (hi : i ≤ A.length) (h : (scanS A i).2.2 = 4) : (scanS A i).2.1 = A.length ∧ ((scanS (ptT A) i).2.2 = 4 ∨ scanS (ptT A) i = (⟨6, ⟨#[46]⟩, 0, ((A.length + 1 : Nat) : Int), true⟩, A.length + 2, 0)) := by
  have hsk := pt_skip A hi
  rcases scanS_cases A i with ⟨k, _, g⟩ | ⟨k, hs, hk, g⟩ | ⟨k, c, x, _, _, hx, g⟩ | ⟨k, c, kd, s, n, e, _, _, _, g⟩
  · rw [g] at h; cases h
  · rw [g]
    have h1 := skipTo_le hi
    rw [hs] at h1
    simp only at h1
    have h2 := List.getElem?_eq_none_iff.1 hk
    obtain rfl : k = A.length := by omega
    refine ⟨rfl, ?_⟩
    have hpt : skipTo (ptT A) i = (A.length + 1, true) → scanS (ptT A) i = (⟨6, ⟨#[46]⟩, 0, ((A.length + 1 : Nat) : Int), true⟩, A.length + 2, 0) := by
      intro hq
      have ho : oneS (ptT A) (A.length + 1) 46 = .ok (6, [46], 0, A.length + 2) := by
        unfold oneS
        rw [if_pos (by unfold endsS; rw [pt_end2]; rfl)]
        rfl
      rw [scanS_ok hq (pt_end1 A) ho]
      simp only [decide_eq_true (show i < A.length + 1 by omega)]
    rcases hsk with h3 | ⟨_, h3 | h3⟩
    · exfalso
      have h4 := skipTo_ge (ptT A) i
      obtain ⟨b1, b2, b3⟩ := skipN_stop _ (ptT A) i A.length 32 (Nat.le_refl _) (by rw [pt_len]; omega) (h3.trans hs) (pt_end A)
      revert b1
      decide
    · exact .inr (hpt h3)
    · refine .inl ?_
      rw [scanS_none h3 (pt_end2 A)]
  · rw [g] at h
    rcases oneS_err hx with rfl | rfl | rfl <;> cases h
  · rw [g] at h; cases h
/-- The tokens of a text with its point: those of the text, and the point; or a point stands in the text. -/
theorem pt_ct : ∀ (n i : Nat) (acc l : List TokV) (e : Nat), A.length + 1 - i ≤ n → i ≤ A.length → ctF (ptT A) i acc = .ok (l, e) →
    (∃ T E k, toks A i = (T, k, 0) ∧ (∀ t ∈ T, t.kind ≠ 6) ∧ l = acc ++ (T ++ [E]) ∧ E.kind = 6 ∧ e = A.length + 2) ∨ (e ≤ A.length ∧ ((scanS A e).2.2 = 4 → ∃ T k, toks A i = (T, k, 0) ∧ ∃ t ∈ T, t.kind = 6))
  | 0, i, _, _, _, h, hi, _ => by omega
  | n + 1, i, acc, l, e, h, hi, hc => by
    have hip : i ≤ (ptT A).length := by rw [pt_len]; omega
    by_cases h4 : (scanS A i).2.2 = 4
    · obtain ⟨_, h5⟩ := pt_last A hi h4
      left
      rcases h5 with h5 | h5
      · rw [ctF_eq hip (show scanS (ptT A) i = ((scanS (ptT A) i).1, (scanS (ptT A) i).2.1, 4) from by rw [← h5])] at hc
        split at hc
        · cases hc
        · rw [if_pos (by decide)] at hc
          cases hc
      · rw [ctF_eq hip h5, if_neg (fun g => absurd g.1 (by decide)), if_neg (by decide), if_pos rfl] at hc
        injection hc with hc
        injection hc with h6 h7
        refine ⟨[], ⟨6, ⟨#[46]⟩, 0, ((A.length + 1 : Nat) : Int), true⟩, (scanS A i).2.1, ?_, by simp, by rw [← h6]; rfl, rfl, h7.symm⟩
        rw [toks_eq hi, if_pos h4]
    · have hs := pt_scan A hi h4
      by_cases h0 : (scanS A i).2.2 = 0
      · have hst := scanS_step h0
        obtain ⟨t, j, x, hsc⟩ : ∃ t j x, scanS A i = (t, j, x) := ⟨_, _, _, rfl⟩
        rw [hsc] at h0 hst hs
        simp only at h0 hst
        subst h0
        rw [ctF_eq hip hs, if_neg (fun g => absurd g.1 (by decide)), if_neg (by decide)] at hc
        have hte : ∀ T k, toks A j = (T, k, 0) → toks A i = (t :: T, k, 0) := by
          intro T k hT
          rw [toks_eq hi, hsc]
          simp only
          rw [hT, if_neg (by decide), if_neg (by decide), if_pos rfl]
        split at hc
        · next hk =>
          injection hc with hc
          injection hc with h6 h7
          subst h7
          refine .inr ⟨hst.2, fun g4 => ⟨[t], (scanS A j).2.1, hte [] _ ?_, t, by simp, hk⟩⟩
          rw [toks_eq hst.2, if_pos g4]
        · next hk =>
          rcases pt_ct n j _ l e (by omega) hst.2 hc with ⟨T, E, k, a1, a2, a3, a4, a5⟩ | ⟨a1, a2⟩
          · refine .inl ⟨t :: T, E, k, hte T k a1, ?_, by rw [a3]; simp, a4, a5⟩
            intro u hu
            rcases List.mem_cons.1 hu with rfl | hu
            · exact hk
            · exact a2 u hu
          · refine .inr ⟨a1, fun g4 => ?_⟩
            obtain ⟨T, k, b1, u, b2, b3⟩ := a2 g4
            exact ⟨t :: T, k, hte T k b1, u, List.mem_cons_of_mem _ b2, b3⟩
      · rw [ctF_eq hip (show scanS (ptT A) i = ((scanS A i).1, (scanS A i).2.1, (scanS A i).2.2) from hs), if_neg (fun g => h4 g.1), if_pos h0] at hc
        cases hc
theorem pt_four {e : Nat} (he : e ≤ A.length) (h : (scanS (ptT A) e).2.2 = 4) : (scanS A e).2.2 = 4 := by
  by_cases h4 : (scanS A e).2.2 = 4
  · exact h4
  · rw [pt_scan A he h4] at h
    exact h
end

def UpP {α : Type} (x y : PR α) : Prop := ∀ a r ms, x = .ok a r ms → y = .ok a r ms
theorem up_bad {α : Type} (r : List TokV) (y : PR α) : UpP (.bad r) y := fun _ _ _ h => by cases h
theorem up_same {α : Type} (y : PR α) : UpP y y := fun _ _ _ h => h
structure UpN (O : Ops) (n m : Nat) : Prop where
  term : ∀ most r ns, UpP (termN O n most r ns) (termN O m most r ns)
  loop : ∀ most t p r ns, UpP (loopN O n most t p r ns) (loopN O m most t p r ns)
  oper : ∀ most r ns, UpP (operN O n most r ns) (operN O m most r ns)
  brac : ∀ t r ns, UpP (bracN O n t r ns) (bracN O m t r ns)
  named : ∀ s r ns, UpP (namedN O n s r ns) (namedN O m s r ns)
  row : ∀ lim acc r ns, UpP (rowN O n lim acc r ns) (rowN O m lim acc r ns)
  sign : ∀ s most r ns, UpP (signN O n s most r ns) (signN O m s most r ns)
theorem up_all (O : Ops) : ∀ n m, n ≤ m → UpN O n m
  | 0, _, _ => ⟨fun _ _ _ => up_bad _ _, fun _ _ _ _ _ => up_bad _ _, fun _ _ _ => up_bad _ _, fun _ _ _ => up_bad _ _, fun _ _ _ => up_bad _ _, fun _ _ _ _ => up_bad _ _, fun _ _ _ _ => up_bad _ _⟩
  | n + 1, 0, h => by omega
  | n + 1, m + 1, h => by
    have ih := up_all O n m (by omega)
    refine ⟨fun most r ns => ?_, fun most t p r ns => ?_, fun most r ns => ?_, fun t r ns => ?_, fun s r ns => ?_, fun lim acc r ns => ?_, fun s most r ns => ?_⟩
    · simp only [termN]
      cases hx : operN O n most r ns with
      | bad q => exact up_bad _ _
      | ok a q ms =>
        rw [ih.oper most r ns _ _ _ hx]
        exact ih.loop most a.1 a.2 q ms
    · simp only [loopN]
      cases hi : infixF O r with
      | none => exact up_same _
      | some o =>
        simp only
        split
        · exact up_same _
        · cases hx : termN O n (rightI o.p o.t) r.tail ns with
          | bad q => exact up_bad _ _
          | ok u q ms =>
            rw [ih.term _ r.tail ns _ _ _ hx]
            exact ih.loop most _ _ q ms
    · cases r with
      | nil =>
        simp only [operN]
        exact up_bad _ _
      | cons t r =>
        simp only [operN]
        split
        · exact ih.brac t r ns
        · split
          · exact up_bad _ _
          · split
            · exact up_same _
            · split
              · exact up_same _
              · split
                · exact ih.named _ r ns
                · exact ih.sign _ _ r ns
    · simp only [bracN]
      split
      · cases hx : termN O n 1200 r ns with
        | bad q => exact up_bad _ _
        | ok u q ms =>
          rw [ih.term 1200 r ns _ _ _ hx]
          exact up_same _
      · split
        · split
          · exact ih.named nilB r.tail ns
          · cases hx : rowN O n false [] r ns with
            | bad q => exact up_bad _ _
            | ok l q ms =>
              rw [ih.row false [] r ns _ _ _ hx]
              simp only
              split
              · cases hx2 : termN O n 999 q.tail ms with
                | bad q => exact up_bad _ _
                | ok u q2 m2 =>
                  rw [ih.term 999 q.tail ms _ _ _ hx2]
                  exact up_same _
              · exact up_same _
        · split
          · split
            · exact ih.named curB r.tail ns
            · cases hx : termN O n 1200 r ns with
              | bad q => exact up_bad _ _
              | ok u q ms =>
                rw [ih.term 1200 r ns _ _ _ hx]
                exact up_same _
          · exact up_bad _ _
    · simp only [namedN]
      split
      · cases hx : rowN O n true [] r.tail ns with
        | bad q => exact up_bad _ _
        | ok l q ms =>
          rw [ih.row true [] r.tail ns _ _ _ hx]
          exact up_same _
      · exact up_same _
    · simp only [rowN]
      cases hx : termN O n 999 r ns with
      | bad q => exact up_bad _ _
      | ok u q ms =>
        rw [ih.term 999 r ns _ _ _ hx]
        simp only
        split
        · split
          · exact up_bad _ _
          · exact ih.row lim _ q.tail ms
        · exact up_same _
    · simp only [signN]
      split
      · exact ih.named s r ns
      · split
        · exact up_same _
        · cases hf : O.fp s with
          | none => exact up_same _
          | some o =>
            simp only
            split
            · cases hx : termN O n (rightI o.p o.t) r ns with
              | bad q => exact up_bad _ _
              | ok u q ms =>
                rw [ih.term _ r ns _ _ _ hx]
                exact up_same _
            · exact up_same _

theorem map_same {α : Type} {z : α → α} : ∀ {l : List α}, l.map z = l → ∀ t ∈ l, z t = t
  | [], _, _, h => by cases h
  | a :: l, h, t, ht => by
    injection h with h1 h2
    rcases List.mem_cons.1 ht with rfl | ht
    · exact h1
    · exact map_same h2 t ht
theorem left_mem {O : Ops} {n : Nat} {most : Int} {r q : List TokV} {ns ms : List ByteArray} {u : Tm} (h : termN O n most r ns = .ok u q ms) : ∀ t ∈ q, t ∈ r := by
  let z : TokV → TokV := fun t => if t ∈ r then t else { t with at_ := t.at_ + 1 }
  have hz := (zed_all (O := O) (z := z) (fun t => by simp only [z]; split <;> rfl) (fun t => by simp only [z]; split <;> rfl) (fun t => by simp only [z]; split <;> rfl) (fun t => by simp only [z]; split <;> rfl) n).term most r ns
  have hr : r.map z = r := by
    have : r.map z = r.map id := List.map_congr_left (fun t ht => by simp [z, ht])
    rw [this, List.map_id]
  rw [hr, h] at hz
  simp only [PR.map] at hz
  injection hz with _ hz _
  intro t ht
  have := map_same hz.symm t ht
  by_cases hm : t ∈ r
  · exact hm
  · exfalso
    simp only [z, if_neg hm] at this
    have h2 := congrArg TokV.at_ this
    simp only at h2
    omega
end Go.El
