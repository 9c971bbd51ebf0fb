/- Layer 10, plain: the clauses of two texts with a line's end between are those of the first one and those of the second one. -/
import Derived.Test.YtgcdhffeacdegaaGreatDoorG44
import Derived.Test.YtgcdhffeacdegaaGreatDoorG40
import Derived.Test.YtgcdhffeacdegaaGreatDoorG45
namespace Go.El
open Go.Proofs.YtgcdhffeacdegaaGreatDoor

def ctF (B : List UInt8) (i : Nat) (acc : List TokV) : Except (Nat × Int) (List TokV × Nat) := ctoksN (B.length + 1 - i) B i acc
theorem ctF_eq {B : List UInt8} {k : Nat} {acc : List TokV} (hk : k ≤ B.length) {t : TokV} {e : Nat} {x : Int} (hs : scanS B k = (t, e, x)) :
    ctF B k acc = if x = 4 ∧ acc ≠ [] then .error (e, 101) else if x ≠ 0 then .error (e, x) else if t.kind = 6 then .ok (acc ++ [t], e) else ctF B e (acc ++ [t]) := ctoks_step hk rfl hs
theorem jn_ct (A B : List UInt8) : ∀ (n i : Nat) (acc l : List TokV) (k : Nat), A.length + 1 - i ≤ n → i ≤ A.length → ctoksN n A i acc = .ok (l, k) → ctF (joinT A B) i acc = .ok (l, k)
  | 0, i, _, _, _, h, hi, _ => by omega
  | n + 1, i, acc, l, k, h, hi, hc => by
    obtain ⟨t, e, x, hs⟩ : ∃ t e x, scanS A i = (t, e, x) := ⟨_, _, _, rfl⟩
    simp only [ctoksN, hs] at hc
    split at hc
    · cases hc
    · split at hc
      · cases hc
      · next hx =>
        have hx0 : x = 0 := Decidable.byContradiction fun h => hx h
        subst hx0
        have h0 : (scanS A i).2.2 = 0 := by rw [hs]
        have hst := scanS_step h0
        rw [hs] at hst
        simp only at hst
        have hj := jn_scan A B hi h0
        rw [hs] at hj
        rw [ctF_eq (by rw [jn_len]; omega) hj, if_neg (by simp), if_neg (by simp)]
        split at hc
        · next hk => rw [if_pos hk]; exact hc
        · next hk => rw [if_neg hk]; exact jn_ct A B n e _ l k (by omega) hst.2 hc
def shE (n : Nat) : Except (Nat × Int) (List TokV × Nat) → Except (Nat × Int) (List TokV × Nat)
  | .error (e, x) => .error (n + e, x)
  | .ok (l, k) => .ok (l.map (shT n), n + k)
theorem sh_ct (ws B : List UInt8) : ∀ (m i : Nat) (acc : List TokV), ctoksN m (ws ++ B) (ws.length + i) (acc.map (shT ws.length)) = shE ws.length (ctoksN m B i acc)
  | 0, i, acc => rfl
  | m + 1, i, acc => by
    obtain ⟨t, e, x, hs⟩ : ∃ t e x, scanS B i = (t, e, x) := ⟨_, _, _, rfl⟩
    have h2 := sh_scan ws B i
    rw [hs] at h2
    simp only [shScan] at h2
    simp only [ctoksN, hs, h2]
    by_cases h4 : x = 4 ∧ acc ≠ []
    · rw [if_pos h4, if_pos ⟨h4.1, by simpa using h4.2⟩]
      rfl
    · rw [if_neg h4, if_neg (fun h => h4 ⟨h.1, by simpa using h.2⟩)]
      by_cases h0 : x = 0
      · subst h0
        have ih := sh_ct ws B m e (acc ++ [t])
        rw [List.map_append] at ih
        simp only [ne_eq, not_true_eq_false, if_false, if_true]
        by_cases hk : t.kind = 6
        · rw [if_pos hk, if_pos (show (shT ws.length t).kind = 6 from hk)]
          simp [shE]
        · rw [if_neg hk, if_neg (show ¬ (shT ws.length t).kind = 6 from hk)]
          exact ih
      · rw [if_pos h0, if_pos h0]
        rfl
theorem sh_ctF (ws B : List UInt8) (i : Nat) : ctF (ws ++ B) (ws.length + i) [] = shE ws.length (ctF B i []) := by
  unfold ctF
  have := sh_ct ws B (B.length + 1 - i) i []
  rw [List.map_nil] at this
  rw [← this]
  congr 1
  rw [List.length_append]
  omega
/-- The first token's layout is no matter of where the others end. -/
theorem ct_head (B : List UInt8) : ∀ (n i : Nat) (a a' : TokV) (acc l : List TokV) (k : Nat), ctoksN n B i (a :: acc) = .ok (l, k) → ∃ l', l = a :: l' ∧ ctoksN n B i (a' :: acc) = .ok (a' :: l', k)
  | 0, _, _, _, _, _, _, h => by cases h
  | n + 1, i, a, a', acc, l, k, h => by
    obtain ⟨t, e, x, hs⟩ : ∃ t e x, scanS B i = (t, e, x) := ⟨_, _, _, rfl⟩
    simp only [ctoksN, hs] at h ⊢
    split at h
    · cases h
    · next h4 =>
      rw [if_neg (fun h => h4 ⟨h.1, by simp⟩)]
      split at h
      · cases h
      · next h0 =>
        rw [if_neg h0]
        split at h
        · next hk =>
          rw [if_pos hk]
          injection h with h
          injection h with h1 h2
          subst h1 h2
          exact ⟨acc ++ [t], rfl, rfl⟩
        · next hk =>
          rw [if_neg hk]
          exact ct_head B n e a a' (acc ++ [t]) l k h
theorem lay_ctF {W : List UInt8} {i j : Nat} (hij : i < j) (hj : j ≤ W.length) (hs : skipTo W i = skipTo W j) {l : List TokV} {k : Nat} (h : ctF W j [] = .ok (l, k)) : ctF W i [] = .ok (layHead l, k) := by
  obtain ⟨t, e, x, hsc⟩ : ∃ t e x, scanS W j = (t, e, x) := ⟨_, _, _, rfl⟩
  have h2 := scan_lay hij hs
  rw [hsc] at h2
  simp only at h2
  rw [ctF_eq hj hsc] at h
  rw [ctF_eq (by omega) h2]
  rw [if_neg (by simp)] at h ⊢
  split at h
  · cases h
  · next h0 =>
    have hx0 : x = 0 := Decidable.byContradiction fun h => h0 h
    subst hx0
    simp only [ne_eq, not_true_eq_false, if_false, if_true, List.nil_append]
    split at h
    · next hk =>
      rw [if_pos hk]
      injection h with h
      injection h with h1 h2
      subst h1 h2
      rfl
    · next hk =>
      rw [if_neg hk]
      simp only [List.nil_append] at h
      obtain ⟨l', rfl, h3⟩ := ct_head W _ e t { t with lay := true } [] l k h
      exact h3

theorem term_lay (O : Ops) (f : Nat) (most : Int) (t : TokV) (r : List TokV) (ns : List ByteArray) {u : Tm} {q : List TokV} {ms : List ByteArray} (h : termN O f most (t :: r) ns = .ok u q ms) : termN O f most ({ t with lay := true } :: r) ns = .ok u q ms := by
  cases f with
  | zero => simp only [termN] at h; cases h
  | succ f =>
    simp only [termN] at h ⊢
    have key : ∀ a q2 m2, operN O f most (t :: r) ns = .ok a q2 m2 → operN O f most ({ t with lay := true } :: r) ns = .ok a q2 m2 := by
      intro a q2 m2 h
      cases f with
      | zero => simp only [operN] at h; cases h
      | succ f =>
        simp only [operN] at h ⊢
        split at h
        · next h5 =>
          rw [if_pos h5]
          cases f with
          | zero => simp only [bracN] at h; cases h
          | succ f =>
            simp only [bracN] at h ⊢
            split at h
            · next h1 => rw [if_pos h1]; exact h
            · next h1 =>
              rw [if_neg h1]
              split at h
              · next h2 => rw [if_pos h2]; exact h
              · next h2 =>
                rw [if_neg h2]
                split at h
                · next h3 => rw [if_pos h3]; exact h
                · cases h
        · next h5 =>
          rw [if_neg h5]
          split at h
          · cases h
          · next h6 =>
            rw [if_neg h6]
            exact h
    cases ho : operN O f most (t :: r) ns with
    | bad q2 => rw [ho] at h; cases h
    | ok a q2 m2 =>
      rw [ho] at h
      rw [key a q2 m2 ho]
      exact h
theorem readT_inv {O : Ops} {l : List TokV} {e : Nat} {r : ReadV} {k : Int} (h : readT O l e = (r, k, 0)) : ∃ t q ns, termN O (5 * l.length + 5) 1200 l [] = .ok t q ns ∧ (q.map TokV.kind).head? = some 6 ∧ chkT t = 0 ∧ r = ⟨t, ns, e⟩ ∧ k = e := by
  unfold readT at h
  cases ht : termN O (5 * l.length + 5) 1200 l [] with
  | bad q =>
    rw [ht] at h
    injection h with _ h
    injection h with _ h
    cases h
  | ok t q ns =>
    rw [ht] at h
    simp only at h
    split at h
    · next h6 =>
      split at h
      · next hc =>
        injection h with h1 h
        injection h with h2 _
        exact ⟨t, q, ns, rfl, h6, hc, h1.symm, h2.symm⟩
      · next hc =>
        injection h with _ h
        injection h with _ h
        exact absurd h hc
    · injection h with _ h
      injection h with _ h
      cases h
theorem readT_of {O : Ops} {l : List TokV} {e : Nat} {t : Tm} {q : List TokV} {ns : List ByteArray} (h : termN O (5 * l.length + 5) 1200 l [] = .ok t q ns) (h6 : (q.map TokV.kind).head? = some 6) (hc : chkT t = 0) : readT O l e = (⟨t, ns, e⟩, (e : Int), 0) := by
  unfold readT
  rw [h]
  simp only
  rw [if_pos h6, if_pos hc]
theorem readT_sh {O : Ops} {l : List TokV} {e n : Nat} {t : Tm} {ns : List ByteArray} (h : readT O l e = (⟨t, ns, e⟩, (e : Int), 0)) : readT O (l.map (shT n)) (n + e) = (⟨t, ns, ((n + e : Nat) : Int)⟩, ((n + e : Nat) : Int), 0) := by
  obtain ⟨t', q, ns', ht, h6, hc, hr, _⟩ := readT_inv h
  injection hr with h1 h2 _
  subst h1 h2
  have hz := (zed_all (O := O) (z := shT n) (fun _ => rfl) (fun _ => rfl) (fun _ => rfl) (fun _ => rfl) (5 * l.length + 5)).term 1200 l []
  rw [ht] at hz
  refine readT_of (q := q.map (shT n)) (by rw [List.length_map]; exact hz) ?_ hc
  rw [List.map_map]
  exact h6
theorem readT_lay {O : Ops} {l : List TokV} {e : Nat} {t : Tm} {ns : List ByteArray} (h : readT O l e = (⟨t, ns, e⟩, (e : Int), 0)) : readT O (layHead l) e = (⟨t, ns, e⟩, (e : Int), 0) := by
  obtain ⟨t', q, ns', ht, h6, hc, hr, _⟩ := readT_inv h
  injection hr with h1 h2 _
  subst h1 h2
  cases l with
  | nil => exact h
  | cons a l => exact readT_of (term_lay O _ 1200 a l [] ht) h6 hc

theorem clause_ct {O : Ops} {B : List UInt8} {i : Nat} {r : ReadV} {k : Int} (h : clauseS O B i = (r, k, 0)) : ∃ l e t ns, ctF B i [] = .ok (l, e) ∧ readT O l e = (⟨t, ns, e⟩, (e : Int), 0) ∧ r = ⟨t, ns, e⟩ ∧ k = e := by
  unfold clauseS at h
  cases hx : ctoks B i with
  | error p =>
    obtain ⟨e, x⟩ := p
    rw [hx] at h
    injection h with _ h
    injection h with _ h
    exact absurd h (ctoksN_err _ hx)
  | ok p =>
    obtain ⟨l, e⟩ := p
    rw [hx] at h
    simp only at h
    obtain ⟨t, q, ns, ht, h6, hc, hr, hk⟩ := readT_inv h
    exact ⟨l, e, t, ns, hx, readT_of ht h6 hc, hr, hk⟩
theorem clause_of {O : Ops} {B : List UInt8} {i : Nat} {l : List TokV} {e : Nat} {x : ReadV × Int × Int} (h : ctF B i [] = .ok (l, e)) (hr : readT O l e = x) : clauseS O B i = x := by
  unfold clauseS
  rw [show ctoks B i = .ok (l, e) from h]
  exact hr
theorem chk_no4 (t : Tm) : chkT t ≠ 4 := by
  unfold chkT
  split
  · decide
  · split
    · decide
    · split <;> decide
theorem ct_no4 (B : List UInt8) : ∀ (n i : Nat) (acc : List TokV) (e : Nat), acc ≠ [] → i ≤ B.length → B.length + 1 - i ≤ n → ctoksN n B i acc ≠ .error (e, 4)
  | 0, i, _, _, _, hi, h => by omega
  | n + 1, i, acc, e, ha, hi, h => by
    obtain ⟨t, e', x, hs⟩ : ∃ t e x, scanS B i = (t, e, x) := ⟨_, _, _, rfl⟩
    simp only [ctoksN, hs]
    split
    · intro h
      injection h with h
      injection h with _ h
      cases h
    · next h4 =>
      split
      · intro h
        injection h with h
        injection h with _ h
        exact h4 ⟨h, ha⟩
      · next h0 =>
        split
        · intro h
          cases h
        · have hx0 : x = 0 := Decidable.byContradiction fun h => h0 h
          have hst := scanS_step (B := B) (i := i) (by rw [hs]; exact hx0)
          rw [hs] at hst
          simp only at hst
          exact ct_no4 B n e' _ e (by simp) hst.2 (by omega)
theorem clause_4 {O : Ops} {B : List UInt8} {i : Nat} (hi : i ≤ B.length) {r : ReadV} {k : Int} (h : clauseS O B i = (r, k, 4)) : ∃ e : Nat, (scanS B i).2.2 = 4 ∧ (scanS B i).2.1 = e ∧ k = e ∧ r = zeroR := by
  unfold clauseS at h
  cases hx : ctoks B i with
  | error p =>
    obtain ⟨e, x⟩ := p
    rw [hx] at h
    injection h with h0 h
    injection h with h1 h2
    subst h2
    have hx2 : ctF B i [] = .error (e, 4) := hx
    obtain ⟨t, e', x', hs⟩ : ∃ t e x, scanS B i = (t, e, x) := ⟨_, _, _, rfl⟩
    rw [ctF_eq hi hs, if_neg (by simp)] at hx2
    rw [hs]
    split at hx2
    · injection hx2 with hx2
      injection hx2 with h3 h4
      exact ⟨e, h4, h3, h1.symm, h0.symm⟩
    · next hn0 =>
      have hx0 : x' = 0 := Decidable.byContradiction fun h => hn0 h
      split at hx2
      · cases hx2
      · have hst := scanS_step (B := B) (i := i) (by rw [hs]; exact hx0)
        rw [hs] at hst
        simp only at hst
        exact absurd hx2 (ct_no4 B _ e' _ e (by simp) hst.2 (Nat.le_refl _))
  | ok p =>
    obtain ⟨l, e⟩ := p
    rw [hx] at h
    simp only at h
    exfalso
    unfold readT at h
    cases ht : termN O (5 * l.length + 5) 1200 l [] with
    | bad q =>
      rw [ht] at h
      injection h with _ h
      injection h with _ h
      cases h
    | ok t q ns =>
      rw [ht] at h
      simp only at h
      split at h
      · split at h
        · injection h with _ h
          injection h with _ h
          cases h
        · injection h with _ h
          injection h with _ h
          exact chk_no4 t h
      · injection h with _ h
        injection h with _ h
        cases h
theorem clause_none {O : Ops} {B : List UInt8} {i : Nat} (hi : i ≤ B.length) {t : TokV} {e : Nat} (h : scanS B i = (t, e, 4)) : clauseS O B i = (zeroR, (e : Int), 4) := by
  unfold clauseS
  have : ctoks B i = .error (e, 4) := by
    show ctF B i [] = _
    rw [ctF_eq hi h, if_neg (by simp), if_pos (by decide)]
  rw [this]

section
variable {O : Ops} {A B : List UInt8}
theorem jn_eq : joinT A B = (A ++ [10]) ++ B := by simp [joinT]
/-- A clause of the first text. -/
theorem jn_clause {i : Nat} (hi : i ≤ A.length) {r : ReadV} {k : Int} (h : clauseS O A i = (r, k, 0)) : clauseS O (joinT A B) i = (r, k, 0) := by
  obtain ⟨l, e, t, ns, hc, hr, rfl, rfl⟩ := clause_ct h
  exact clause_of (jn_ct A B _ i [] l e (Nat.le_refl _) hi hc) hr
/-- A clause of the second text. -/
theorem jn_second {j : Nat} {r : ReadV} {k : Int} (h : clauseS O B j = (r, k, 0)) : ∃ e : Nat, k = e ∧ clauseS O (joinT A B) (A.length + 1 + j) = ({ r with nx := r.nx + ((A.length + 1 : Nat) : Int) }, ((A.length + 1 + e : Nat) : Int), 0) := by
  obtain ⟨l, e, t, ns, hc, hr, rfl, rfl⟩ := clause_ct h
  refine ⟨e, rfl, ?_⟩
  have h2 := sh_ctF (A ++ [10]) B j
  rw [hc] at h2
  have hlen : (A ++ [10]).length = A.length + 1 := by simp
  rw [hlen] at h2
  have h3 := readT_sh (n := A.length + 1) hr
  have h4 := clause_of (O := O) h2 h3
  rw [jn_eq, h4]
  simp only [Prod.mk.injEq, ReadV.mk.injEq, true_and, and_true]
  omega
theorem jn_second4 {j e : Nat} (hj : j ≤ B.length) {t : TokV} (h : scanS B j = (t, e, 4)) : clauseS O (joinT A B) (A.length + 1 + j) = (zeroR, ((A.length + 1 + e : Nat) : Int), 4) := by
  have h2 := sh_scan (A ++ [10]) B j
  rw [h] at h2
  have hlen : (A ++ [10]).length = A.length + 1 := by simp
  rw [hlen] at h2
  rw [← jn_eq] at h2
  exact clause_none (by rw [jn_len]; omega) h2
/-- Between the two texts. -/
theorem jn_mid {i : Nat} (hi : i ≤ A.length) (h4 : (scanS A i).2.2 = 4) {r : ReadV} {k : Int} (h : clauseS O B 0 = (r, k, 0)) : ∃ e : Nat, k = e ∧ clauseS O (joinT A B) i = ({ r with nx := r.nx + ((A.length + 1 : Nat) : Int) }, ((A.length + 1 + e : Nat) : Int), 0) := by
  obtain ⟨l, e, t, ns, hc, hr, rfl, rfl⟩ := clause_ct h
  refine ⟨e, rfl, ?_⟩
  have h2 := sh_ctF (A ++ [10]) B 0
  rw [hc] at h2
  have hlen : (A ++ [10]).length = A.length + 1 := by simp
  rw [hlen, ← jn_eq] at h2
  have h3 := readT_lay (readT_sh (n := A.length + 1) hr)
  have h5 := lay_ctF (i := i) (by omega) (by rw [jn_len]; omega) (jn_last A B hi h4).2 h2
  rw [clause_of (O := O) h5 h3]
  simp only [Prod.mk.injEq, ReadV.mk.injEq, true_and, and_true]
  omega
theorem jn_mid4 {i : Nat} (hi : i ≤ A.length) (h4 : (scanS A i).2.2 = 4) {t : TokV} {e : Nat} (h : scanS B 0 = (t, e, 4)) : clauseS O (joinT A B) i = (zeroR, ((A.length + 1 + e : Nat) : Int), 4) := by
  have h2 := sh_scan (A ++ [10]) B 0
  rw [h] at h2
  have hlen : (A ++ [10]).length = A.length + 1 := by simp
  rw [hlen, ← jn_eq] at h2
  have h3 := scan_lay (i := i) (j := A.length + 1) (by omega) (jn_last A B hi h4).2
  rw [show A.length + 1 + 0 = A.length + 1 from rfl] at h2
  rw [h2] at h3
  exact clause_none (by rw [jn_len]; omega) h3
end

def rtF (O : Ops) (B : List UInt8) (i : Nat) (acc : List ReadV) : List ReadV × Int × Int := allRN O (B.length + 1 - i) B i acc
theorem allRN_more {O : Ops} {B : List UInt8} (hB : B.length ≤ 65536) : ∀ (n m i : Nat) (acc : List ReadV), i ≤ B.length → B.length + 1 - i ≤ n → n ≤ m → allRN O m B i acc = allRN O n B i acc
  | 0, _, i, _, hi, h, _ => by omega
  | n + 1, 0, _, _, _, _, h => by omega
  | n + 1, m + 1, i, acc, hi, h, hm => by
    simp only [allRN]
    split
    · next h0 =>
      obtain ⟨k, hk, h1, h2⟩ := clauseS_ok hi hB h0
      rw [hk, Int.toNat_natCast]
      exact allRN_more hB n m k _ h2 (by omega) (by omega)
    · rfl
theorem rtF_eq {O : Ops} {B : List UInt8} {i : Nat} {acc : List ReadV} (hB : B.length ≤ 65536) (hi : i ≤ B.length) {r : ReadV} {k x : Int} (h : clauseS O B i = (r, k, x)) :
    (x = 0 → ∃ j : Nat, k = j ∧ i < j ∧ j ≤ B.length ∧ rtF O B i acc = rtF O B j (acc ++ [r])) ∧ (x = 4 → rtF O B i acc = (acc, k, 0)) ∧ (x ≠ 0 → x ≠ 4 → rtF O B i acc = (acc, k, x)) := by
  obtain ⟨n, hn⟩ : ∃ n, B.length + 1 - i = n + 1 := ⟨B.length - i, by omega⟩
  have hok := clauseS_ok (O := O) hi hB
  unfold rtF
  rw [hn]
  simp only [allRN]
  rw [h] at hok ⊢
  simp only at hok ⊢
  refine ⟨fun h0 => ?_, fun h4 => ?_, fun h0 h4 => ?_⟩
  · obtain ⟨j, hj, h1, h2⟩ := hok h0
    refine ⟨j, hj, h1, h2, ?_⟩
    rw [if_pos h0, hj, Int.toNat_natCast]
    exact allRN_more hB _ n j _ h2 (Nat.le_refl _) (by omega)
  · rw [if_neg (by omega), if_pos h4]
  · rw [if_neg h0, if_neg h4]
theorem rtF_pre {O : Ops} {B : List UInt8} (hB : B.length ≤ 65536) : ∀ (m i : Nat) (acc : List ReadV), B.length - i ≤ m → i ≤ B.length → rtF O B i acc = (acc ++ (rtF O B i []).1, (rtF O B i []).2)
  | m, i, acc, hm, hi => by
    obtain ⟨r, k, x, hc⟩ : ∃ r k x, clauseS O B i = (r, k, x) := ⟨_, _, _, rfl⟩
    obtain ⟨a0, a4, ax⟩ := rtF_eq (acc := acc) hB hi hc
    obtain ⟨b0, b4, bx⟩ := rtF_eq (acc := []) hB hi hc
    by_cases h0 : x = 0
    · obtain ⟨j, hj, h1, h2, h3⟩ := a0 h0
      obtain ⟨j', hj', _, _, h3'⟩ := b0 h0
      obtain rfl : j = j' := by omega
      rw [h3, h3']
      cases m with
      | zero => omega
      | succ m =>
        rw [rtF_pre hB m j (acc ++ [r]) (by omega) h2, rtF_pre hB m j ([] ++ [r]) (by omega) h2]
        simp
    · by_cases h4 : x = 4
      · rw [a4 h4, b4 h4]; simp
      · rw [ax h0 h4, bx h0 h4]; simp
section
variable {O : Ops} {A B : List UInt8}
def shR (n : Nat) (r : ReadV) : ReadV := { r with nx := r.nx + ((n : Nat) : Int) }
theorem jn_all2 (hA : A.length ≤ 2000) (hB : B.length ≤ 2000) : ∀ (m j : Nat) (accW ys : List ReadV) (me : Int), B.length - j ≤ m → j ≤ B.length → rtF O B j [] = (ys, me, 0) →
    ∃ e : Nat, me = e ∧ rtF O (joinT A B) (A.length + 1 + j) accW = (accW ++ ys.map (shR (A.length + 1)), ((A.length + 1 + e : Nat) : Int), 0)
  | m, j, accW, ys, me, hm, hj, h => by
    have hW : (joinT A B).length ≤ 65536 := by rw [jn_len]; omega
    obtain ⟨r, k, x, hc⟩ : ∃ r k x, clauseS O B j = (r, k, x) := ⟨_, _, _, rfl⟩
    obtain ⟨b0, b4, bx⟩ := rtF_eq (acc := []) (by omega) hj hc
    by_cases h0 : x = 0
    · subst h0
      obtain ⟨j', hj', h1, h2, h3⟩ := b0 rfl
      obtain ⟨e, he, hcw⟩ := jn_second (A := A) hc
      obtain ⟨a0, _, _⟩ := rtF_eq (acc := accW) hW (by rw [jn_len]; omega) hcw
      obtain ⟨jw, hjw, _, _, h4⟩ := a0 rfl
      obtain rfl : jw = A.length + 1 + j' := by omega
      rw [h3, rtF_pre (by omega) _ j' _ (Nat.le_refl _) h2] at h
      obtain ⟨ys', me', x', hys⟩ : ∃ ys' me' x', rtF O B j' [] = (ys', me', x') := ⟨_, _, _, rfl⟩
      rw [hys] at h
      injection h with g1 g2
      injection g2 with g2 g3
      subst g3
      cases m with
      | zero => omega
      | succ m =>
        obtain ⟨e2, he2, hr⟩ := jn_all2 hA hB m j' (accW ++ [shR (A.length + 1) r]) ys' me' (by omega) h2 hys
        refine ⟨e2, by rw [← g2]; exact he2, ?_⟩
        rw [h4]
        show rtF O (joinT A B) (A.length + 1 + j') (accW ++ [shR (A.length + 1) r]) = _
        rw [hr, ← g1]
        simp
    · by_cases h4 : x = 4
      · subst h4
        obtain ⟨e, hs4, hse, hke, _⟩ := clause_4 hj hc
        rw [b4 rfl] at h
        injection h with g1 g2
        injection g2 with g2 _
        have hcw := jn_second4 (O := O) (A := A) hj (show scanS B j = ((scanS B j).1, e, 4) from by rw [← hse, ← hs4])
        obtain ⟨_, a4, _⟩ := rtF_eq (acc := accW) hW (by rw [jn_len]; omega) hcw
        refine ⟨e, by rw [← g2]; exact hke, ?_⟩
        rw [a4 rfl, ← g1]
        simp
      · rw [bx h0 h4] at h
        injection h with _ g2
        injection g2 with _ g3
        exact absurd g3 h0
theorem jn_all1 (hA : A.length ≤ 2000) (hB : B.length ≤ 2000) {ys : List ReadV} {me : Int} (hb : rtF O B 0 [] = (ys, me, 0)) : ∀ (m i : Nat) (acc xs : List ReadV) (n : Int), A.length - i ≤ m → i ≤ A.length → rtF O A i acc = (xs, n, 0) →
    n = A.length ∧ ∃ e : Nat, me = e ∧ rtF O (joinT A B) i acc = (xs ++ ys.map (shR (A.length + 1)), ((A.length + 1 + e : Nat) : Int), 0)
  | m, i, acc, xs, n, hm, hi, h => by
    have hW : (joinT A B).length ≤ 65536 := by rw [jn_len]; omega
    obtain ⟨r, k, x, hc⟩ : ∃ r k x, clauseS O A i = (r, k, x) := ⟨_, _, _, rfl⟩
    obtain ⟨b0, b4, bx⟩ := rtF_eq (acc := acc) (by omega) hi hc
    by_cases h0 : x = 0
    · subst h0
      obtain ⟨j, hj, h1, h2, h3⟩ := b0 rfl
      obtain ⟨a0, _, _⟩ := rtF_eq (acc := acc) hW (by rw [jn_len]; omega) (jn_clause (B := B) hi hc)
      obtain ⟨jw, hjw, _, _, h4⟩ := a0 rfl
      obtain rfl : jw = j := by omega
      cases m with
      | zero => omega
      | succ m =>
        rw [h3] at h
        rw [h4]
        exact jn_all1 hA hB hb m jw (acc ++ [r]) xs n (by omega) h2 h
    · by_cases h4 : x = 4
      · subst h4
        obtain ⟨e, hs4, hse, hke, _⟩ := clause_4 hi hc
        rw [b4 rfl] at h
        injection h with g1 g2
        injection g2 with g2 _
        have hl := (jn_last A B hi hs4).1
        refine ⟨by rw [← g2, hke]; omega, ?_⟩
        obtain ⟨r2, k2, x2, hc2⟩ : ∃ r k x, clauseS O B 0 = (r, k, x) := ⟨_, _, _, rfl⟩
        obtain ⟨c0, c4, cx⟩ := rtF_eq (acc := []) (by omega) (Nat.zero_le _) hc2
        by_cases h02 : x2 = 0
        · subst h02
          obtain ⟨j', hj', h1, h2, h3⟩ := c0 rfl
          obtain ⟨e2, he2, hcw⟩ := jn_mid (A := A) hi hs4 hc2
          obtain ⟨a0, _, _⟩ := rtF_eq (acc := acc) hW (by rw [jn_len]; omega) hcw
          obtain ⟨jw, hjw, _, _, h5⟩ := a0 rfl
          obtain rfl : jw = A.length + 1 + j' := by omega
          rw [h3, rtF_pre (by omega) _ j' _ (Nat.le_refl _) h2] at hb
          obtain ⟨ys', me', x', hys⟩ : ∃ ys' me' x', rtF O B j' [] = (ys', me', x') := ⟨_, _, _, rfl⟩
          rw [hys] at hb
          injection hb with f1 f2
          injection f2 with f2 f3
          subst f3
          obtain ⟨e3, he3, hr⟩ := jn_all2 hA hB _ j' (acc ++ [shR (A.length + 1) r2]) ys' me' (Nat.le_refl _) h2 hys
          refine ⟨e3, by rw [← f2]; exact he3, ?_⟩
          rw [h5]
          show rtF O (joinT A B) (A.length + 1 + j') (acc ++ [shR (A.length + 1) r2]) = _
          rw [hr, ← f1, ← g1]
          simp
        · by_cases h42 : x2 = 4
          · subst h42
            obtain ⟨e2, t4, te, tk, _⟩ := clause_4 (Nat.zero_le _) hc2
            rw [c4 rfl] at hb
            injection hb with f1 f2
            injection f2 with f2 _
            have hcw := jn_mid4 (O := O) hi hs4 (show scanS B 0 = ((scanS B 0).1, e2, 4) from by rw [← te, ← t4])
            obtain ⟨_, a4, _⟩ := rtF_eq (acc := acc) hW (by rw [jn_len]; omega) hcw
            refine ⟨e2, by rw [← f2]; exact tk, ?_⟩
            rw [a4 rfl, ← f1, ← g1]
            simp
          · rw [cx h02 h42] at hb
            injection hb with _ f2
            injection f2 with _ f3
            exact absurd f3 h02
      · rw [bx h0 h4] at h
        injection h with _ g2
        injection g2 with _ g3
        exact absurd g3 h0
/-- The clauses of the two texts. -/
theorem all_join (hA : A.length ≤ 2000) (hB : B.length ≤ 2000) {xs ys : List ReadV} {n m : Int} (ha : allR O A = (xs, n, 0)) (hb : allR O B = (ys, m, 0)) : allR O (joinT A B) = (xs ++ ys.map (fun r => { r with nx := r.nx + n + 1 }), n + 1 + m, 0) := by
  obtain ⟨hn, e, he, h⟩ := jn_all1 hA hB (show rtF O B 0 [] = _ from hb) _ 0 [] xs n (Nat.le_refl _) (Nat.zero_le _) ha
  have h2 : allR O (joinT A B) = _ := h
  rw [h2]
  have hf : (fun r : ReadV => ({ r with nx := r.nx + n + 1 } : ReadV)) = shR (A.length + 1) := by
    funext r
    unfold shR
    simp only [ReadV.mk.injEq, true_and]
    omega
  rw [hf]
  simp only [Prod.mk.injEq, true_and, and_true]
  omega
end
end Go.El
