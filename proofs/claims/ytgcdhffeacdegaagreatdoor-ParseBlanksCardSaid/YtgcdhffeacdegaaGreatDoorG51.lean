/- Layer 10, plain: more blanks change nothing. -/
import Derived.Test.YtgcdhffeacdegaaGreatDoorG49
namespace Go.El
open Go.Proofs.YtgcdhffeacdegaaGreatDoor

/-- The second text has more blanks, where blanks stand. -/
inductive Wd : List UInt8 → List UInt8 → Prop
  | nil : Wd [] []
  | cons (c : UInt8) {l m : List UInt8} : Wd l m → Wd (c :: l) (c :: m)
  | more {l m : List UInt8} : Wd (32 :: l) m → Wd (32 :: l) (32 :: m)
theorem Wd.refl : ∀ l, Wd l l
  | [] => .nil
  | c :: l => .cons c (Wd.refl l)
theorem Wd.head {l m : List UInt8} (h : Wd l m) : l[0]? = m[0]? := by
  cases h with
  | nil => rfl
  | cons c h => rfl
  | more h => rfl
/-- A byte that begins neither a quote nor a comment. -/
def okC (c : UInt8) : Prop := c ≠ 39 ∧ c ≠ 37 ∧ c ≠ 47
/-- Bytes of a kind that no blank is of. -/
theorem Wd.row {p : UInt8 → Bool} (hp : p 32 = false) {l m : List UInt8} (h : Wd l m) : l.takeWhile p = m.takeWhile p ∧ Wd (l.drop (l.takeWhile p).length) (m.drop (l.takeWhile p).length) := by
  induction h with
  | nil => exact ⟨rfl, .nil⟩
  | @cons c l m h ih =>
    rw [List.takeWhile_cons, List.takeWhile_cons]
    cases hc : p c
    · exact ⟨rfl, .cons c h⟩
    · simp only [if_true, List.length_cons, List.drop_succ_cons]
      exact ⟨by rw [ih.1], ih.2⟩
  | @more l m h ih =>
    rw [List.takeWhile_cons, List.takeWhile_cons, hp]
    exact ⟨rfl, .more h⟩

/-- Tokens that are the same but for their places. -/
def z0 (t : TokV) : TokV := { t with at_ := 0 }
theorem z0_lay {t t2 : TokV} (h : z0 t = z0 t2) : z0 { t with lay := true } = z0 { t2 with lay := true } := by
  unfold z0 at h ⊢
  simp only [TokV.mk.injEq] at h ⊢
  exact ⟨h.1, h.2.1, h.2.2.1, trivial, trivial⟩
theorem z0_all {t t2 : TokV} (h : z0 t = z0 t2) : t.kind = t2.kind ∧ t.lay = t2.lay := by
  unfold z0 at h
  simp only [TokV.mk.injEq] at h
  exact ⟨h.1, h.2.2.2.2⟩
/-- What comes of two scans. -/
structure ScW (l m : List UInt8) : Prop where
  code : (scanS l 0).2.2 = (scanS m 0).2.2
  tok : (scanS l 0).2.2 = 0 → z0 (scanS l 0).1 = z0 (scanS m 0).1 ∧ Wd (l.drop (scanS l 0).2.1) (m.drop (scanS m 0).2.1)
theorem scan_blank (c : UInt8) (hc : isBlank c = true) (l : List UInt8) : (scanS (c :: l) 0).2.2 = (scanS l 0).2.2 ∧ ((scanS l 0).2.2 = 0 → z0 (scanS (c :: l) 0).1 = z0 { (scanS l 0).1 with lay := true } ∧ (scanS (c :: l) 0).2.1 = 1 + (scanS l 0).2.1) := by
  have h0 : (c :: l)[0]? = some c := rfl
  have hs : skipTo (c :: l) 0 = skipTo (c :: l) 1 := by rw [skipTo_eq h0, if_pos hc]
  have h1 := scan_lay (W := c :: l) (i := 0) (j := 1) (by omega) hs
  have h2 : scanS (c :: l) 1 = shScan 1 (scanS l 0) := sh_scan [c] l 0
  rw [h1, h2]
  refine ⟨rfl, fun h => ?_⟩
  simp only [shScan, h, if_true]
  exact ⟨rfl, trivial⟩
theorem ends_eq {l m : List UInt8} (h : Wd l m) (c d : UInt8) : endsS (d :: l) 0 c = endsS (d :: m) 0 c := by
  unfold endsS
  have := h.head
  simp only [Nat.zero_add, List.getElem?_cons_succ]
  rw [this]
theorem row_eq {p : UInt8 → Bool} (hp : p 32 = false) {l m : List UInt8} (h : Wd l m) : rowTo p l 0 = rowTo p m 0 ∧ sub l 0 (rowTo p l 0) = sub m 0 (rowTo p m 0) ∧ Wd (l.drop (rowTo p l 0)) (m.drop (rowTo p m 0)) := by
  obtain ⟨h1, h2⟩ := h.row hp
  have e1 : ∀ l : List UInt8, rowTo p l 0 = (l.takeWhile p).length := by intro l; unfold rowTo; simp
  have e2 : ∀ l : List UInt8, l.take (l.takeWhile p).length = l.takeWhile p := by
    intro l
    exact (List.prefix_iff_eq_take.1 (List.takeWhile_prefix p)).symm
  refine ⟨by rw [e1, e1, h1], ?_, by rw [e1, e1, ← h1]; exact h2⟩
  unfold sub
  rw [e1, e1, Nat.sub_zero, Nat.sub_zero, List.drop_zero, List.drop_zero, e2, e2, h1]
/-- The token at a place. -/
theorem one_wd {l m : List UInt8} (h : Wd l m) {c : UInt8} (hc : c ≠ 39) : oneS (c :: l) 0 c = oneS (c :: m) 0 c ∧ ∀ kd s n e, oneS (c :: l) 0 c = .ok (kd, s, n, e) → Wd ((c :: l).drop e) ((c :: m).drop e) := by
  have hw := Wd.cons c h
  obtain ⟨a1, a2, a3⟩ := row_eq (p := isWord) (by decide) hw
  obtain ⟨b1, b2, b3⟩ := row_eq (p := isSign) (by decide) hw
  obtain ⟨d1, d2, d3⟩ := row_eq (p := isDigit) (by decide) hw
  have hn : ∀ (k : Int) (s : List UInt8) (e : Nat) (kd : Int) (s' : List UInt8) (n : Int) (e' : Nat), nameS k s e = .ok (kd, s', n, e') → e' = e := by
    intro k s e kd s' n e' h
    unfold nameS at h
    split at h
    · cases h
    · injection h with h
      injection h with _ h
      injection h with _ h
      injection h with _ h
      exact h.symm
  refine ⟨?_, fun kd s n e ho => ?_⟩
  · unfold oneS
    rw [ends_eq h c c, a2, a1, b2, b1, d2, d1]
    simp only [if_neg hc]
  · unfold oneS at ho
    have h1 : Wd ((c :: l).drop (0 + 1)) ((c :: m).drop (0 + 1)) := h
    have a4 : Wd ((c :: l).drop (rowTo isWord (c :: l) 0)) ((c :: m).drop (rowTo isWord (c :: l) 0)) := by rw [a1] at a3 ⊢; exact a3
    have b4 : Wd ((c :: l).drop (rowTo isSign (c :: l) 0)) ((c :: m).drop (rowTo isSign (c :: l) 0)) := by rw [b1] at b3 ⊢; exact b3
    have d4 : Wd ((c :: l).drop (rowTo isDigit (c :: l) 0)) ((c :: m).drop (rowTo isDigit (c :: l) 0)) := by rw [d1] at d3 ⊢; exact d3
    split at ho
    · rw [hn _ _ _ _ _ _ _ ho]; exact h1
    · split at ho
      · rw [hn _ _ _ _ _ _ _ ho]; exact a4
      · split at ho
        · rw [hn _ _ _ _ _ _ _ ho]; exact b4
        · split at ho
          · rw [hn _ _ _ _ _ _ _ ho]; exact h1
          · split at ho
            · split at ho
              · injection ho with ho
                injection ho with _ ho
                injection ho with _ ho
                injection ho with _ ho
                rw [← ho]
                exact d4
              · cases ho
            · split at ho
              · rw [hn _ _ _ _ _ _ _ ho]; exact a4
              · split at ho
                · rw [hn _ _ _ _ _ _ _ ho]; exact h1
                · first
                    | cases ho
                    | (rw [if_neg hc] at ho; cases ho)
theorem scan_wd {l m : List UInt8} (h : Wd l m) (hl : ∀ c ∈ l, okC c) : ScW l m := by
  induction h with
  | nil => exact ⟨rfl, fun _ => ⟨rfl, Wd.refl _⟩⟩
  | @cons c l m h ih =>
    have ih := ih (fun d hd => hl d (List.mem_cons_of_mem _ hd))
    cases hb : isBlank c
    · obtain ⟨k1, k2, k3⟩ := hl c (by simp)
      have s1 : skipTo (c :: l) 0 = (0, true) := skip_none (B := c :: l) rfl hb k2 (fun e => k3 e.1)
      have s2 : skipTo (c :: m) 0 = (0, true) := skip_none (B := c :: m) rfl hb k2 (fun e => k3 e.1)
      obtain ⟨o1, o2⟩ := one_wd h k1
      cases ho : oneS (c :: l) 0 c with
      | error x =>
        have e1 := scanS_err s1 rfl ho
        have e2 := scanS_err s2 rfl (o1.symm.trans ho)
        refine ⟨by rw [e1, e2], fun hx => ?_⟩
        rw [e1] at hx
        rcases oneS_err ho with rfl | rfl | rfl <;> cases hx
      | ok r =>
        obtain ⟨kd, s, n, e⟩ := r
        have e1 := scanS_ok s1 rfl ho
        have e2 := scanS_ok s2 rfl (o1.symm.trans ho)
        refine ⟨by rw [e1, e2], fun _ => ?_⟩
        rw [e1, e2]
        exact ⟨rfl, o2 _ _ _ _ ho⟩
    · obtain ⟨x1, y1⟩ := scan_blank c hb l
      obtain ⟨x2, y2⟩ := scan_blank c hb m
      refine ⟨by rw [x1, x2]; exact ih.code, fun h0 => ?_⟩
      rw [x1] at h0
      obtain ⟨t1, t2⟩ := ih.tok h0
      obtain ⟨u1, u2⟩ := y1 h0
      obtain ⟨v1, v2⟩ := y2 (by rw [← ih.code]; exact h0)
      refine ⟨?_, ?_⟩
      · rw [u1, v1]
        exact z0_lay t1
      · rw [u2, v2, Nat.add_comm 1, Nat.add_comm 1, List.drop_succ_cons, List.drop_succ_cons]
        exact t2
  | @more l m h ih =>
    have ih := ih hl
    obtain ⟨x1, y1⟩ := scan_blank 32 (by decide) l
    obtain ⟨x2, y2⟩ := scan_blank 32 (by decide) m
    refine ⟨by rw [x2]; exact ih.code, fun h0 => ?_⟩
    obtain ⟨t1, t2⟩ := ih.tok h0
    obtain ⟨u1, u2⟩ := y1 (by rw [← x1]; exact h0)
    obtain ⟨v1, v2⟩ := y2 (by rw [← ih.code]; exact h0)
    refine ⟨?_, ?_⟩
    · rw [v1, u1]
      rw [u1] at t1
      exact z0_lay (t := { (scanS l 0).1 with lay := true }) t1
    · rw [v2, Nat.add_comm 1, List.drop_succ_cons]
      exact t2

theorem scan_drop (B : List UInt8) (i : Nat) (hi : i ≤ B.length) : scanS B i = shScan i (scanS (B.drop i) 0) := by
  have h := sh_scan (B.take i) (B.drop i) 0
  rw [List.take_append_drop, List.length_take, Nat.min_eq_left hi] at h
  exact h
/-- Two texts from a place on. -/
structure At2 (B C : List UInt8) (i j : Nat) : Prop where
  wd : Wd (B.drop i) (C.drop j)
  ok : ∀ c ∈ B.drop i, okC c
  li : i ≤ B.length
  lj : j ≤ C.length
theorem At2.scan {B C : List UInt8} {i j : Nat} (h : At2 B C i j) : (scanS B i).2.2 = (scanS C j).2.2 ∧ ((scanS B i).2.2 = 0 → z0 (scanS B i).1 = z0 (scanS C j).1 ∧ At2 B C (scanS B i).2.1 (scanS C j).2.1) := by
  have hs := scan_wd h.wd h.ok
  have e1 := scan_drop B i h.li
  have e2 := scan_drop C j h.lj
  have c1 : (scanS B i).2.2 = (scanS (B.drop i) 0).2.2 := by rw [e1]; rfl
  have c2 : (scanS C j).2.2 = (scanS (C.drop j) 0).2.2 := by rw [e2]; rfl
  refine ⟨by rw [c1, c2]; exact hs.code, fun h0 => ?_⟩
  have h00 : (scanS (B.drop i) 0).2.2 = 0 := by rw [← c1]; exact h0
  have h01 : (scanS (C.drop j) 0).2.2 = 0 := by rw [← hs.code]; exact h00
  obtain ⟨t1, t2⟩ := hs.tok h00
  have p1 : (scanS B i).2.1 = i + (scanS (B.drop i) 0).2.1 := by rw [e1]; rfl
  have p2 : (scanS C j).2.1 = j + (scanS (C.drop j) 0).2.1 := by rw [e2]; rfl
  refine ⟨?_, ⟨?_, ?_, ?_, ?_⟩⟩
  · rw [e1, e2]
    simp only [shScan, h00, h01, if_true]
    exact t1
  · rw [p1, p2, ← List.drop_drop, ← List.drop_drop]
    exact t2
  · intro c hc
    rw [p1, ← List.drop_drop] at hc
    exact h.ok c (List.mem_of_mem_drop hc)
  · exact scanS_le h.li
  · exact scanS_le h.lj
/-- What comes of the tokens of two clauses. -/
def CtW (B C : List UInt8) : Except (Nat × Int) (List TokV × Nat) → Except (Nat × Int) (List TokV × Nat) → Prop
  | .error a, .error b => a.2 = b.2
  | .ok a, .ok b => a.1.map z0 = b.1.map z0 ∧ At2 B C a.2 b.2
  | _, _ => False
theorem map_nil_iff {α β : Type} {f : α → β} {l m : List α} (h : l.map f = m.map f) : l ≠ [] ↔ m ≠ [] := by
  have := congrArg List.length h
  simp only [List.length_map] at this
  cases l <;> cases m <;> simp_all
theorem ct_wd {B C : List UInt8} : ∀ (n i j : Nat) (a1 a2 : List TokV), B.length + 1 - i ≤ n → At2 B C i j → a1.map z0 = a2.map z0 → CtW B C (ctF B i a1) (ctF C j a2)
  | 0, i, j, _, _, hn, h, _ => by have := h.li; omega
  | n + 1, i, j, a1, a2, hn, h, ha => by
    obtain ⟨hc, ht⟩ := h.scan
    have hlt := fun g => scanS_step (B := B) (i := i) g
    obtain ⟨t, e, x, hs⟩ : ∃ t e x, scanS B i = (t, e, x) := ⟨_, _, _, rfl⟩
    obtain ⟨t2, e2, x2, hs2⟩ : ∃ t e x, scanS C j = (t, e, x) := ⟨_, _, _, rfl⟩
    rw [hs, hs2] at hc ht
    rw [hs] at hlt
    simp only at hc ht hlt
    subst hc
    rw [ctF_eq h.li hs, ctF_eq h.lj hs2]
    by_cases h4 : x = 4 ∧ a1 ≠ []
    · rw [if_pos h4, if_pos ⟨h4.1, (map_nil_iff ha).1 h4.2⟩]
      rfl
    · have h5 : ¬ (x = 4 ∧ a2 ≠ []) := fun g => h4 ⟨g.1, (map_nil_iff ha).2 g.2⟩
      rw [if_neg h4, if_neg h5]
      by_cases h0 : x = 0
      · subst h0
        obtain ⟨k1, k2⟩ := ht rfl
        obtain ⟨k3, k4⟩ := hlt rfl
        obtain ⟨k5, _⟩ := z0_all k1
        have ha2 : (a1 ++ [t]).map z0 = (a2 ++ [t2]).map z0 := by simp [ha, k1]
        rw [if_neg (show ¬ (0 : Int) ≠ 0 by simp), if_neg (show ¬ (0 : Int) ≠ 0 by simp)]
        by_cases hk : t.kind = 6
        · have hk2 : t2.kind = 6 := by rw [← k5]; exact hk
          rw [if_pos hk, if_pos hk2]
          exact ⟨ha2, k2⟩
        · have hk2 : ¬ t2.kind = 6 := by rw [← k5]; exact hk
          rw [if_neg hk, if_neg hk2]
          exact ct_wd n e e2 _ _ (by omega) k2 ha2
      · rw [if_pos (show x ≠ 0 from h0), if_pos (show x ≠ 0 from h0)]
        rfl

/-- Two readings that come to the same. -/
def RdW (a b : ReadV × Int × Int) : Prop := a.1.t = b.1.t ∧ a.2.2 = b.2.2
theorem read_wd {O : Ops} {l m : List TokV} (h : l.map z0 = m.map z0) (e e2 : Nat) : RdW (readT O l e) (readT O m e2) := by
  have hz := fun l : List TokV => (zed_all (O := O) (z := z0) (fun _ => rfl) (fun _ => rfl) (fun _ => rfl) (fun _ => rfl) (5 * l.length + 5)).term 1200 l []
  have hlen : l.length = m.length := by have := congrArg List.length h; simpa using this
  have h1 := hz l
  have h2 := hz m
  rw [h, hlen, h2] at h1
  unfold readT
  rw [hlen]
  cases ht : termN O (5 * m.length + 5) 1200 l [] with
  | bad q =>
    rw [ht] at h1
    cases ht2 : termN O (5 * m.length + 5) 1200 m [] with
    | bad q2 => exact ⟨rfl, rfl⟩
    | ok t2 q2 ns2 =>
      rw [ht2] at h1
      cases h1
  | ok t q ns =>
    rw [ht] at h1
    cases ht2 : termN O (5 * m.length + 5) 1200 m [] with
    | bad q2 =>
      rw [ht2] at h1
      cases h1
    | ok t2 q2 ns2 =>
      rw [ht2] at h1
      simp only [PR.map] at h1
      injection h1 with g1 g2 g3
      subst g1 g3
      have hq : (q.map TokV.kind).head? = (q2.map TokV.kind).head? := by
        cases q <;> cases q2
        · rfl
        · cases g2
        · cases g2
        · injection g2 with g2 _
          obtain ⟨k5, _⟩ := z0_all g2
          simp [k5]
      simp only
      rw [hq]
      split
      · split
        · exact ⟨rfl, rfl⟩
        · exact ⟨rfl, rfl⟩
      · exact ⟨rfl, rfl⟩
theorem term_lay2 (O : Ops) (f : Nat) (most : Int) (t : TokV) (b : Bool) (r : List TokV) (ns : List ByteArray) {u : Tm} {q : List TokV} {ms : List ByteArray} (h : termN O f most (t :: r) ns = .ok u q ms) : termN O f most ({ t with lay := b } :: r) ns = .ok u q ms := by
  cases f with
  | zero => simp only [termN] at h; cases h
  | succ f =>
    simp only [termN] at h ⊢
    have key : ∀ a q2 m2, operN O f most (t :: r) ns = .ok a q2 m2 → operN O f most ({ t with lay := b } :: r) ns = .ok a q2 m2 := by
      intro a q2 m2 h
      cases f with
      | zero => simp only [operN] at h; cases h
      | succ f =>
        simp only [operN] at h ⊢
        split at h
        · next h5 =>
          rw [if_pos h5]
          cases f with
          | zero => simp only [bracN] at h; cases h
          | succ f =>
            simp only [bracN] at h ⊢
            split at h
            · next h1 => rw [if_pos h1]; exact h
            · next h1 =>
              rw [if_neg h1]
              split at h
              · next h2 => rw [if_pos h2]; exact h
              · next h2 =>
                rw [if_neg h2]
                split at h
                · next h3 => rw [if_pos h3]; exact h
                · cases h
        · next h5 =>
          rw [if_neg h5]
          split at h
          · cases h
          · next h6 =>
            rw [if_neg h6]
            exact h
    cases ho : operN O f most (t :: r) ns with
    | bad q2 => rw [ho] at h; cases h
    | ok a q2 m2 =>
      rw [ho] at h
      rw [key a q2 m2 ho]
      exact h
theorem read_lay2 {O : Ops} (l : List TokV) (e e2 : Nat) : RdW (readT O l e) (readT O (layHead l) e2) := by
  cases l with
  | nil => exact read_wd rfl e e2
  | cons t r =>
    have hl : layHead (t :: r) = { t with lay := true } :: r := rfl
    rw [hl]
    have hback : { ({ t with lay := true } : TokV) with lay := t.lay } = t := rfl
    unfold readT
    rw [show ({ t with lay := true } :: r).length = (t :: r).length from rfl]
    cases ht : termN O (5 * (t :: r).length + 5) 1200 (t :: r) [] with
    | ok u q ns =>
      rw [term_lay2 O _ _ t true r [] ht]
      simp only
      split
      · split
        · exact ⟨rfl, rfl⟩
        · exact ⟨rfl, rfl⟩
      · exact ⟨rfl, rfl⟩
    | bad q =>
      cases ht2 : termN O (5 * (t :: r).length + 5) 1200 ({ t with lay := true } :: r) [] with
      | bad q2 => exact ⟨rfl, rfl⟩
      | ok u q2 ns =>
        have := term_lay2 O _ _ _ t.lay r [] ht2
        rw [hback, ht] at this
        cases this

/-- What comes of two clauses. -/
structure ClW (B C : List UInt8) (a b : ReadV × Int × Int) : Prop where
  same : RdW a b
  next : a.2.2 = 0 → ∃ e e2 : Nat, a.2.1 = e ∧ b.2.1 = e2 ∧ At2 B C e e2
theorem readT_end {O : Ops} {l : List TokV} {e : Nat} (h : (readT O l e).2.2 = 0) : (readT O l e).2.1 = e := by
  obtain ⟨r, k, x, hr⟩ : ∃ r k x, readT O l e = (r, k, x) := ⟨_, _, _, rfl⟩
  rw [hr] at h ⊢
  simp only at h ⊢
  subst h
  obtain ⟨_, _, _, _, _, _, _, hk⟩ := readT_inv hr
  exact hk
theorem clause_wd {O : Ops} {B C : List UInt8} {i j : Nat} (h : At2 B C i j) : ClW B C (clauseS O B i) (clauseS O C j) := by
  have hc := ct_wd (B := B) (C := C) _ i j [] [] (Nat.le_refl _) h rfl
  unfold clauseS
  rw [show ctoks B i = ctF B i [] from rfl, show ctoks C j = ctF C j [] from rfl]
  cases h1 : ctF B i [] with
  | error a =>
    cases h2 : ctF C j [] with
    | error b =>
      rw [h1, h2] at hc
      obtain ⟨e, x⟩ := a
      obtain ⟨e2, x2⟩ := b
      have hx : x = x2 := hc
      subst hx
      have hx0 : x ≠ 0 := ctoksN_err _ (show ctoksN _ B i [] = _ from h1)
      exact ⟨⟨rfl, rfl⟩, fun g => absurd g hx0⟩
    | ok b => rw [h1, h2] at hc; exact hc.elim
  | ok a =>
    cases h2 : ctF C j [] with
    | error b => rw [h1, h2] at hc; exact hc.elim
    | ok b =>
      rw [h1, h2] at hc
      obtain ⟨l, e⟩ := a
      obtain ⟨m, e2⟩ := b
      obtain ⟨g1, g2⟩ : l.map z0 = m.map z0 ∧ At2 B C e e2 := hc
      have hr := read_wd (O := O) g1 e e2
      refine ⟨hr, fun h0 => ⟨e, e2, readT_end h0, readT_end ?_, g2⟩⟩
      rw [← hr.2]
      exact h0
theorem lt_fuel {b i e n : Nat} (h : b + 1 - i ≤ n + 1) (g : i < e) : b + 1 - e ≤ n := by omega
theorem rt_wd {O : Ops} {B C : List UInt8} (hB : B.length ≤ 65536) (hC : C.length ≤ 65536) : ∀ (n i j : Nat) (a1 a2 : List ReadV), B.length + 1 - i ≤ n → At2 B C i j → a1.map ReadV.t = a2.map ReadV.t → (rtF O B i a1).1.map ReadV.t = (rtF O C j a2).1.map ReadV.t ∧ (rtF O B i a1).2.2 = (rtF O C j a2).2.2
  | 0, i, j, _, _, hn, h, _ => by have := h.li; omega
  | n + 1, i, j, a1, a2, hn, h, ha => by
    have hc := clause_wd (O := O) h
    obtain ⟨r, k, x, h1⟩ : ∃ r k x, clauseS O B i = (r, k, x) := ⟨_, _, _, rfl⟩
    obtain ⟨r2, k2, x2, h2⟩ : ∃ r k x, clauseS O C j = (r, k, x) := ⟨_, _, _, rfl⟩
    rw [h1, h2] at hc
    obtain ⟨⟨g1, g2⟩, g3⟩ := hc
    simp only at g1 g2 g3
    subst g2
    obtain ⟨b0, b4, bx⟩ := rtF_eq (acc := a1) hB h.li h1
    obtain ⟨c0, c4, cx⟩ := rtF_eq (acc := a2) hC h.lj h2
    by_cases h0 : x = 0
    · subst h0
      obtain ⟨e, e2, p1, p2, p3⟩ := g3 rfl
      obtain ⟨e', q1, q2, q3, q4⟩ := b0 rfl
      obtain ⟨e2', s1, s2, s3, s4⟩ := c0 rfl
      obtain rfl : e = e' := Int.ofNat.inj (p1.symm.trans q1)
      obtain rfl : e2 = e2' := Int.ofNat.inj (p2.symm.trans s1)
      rw [q4, s4]
      exact rt_wd hB hC n e e2 _ _ (lt_fuel hn q2) p3 (by simp [ha, g1])
    · by_cases h4 : x = 4
      · rw [b4 h4, c4 h4]
        exact ⟨ha, rfl⟩
      · rw [bx h0 h4, cx h0 h4]
        exact ⟨ha, rfl⟩

theorem ct_head2 (B : List UInt8) : ∀ (n i : Nat) (a a' : TokV) (acc : List TokV), ctoksN n B i (a' :: acc) = (match ctoksN n B i (a :: acc) with | .error p => .error p | .ok p => .ok (a' :: p.1.tail, p.2))
  | 0, _, _, _, _ => rfl
  | n + 1, i, a, a', acc => by
    obtain ⟨t, e, x, hs⟩ : ∃ t e x, scanS B i = (t, e, x) := ⟨_, _, _, rfl⟩
    simp only [ctoksN, hs]
    by_cases h4 : x = 4
    · have g1 : x = 4 ∧ a :: acc ≠ [] := ⟨h4, by simp⟩
      have g2 : x = 4 ∧ a' :: acc ≠ [] := ⟨h4, by simp⟩
      rw [if_pos g1, if_pos g2]
    · have g1 : ¬ (x = 4 ∧ a :: acc ≠ []) := fun h => h4 h.1
      have g2 : ¬ (x = 4 ∧ a' :: acc ≠ []) := fun h => h4 h.1
      rw [if_neg g1, if_neg g2]
      by_cases h0 : x ≠ 0
      · rw [if_pos h0, if_pos h0]
      · rw [if_neg h0, if_neg h0]
        by_cases hk : t.kind = 6
        · rw [if_pos hk, if_pos hk]
          rfl
        · rw [if_neg hk, if_neg hk]
          exact ct_head2 B n e a a' (acc ++ [t])
theorem lay_ct2 {W : List UInt8} {i j : Nat} (hij : i < j) (hj : j ≤ W.length) (hs : skipTo W i = skipTo W j) : ctF W i [] = (match ctF W j [] with | .error p => .error p | .ok p => .ok (layHead p.1, p.2)) := by
  obtain ⟨t, e, x, hsc⟩ : ∃ t e x, scanS W j = (t, e, x) := ⟨_, _, _, rfl⟩
  have h2 := scan_lay hij hs
  rw [hsc] at h2
  simp only at h2
  rw [ctF_eq hj hsc, ctF_eq (by omega) h2]
  rw [if_neg (show ¬ (x = 4 ∧ ([] : List TokV) ≠ []) by simp), if_neg (show ¬ (x = 4 ∧ ([] : List TokV) ≠ []) by simp)]
  by_cases h0 : x = 0
  · subst h0
    simp only [ne_eq, not_true_eq_false, if_false, if_true, List.nil_append]
    by_cases hk : t.kind = 6
    · rw [if_pos hk, if_pos hk]
      rfl
    · rw [if_neg hk, if_neg hk]
      unfold ctF
      rw [ct_head2 W _ e t { t with lay := true } []]
      cases h3 : ctoksN (W.length + 1 - e) W e [t] with
      | error p => rfl
      | ok p =>
        obtain ⟨l, k⟩ := p
        obtain ⟨l', rfl, _⟩ := ct_head W _ e t { t with lay := true } [] l k h3
        rfl
  · rw [if_pos (show x ≠ 0 from h0), if_pos (show x ≠ 0 from h0)]
theorem clause_lay2 {O : Ops} {P B : List UInt8} (hP : 0 < P.length) (hs : skipTo (P ++ B) 0 = skipTo (P ++ B) P.length) : RdW (clauseS O B 0) (clauseS O (P ++ B) 0) ∧ ((clauseS O B 0).2.2 = 0 → ∃ e : Nat, (clauseS O B 0).2.1 = e ∧ (clauseS O (P ++ B) 0).2.1 = ((P.length + e : Nat) : Int)) := by
  have h1 := lay_ct2 (W := P ++ B) (i := 0) (j := P.length) hP (by simp) hs
  have h2 := sh_ctF P B 0
  rw [Nat.add_zero] at h2
  rw [h2] at h1
  unfold clauseS
  rw [show ctoks B 0 = ctF B 0 [] from rfl, show ctoks (P ++ B) 0 = ctF (P ++ B) 0 [] from rfl, h1]
  cases hc : ctF B 0 [] with
  | error p =>
    obtain ⟨e, x⟩ := p
    have hx0 : x ≠ 0 := ctoksN_err _ (show ctoksN _ B 0 [] = _ from hc)
    exact ⟨⟨rfl, rfl⟩, fun g => absurd g hx0⟩
  | ok p =>
    obtain ⟨l, e⟩ := p
    simp only [shE]
    have g1 := read_wd (O := O) (l := l) (m := l.map (shT P.length)) (by rw [List.map_map]; rfl) e (P.length + e)
    have g2 := read_lay2 (O := O) (l.map (shT P.length)) (P.length + e) (P.length + e)
    have g3 : RdW (readT O l e) (readT O (layHead (l.map (shT P.length))) (P.length + e)) := ⟨g1.1.trans g2.1, g1.2.trans g2.2⟩
    refine ⟨g3, fun h0 => ⟨e, readT_end h0, readT_end ?_⟩⟩
    rw [← g3.2]
    exact h0
/-- One clause, with layout ahead and more blanks. -/
theorem one_wd2 {O : Ops} {A P B : List UInt8} (hA : A.length ≤ 65536) (hPB : (P ++ B).length ≤ 65536) (hP : 0 < P.length) (hs : skipTo (P ++ B) 0 = skipTo (P ++ B) P.length) (hw : Wd A B) (hok : ∀ c ∈ A, okC c) : (oneR O A).1.t = (oneR O (P ++ B)).1.t ∧ (oneR O A).2 = (oneR O (P ++ B)).2 := by
  have hk : (rtF O A 0 []).1.map ReadV.t = (rtF O (P ++ B) 0 []).1.map ReadV.t ∧ (rtF O A 0 []).2.2 = (rtF O (P ++ B) 0 []).2.2 := by
    have h0 : At2 A B 0 0 := ⟨hw, hok, Nat.zero_le _, Nat.zero_le _⟩
    have hc := clause_wd (O := O) h0
    obtain ⟨hl1, hl2⟩ := clause_lay2 (O := O) (B := B) hP hs
    obtain ⟨r, k, x, h1⟩ : ∃ r k x, clauseS O A 0 = (r, k, x) := ⟨_, _, _, rfl⟩
    obtain ⟨r2, k2, x2, h2⟩ : ∃ r k x, clauseS O B 0 = (r, k, x) := ⟨_, _, _, rfl⟩
    obtain ⟨r3, k3, x3, h3⟩ : ∃ r k x, clauseS O (P ++ B) 0 = (r, k, x) := ⟨_, _, _, rfl⟩
    rw [h1, h2] at hc
    rw [h2, h3] at hl1 hl2
    obtain ⟨⟨g1, g2⟩, g3⟩ := hc
    obtain ⟨g4, g5⟩ := hl1
    simp only at g1 g2 g3 g4 g5 hl2
    subst g2
    subst g5
    obtain ⟨b0, b4, bx⟩ := rtF_eq (acc := []) hA (Nat.zero_le _) h1
    obtain ⟨c0, c4, cx⟩ := rtF_eq (acc := []) hPB (Nat.zero_le _) h3
    by_cases h0 : x = 0
    · subst h0
      obtain ⟨e, e2, p1, p2, p3⟩ := g3 rfl
      obtain ⟨e3, p4, p5⟩ := hl2 rfl
      obtain rfl : e3 = e2 := by omega
      obtain ⟨e', q1, q2, q3, q4⟩ := b0 rfl
      obtain ⟨e2', s1, s2, s3, s4⟩ := c0 rfl
      obtain rfl : e = e' := Int.ofNat.inj (p1.symm.trans q1)
      obtain rfl : e2' = P.length + e3 := by omega
      rw [q4, s4]
      refine rt_wd hA hPB _ e (P.length + e3) _ _ (Nat.le_refl _) ⟨?_, p3.ok, q3, s3⟩ (by simp [g1, g4])
      rw [List.drop_append, List.drop_eq_nil_of_le (show P.length ≤ P.length + e3 from Nat.le_add_right _ _), List.nil_append, Nat.add_sub_cancel_left]
      exact p3.wd
    · by_cases h4 : x = 4
      · rw [b4 h4, c4 h4]
        exact ⟨rfl, rfl⟩
      · rw [bx h0 h4, cx h0 h4]
        exact ⟨rfl, rfl⟩
  unfold oneR oneX
  rw [show allR O A = rtF O A 0 [] from rfl, show allR O (P ++ B) = rtF O (P ++ B) 0 [] from rfl]
  obtain ⟨hk1, hk2⟩ := hk
  rw [← hk2]
  split
  · exact ⟨rfl, rfl⟩
  · have hlen := congrArg List.length hk1
    simp only [List.length_map] at hlen
    rw [← hlen]
    split
    · exact ⟨rfl, rfl⟩
    · refine ⟨?_, rfl⟩
      have hh : ∀ l : List ReadV, (l.headD zeroR).t = (l.map ReadV.t).headD zeroR.t := by intro l; cases l <;> rfl
      rw [hh, hh, hk1]

def wdF (A : List UInt8) : List UInt8 := A.flatMap (fun c => if c = 32 then [32, 32, 32] else [c])
theorem wdF_wd (R : List UInt8) : ∀ A : List UInt8, Wd (A ++ R) (wdF A ++ R)
  | [] => Wd.refl R
  | c :: A => by
    have ih := wdF_wd R A
    by_cases hc : c = 32
    · subst hc
      exact .more (.more (.cons 32 ih))
    · have : wdF (c :: A) = c :: wdF A := by simp [wdF, hc]
      rw [this]
      exact .cons c ih
/-- The layout that is set ahead. -/
def layP : List UInt8 := [32, 47, 42, 32, 97, 44, 32, 98, 32, 42, 47, 32, 37, 32, 99, 10]
theorem layP_skip (B : List UInt8) : skipTo (layP ++ B) 0 = skipTo (layP ++ B) 16 := by
  generalize hW : layP ++ B = W
  have g0 : W[0]? = some 32 := by rw [← hW]; rfl
  have g1 : W[1]? = some 47 := by rw [← hW]; rfl
  have g2 : W[1 + 1]? = some 42 := by rw [← hW]; rfl
  have g11 : W[11]? = some 32 := by rw [← hW]; rfl
  have g12 : W[12]? = some 37 := by rw [← hW]; rfl
  have g15 : W[15]? = some 10 := by rw [← hW]; rfl
  have hcl : close W (1 + 2) = some 9 := by rw [← hW]; rfl
  have heol : eol W 12 = 15 := by rw [← hW]; rfl
  rw [skipTo_eq g0, if_pos (by decide), skipTo_eq g1, if_neg (by decide), if_neg (by decide), if_pos ⟨rfl, g2⟩, hcl]
  simp only
  rw [skipTo_eq g11, if_pos (by decide), skipTo_eq g12, if_neg (by decide), if_pos rfl, heol, skipTo_eq g15, if_pos (by decide)]
/-- More blanks change nothing. -/
theorem one_blanks {O : Ops} {A : List UInt8} (hA : A.length ≤ 10000) (hok : ∀ c ∈ A, okC c) : (oneR O (ptT A)).1.t = (oneR O (layP ++ wdF A ++ [32, 46])).1.t ∧ (oneR O (ptT A)).2 = (oneR O (layP ++ wdF A ++ [32, 46])).2 := by
  have hl : ∀ A : List UInt8, (wdF A).length ≤ 3 * A.length := by
    intro A
    induction A with
    | nil => simp [wdF]
    | cons c A ih =>
      have : wdF (c :: A) = (if c = 32 then [32, 32, 32] else [c]) ++ wdF A := by simp [wdF]
      rw [this, List.length_append, List.length_cons]
      split <;> simp <;> omega
  have hl2 := hl A
  rw [List.append_assoc]
  refine one_wd2 (by rw [pt_len]; omega) ?_ (by decide) (layP_skip _) (wdF_wd _ _) ?_
  · rw [List.length_append, List.length_append]
    have : layP.length = 16 := rfl
    simp only [List.length_cons, List.length_nil]
    omega
  · intro c hc
    rcases List.mem_append.1 hc with hc | hc
    · exact hok c hc
    · simp at hc
      rcases hc with rfl | rfl <;> exact ⟨by decide, by decide, by decide⟩
end Go.El
