/- Layer 8 (token): texts as pieces, as plain functions on bytes. No program in sight. -/
import Derived.Test.YtkenjhchfidpbaaGreatDoorC33
namespace Go.El

def isBlank (c : UInt8) : Bool := c == 32 || c == 9 || c == 10 || c == 13
def isDigit (c : UInt8) : Bool := 48 ≤ c && c ≤ 57
def isPunct (c : UInt8) : Bool := c == 40 || c == 41 || c == 91 || c == 93 || c == 123 || c == 125 || c == 44 || c == 124

/-- The place behind all bytes of a kind from a place on. -/
def rowTo (p : UInt8 → Bool) (B : List UInt8) (i : Nat) : Nat := i + ((B.drop i).takeWhile p).length
theorem drop_cons {B : List UInt8} {i : Nat} {c : UInt8} (h : B[i]? = some c) : B.drop i = c :: B.drop (i + 1) := by
  obtain ⟨hlt, rfl⟩ := List.getElem?_eq_some_iff.1 h
  exact List.drop_eq_getElem_cons hlt
theorem drop_nil {B : List UInt8} {i : Nat} (h : B[i]? = none) : B.drop i = [] := List.drop_eq_nil_of_le (List.getElem?_eq_none_iff.1 h)
theorem rowTo_yes {p : UInt8 → Bool} {B : List UInt8} {i : Nat} {c : UInt8} (h : B[i]? = some c) (hp : p c = true) : rowTo p B i = rowTo p B (i + 1) := by
  unfold rowTo
  rw [drop_cons h, List.takeWhile_cons, hp]
  simp
  omega
theorem rowTo_no {p : UInt8 → Bool} {B : List UInt8} {i : Nat} {c : UInt8} (h : B[i]? = some c) (hp : p c = false) : rowTo p B i = i := by
  unfold rowTo
  rw [drop_cons h, List.takeWhile_cons, hp]
  simp
theorem rowTo_end {p : UInt8 → Bool} {B : List UInt8} {i : Nat} (h : B[i]? = none) : rowTo p B i = i := by
  unfold rowTo
  rw [drop_nil h]
  simp
theorem rowTo_ge (p : UInt8 → Bool) (B : List UInt8) (i : Nat) : i ≤ rowTo p B i := by unfold rowTo; omega
theorem rowTo_le {p : UInt8 → Bool} {B : List UInt8} {i : Nat} (h : i ≤ B.length) : rowTo p B i ≤ B.length := by
  unfold rowTo
  have := (List.takeWhile_sublist p (l := B.drop i)).length_le
  rw [List.length_drop] at this
  omega

/-- Where a line ends. -/
def eol (B : List UInt8) (i : Nat) : Nat := rowTo (fun c => c != 10) B i
/-- Where the end of a comment begins. -/
def closeF : List UInt8 → Option Nat
  | [] => none
  | c :: r => if c = 42 ∧ r.head? = some 47 then some 0 else (closeF r).map (· + 1)
def close (B : List UInt8) (i : Nat) : Option Nat := (closeF (B.drop i)).map (i + ·)
theorem closeF_lt : ∀ {l : List UInt8} {n : Nat}, closeF l = some n → n + 1 < l.length
  | [], _, h => by cases h
  | c :: r, n, h => by
    unfold closeF at h
    split at h
    · next hc =>
      injection h with h
      subst h
      rcases r with _ | ⟨d, r⟩
      · simp at hc
      · simp
    · rw [Option.map_eq_some_iff] at h
      obtain ⟨m, hm, rfl⟩ := h
      have := closeF_lt hm
      simp
      omega
theorem close_bd {B : List UInt8} {i e : Nat} (h : close B i = some e) : i ≤ e ∧ e + 1 < B.length := by
  unfold close at h
  rw [Option.map_eq_some_iff] at h
  obtain ⟨m, hm, rfl⟩ := h
  have := closeF_lt hm
  rw [List.length_drop] at this
  omega

/-- Behind layout; false: a comment has no end, and begins there. -/
def skipN : Nat → List UInt8 → Nat → Nat × Bool
  | 0, _, i => (i, true)
  | n + 1, B, i =>
    match B[i]? with
    | none => (i, true)
    | some c =>
      if isBlank c then skipN n B (i + 1)
      else if c = 37 then skipN n B (eol B i)
      else if c = 47 ∧ B[i + 1]? = some 42 then
        match close B (i + 2) with
        | none => (i, false)
        | some e => skipN n B (e + 2)
      else (i, true)
def skipTo (B : List UInt8) (i : Nat) : Nat × Bool := skipN (B.length + 1 - i) B i

theorem eol_gt {B : List UInt8} {i : Nat} (h : B[i]? = some 37) : i < eol B i := by
  unfold eol
  rw [rowTo_yes h (by decide)]
  have := rowTo_ge (fun c => c != 10) B (i + 1)
  omega
theorem skipN_more : ∀ (n m : Nat) (B : List UInt8) (i : Nat), B.length + 1 - i ≤ n → n ≤ m → skipN m B i = skipN n B i
  | 0, m, B, i, h, _ => by
    have hn : B[i]? = none := List.getElem?_eq_none (by omega)
    cases m with
    | zero => rfl
    | succ m => simp [skipN, hn]
  | n + 1, 0, B, i, _, h => by omega
  | n + 1, m + 1, B, i, h, hm => by
    simp only [skipN]
    cases hc : B[i]? with
    | none => rfl
    | some c =>
      have hlt : i < B.length := (List.getElem?_eq_some_iff.1 hc).1
      simp only
      split
      · exact skipN_more n m B (i + 1) (by omega) (by omega)
      · split
        · next h37 =>
          subst h37
          have := eol_gt hc
          exact skipN_more n m B _ (by omega) (by omega)
        · split
          · cases hcl : close B (i + 2) with
            | none => rfl
            | some e =>
              have := close_bd hcl
              exact skipN_more n m B _ (by omega) (by omega)
          · rfl
theorem skipTo_of {B : List UInt8} {i n : Nat} (h : B.length + 1 - i ≤ n) : skipN n B i = skipTo B i := skipN_more _ _ B i (Nat.le_refl _) h

theorem skipTo_end {B : List UInt8} {i : Nat} (h : B.length ≤ i) : skipTo B i = (i, true) := by
  have hn : B[i]? = none := List.getElem?_eq_none h
  unfold skipTo
  cases B.length + 1 - i with
  | zero => rfl
  | succ n => simp [skipN, hn]
theorem skipTo_eq {B : List UInt8} {i : Nat} {c : UInt8} (h : B[i]? = some c) : skipTo B i =
    if isBlank c then skipTo B (i + 1)
    else if c = 37 then skipTo B (eol B i)
    else if c = 47 ∧ B[i + 1]? = some 42 then
      match close B (i + 2) with
      | none => (i, false)
      | some e => skipTo B (e + 2)
    else (i, true) := by
  have hlt : i < B.length := (List.getElem?_eq_some_iff.1 h).1
  have e1 : B.length + 1 - i = (B.length - i) + 1 := by omega
  have hs : skipTo B i = skipN ((B.length - i) + 1) B i := by unfold skipTo; rw [e1]
  rw [hs]
  simp only [skipN, h]
  split
  · exact skipTo_of (by omega)
  · split
    · next h37 =>
      subst h37
      have := eol_gt h
      exact skipTo_of (by omega)
    · split
      · cases hcl : close B (i + 2) with
        | none => rfl
        | some e =>
          have := close_bd hcl
          exact skipTo_of (by omega)
      · rfl

end Go.El

/- Layer 8 (token): the token at a place, all tokens of a text, as plain functions on bytes. No program in sight. -/
namespace Go.El

def isHex (c : UInt8) : Bool := isDigit c || (97 ≤ c && c ≤ 102)
def hexV (c : UInt8) : Nat := if isDigit c then c.toNat - 48 else c.toNat - 87

/-- The byte behind a backslash, and the place behind. -/
def escS (B : List UInt8) (i : Nat) : Option (UInt8 × Nat) :=
  match B[i]? with
  | none => none
  | some c =>
    if c = 92 ∨ c = 39 then some (c, i + 1)
    else if c = 110 then some (10, i + 1)
    else if c = 116 then some (9, i + 1)
    else if c = 120 then
      let e := rowTo isHex B (i + 1)
      if B[e]? = some 92 then
        if e = i + 2 then some (UInt8.ofNat (hexV (B.getD (i + 1) 0)), e + 1)
        else if e = i + 3 then some (UInt8.ofNat (16 * hexV (B.getD (i + 1) 0) + hexV (B.getD (i + 2) 0)), e + 1)
        else none
      else none
    else none

theorem escS_bd {B : List UInt8} {i : Nat} {x : UInt8} {j : Nat} (h : escS B i = some (x, j)) : i < j ∧ j ≤ B.length := by
  unfold escS at h
  cases hc : B[i]? with
  | none => rw [hc] at h; cases h
  | some c =>
    have hlt : i < B.length := (List.getElem?_eq_some_iff.1 hc).1
    rw [hc] at h
    simp only at h
    split at h
    · injection h with h; injection h with _ h; omega
    · split at h
      · injection h with h; injection h with _ h; omega
      · split at h
        · injection h with h; injection h with _ h; omega
        · split at h
          · split at h
            · next he =>
              have hel := (List.getElem?_eq_some_iff.1 he).1
              have hge := rowTo_ge isHex B (i + 1)
              split at h
              · injection h with h; injection h with _ h; omega
              · split at h
                · injection h with h; injection h with _ h; omega
                · cases h
            · cases h
          · cases h

/-- The name behind a quote, and the place behind; none: it is none. -/
def quoN : Nat → List UInt8 → Nat → List UInt8 → Option (List UInt8 × Nat)
  | 0, _, _, _ => none
  | n + 1, B, i, acc =>
    match B[i]? with
    | none => none
    | some c =>
      if c = 39 ∧ B[i + 1]? = some 39 then quoN n B (i + 2) (acc ++ [39])
      else if c = 39 then some (acc, i + 1)
      else if c = 92 then
        match escS B (i + 1) with
        | none => none
        | some (x, j) => quoN n B j (acc ++ [x])
      else if c < 32 ∨ c = 127 then none
      else quoN n B (i + 1) (acc ++ [c])
def quoS (B : List UInt8) (i : Nat) (acc : List UInt8) : Option (List UInt8 × Nat) := quoN (B.length + 1 - i) B i acc

theorem quoN_more : ∀ (n m : Nat) (B : List UInt8) (i : Nat) (acc : List UInt8), B.length + 1 - i ≤ n → n ≤ m → quoN m B i acc = quoN n B i acc
  | 0, m, B, i, acc, h, _ => by
    have hn : B[i]? = none := List.getElem?_eq_none (by omega)
    cases m with
    | zero => rfl
    | succ m => simp [quoN, hn]
  | n + 1, 0, _, _, _, _, h => by omega
  | n + 1, m + 1, B, i, acc, h, hm => by
    simp only [quoN]
    cases hc : B[i]? with
    | none => rfl
    | some c =>
      have hlt : i < B.length := (List.getElem?_eq_some_iff.1 hc).1
      simp only
      split
      · exact quoN_more n m B _ _ (by omega) (by omega)
      · split
        · rfl
        · split
          · cases he : escS B (i + 1) with
            | none => rfl
            | some p =>
              obtain ⟨x, j⟩ := p
              have := escS_bd he
              exact quoN_more n m B _ _ (by omega) (by omega)
          · split
            · rfl
            · exact quoN_more n m B _ _ (by omega) (by omega)
theorem quoS_of {B : List UInt8} {i n : Nat} {acc : List UInt8} (h : B.length + 1 - i ≤ n) : quoN n B i acc = quoS B i acc := quoN_more _ _ B i acc (Nat.le_refl _) h
theorem quoS_end {B : List UInt8} {i : Nat} {acc : List UInt8} (h : B.length ≤ i) : quoS B i acc = none := by
  have hn : B[i]? = none := List.getElem?_eq_none h
  unfold quoS
  cases B.length + 1 - i with
  | zero => rfl
  | succ n => simp [quoN, hn]
theorem quoS_eq {B : List UInt8} {i : Nat} {c : UInt8} {acc : List UInt8} (h : B[i]? = some c) : quoS B i acc =
    if c = 39 ∧ B[i + 1]? = some 39 then quoS B (i + 2) (acc ++ [39])
    else if c = 39 then some (acc, i + 1)
    else if c = 92 then
      match escS B (i + 1) with
      | none => none
      | some (x, j) => quoS B j (acc ++ [x])
    else if c < 32 ∨ c = 127 then none
    else quoS B (i + 1) (acc ++ [c]) := by
  have hlt : i < B.length := (List.getElem?_eq_some_iff.1 h).1
  have e1 : B.length + 1 - i = (B.length - i) + 1 := by omega
  have hs : quoS B i acc = quoN ((B.length - i) + 1) B i acc := by unfold quoS; rw [e1]
  rw [hs]
  simp only [quoN, h]
  split
  · exact quoS_of (by omega)
  · split
    · rfl
    · split
      · cases he : escS B (i + 1) with
        | none => rfl
        | some p =>
          obtain ⟨x, j⟩ := p
          have := escS_bd he
          exact quoS_of (by omega)
      · split
        · rfl
        · exact quoS_of (by omega)
theorem quoN_bd : ∀ (n : Nat) (B : List UInt8) (i : Nat) (acc s : List UInt8) (j : Nat), quoN n B i acc = some (s, j) → i < j ∧ j ≤ B.length
  | 0, _, _, _, _, _, h => by cases h
  | n + 1, B, i, acc, s, j, h => by
    simp only [quoN] at h
    cases hc : B[i]? with
    | none => rw [hc] at h; cases h
    | some c =>
      have hlt : i < B.length := (List.getElem?_eq_some_iff.1 hc).1
      rw [hc] at h
      simp only at h
      split at h
      · have := quoN_bd n B _ _ _ _ h; omega
      · split at h
        · injection h with h; injection h with _ h; omega
        · split at h
          · cases he : escS B (i + 1) with
            | none => rw [he] at h; cases h
            | some p =>
              obtain ⟨x, k⟩ := p
              rw [he] at h
              have := escS_bd he
              have := quoN_bd n B _ _ _ _ h
              omega
          · split at h
            · cases h
            · have := quoN_bd n B _ _ _ _ h; omega

/-- What digits say. -/
def numV (l : List UInt8) : Nat := l.foldl (fun n c => 10 * n + (c.toNat - 48)) 0

/-- A token: its kind, its text, its number, its place, layout ahead. -/
structure TokV where
  kind : Int
  s : ByteArray
  n : Int
  at_ : Int
  lay : Bool
  deriving DecidableEq
def zeroT : TokV := ⟨0, ⟨#[]⟩, 0, 0, false⟩

def sub (B : List UInt8) (i j : Nat) : List UInt8 := (B.drop i).take (j - i)

/-- A name of a kind that ends at a place, if it is not too long. -/
def nameS (k : Int) (s : List UInt8) (e : Nat) : Except Int (Int × List UInt8 × Int × Nat) := if 64 < s.length then .error 3 else .ok (k, s, 0, e)
/-- Does a point at a place end a clause? -/
def endsS (B : List UInt8) (i : Nat) (c : UInt8) : Bool := c == 46 && (match B[i + 1]? with | none => true | some d => isBlank d || d == 37)
/-- The token that begins at a place: its kind, its text, its number, the place behind; or what is wrong. -/
def oneS (B : List UInt8) (i : Nat) (c : UInt8) : Except Int (Int × List UInt8 × Int × Nat) :=
  if endsS B i c then nameS 6 [c] (i + 1)
  else if isSmall c then nameS 1 (sub B i (rowTo isWord B i)) (rowTo isWord B i)
  else if isSign c then nameS 1 (sub B i (rowTo isSign B i)) (rowTo isSign B i)
  else if c = 33 ∨ c = 59 then nameS 1 [c] (i + 1)
  else if isDigit c then
    (if numV (sub B i (rowTo isDigit B i)) ≤ 9007199254740991 then .ok (4, [], numV (sub B i (rowTo isDigit B i)), rowTo isDigit B i) else .error 81)
  else if isWord c then nameS 3 (sub B i (rowTo isWord B i)) (rowTo isWord B i)
  else if isPunct c then nameS 5 [c] (i + 1)
  else if c = 39 then
    match quoS B (i + 1) [] with
    | none => .error 80
    | some (s, e) => nameS 2 s e
  else .error 80

/-- The token from a place on, the place behind it, what is wrong. -/
def scanS (B : List UInt8) (i : Nat) : TokV × Nat × Int :=
  match skipTo B i with
  | (k, false) => (zeroT, k, 80)
  | (k, true) =>
    match B[k]? with
    | none => (zeroT, k, 4)
    | some c =>
      match oneS B k c with
      | .error e => (zeroT, k, e)
      | .ok (kd, s, n, e) => (⟨kd, ⟨s.toArray⟩, n, k, decide (i < k)⟩, e, 0)

/-- All tokens from a place on, the place behind, what is wrong. -/
def allN : Nat → List UInt8 → Nat → List TokV → List TokV × Nat × Int
  | 0, _, i, acc => (acc, i, 0)
  | n + 1, B, i, acc =>
    if (scanS B i).2.2 = 4 then (acc, (scanS B i).2.1, 0)
    else if (scanS B i).2.2 ≠ 0 then ([], (scanS B i).2.1, (scanS B i).2.2)
    else allN n B (scanS B i).2.1 (acc ++ [(scanS B i).1])
def allT (B : List UInt8) (i : Nat) (acc : List TokV) : List TokV × Nat × Int := allN (B.length + 1 - i) B i acc
def allS (B : List UInt8) : List TokV × Nat × Int := allT B 0 []

end Go.El

/- Layer 8 (token): bounds of tokens; all tokens, step by step. No program in sight. -/
namespace Go.El

theorem skipN_bd : ∀ (n : Nat) (B : List UInt8) (i : Nat), i ≤ (skipN n B i).1 ∧ (i ≤ B.length → (skipN n B i).1 ≤ B.length)
  | 0, _, _ => ⟨Nat.le_refl _, fun h => h⟩
  | n + 1, B, i => by
    simp only [skipN]
    cases hc : B[i]? with
    | none => exact ⟨Nat.le_refl _, fun h => h⟩
    | some c =>
      have hlt : i < B.length := (List.getElem?_eq_some_iff.1 hc).1
      simp only
      split
      · have := skipN_bd n B (i + 1)
        exact ⟨by omega, fun _ => this.2 (by omega)⟩
      · split
        · next h37 =>
          subst h37
          have h1 := eol_gt hc
          have h2 := skipN_bd n B (eol B i)
          exact ⟨by omega, fun _ => h2.2 (rowTo_le (by omega))⟩
        · split
          · cases hcl : close B (i + 2) with
            | none => exact ⟨Nat.le_refl _, fun h => h⟩
            | some e =>
              have h1 := close_bd hcl
              have h2 := skipN_bd n B (e + 2)
              simp only
              exact ⟨by omega, fun _ => h2.2 (by omega)⟩
          · exact ⟨Nat.le_refl _, fun h => h⟩
theorem skipTo_ge (B : List UInt8) (i : Nat) : i ≤ (skipTo B i).1 := (skipN_bd _ B i).1
theorem skipTo_le {B : List UInt8} {i : Nat} (h : i ≤ B.length) : (skipTo B i).1 ≤ B.length := (skipN_bd _ B i).2 h

theorem rowTo_gt {p : UInt8 → Bool} {B : List UInt8} {i : Nat} {c : UInt8} (h : B[i]? = some c) (hp : p c = true) : i < rowTo p B i := by
  rw [rowTo_yes h hp]
  have := rowTo_ge p B (i + 1)
  omega
theorem small_word (c : UInt8) (h : isSmall c = true) : isWord c = true := by unfold isWord; rw [h]; rfl

theorem nameS_eq {k : Int} {s : List UInt8} {e : Nat} {x : Int × List UInt8 × Int × Nat} (h : nameS k s e = .ok x) : x = (k, s, 0, e) ∧ s.length ≤ 64 := by
  unfold nameS at h
  split at h
  · cases h
  · next hl =>
    injection h with h
    exact ⟨h.symm, by omega⟩
theorem nameS_err {k : Int} {s : List UInt8} {e : Nat} {x : Int} (h : nameS k s e = .error x) : x = 3 := by
  unfold nameS at h
  split at h
  · injection h with h; exact h.symm
  · cases h

theorem oneS_bd {B : List UInt8} {i : Nat} {c : UInt8} (ho : B[i]? = some c) {kd : Int} {s : List UInt8} {n : Int} {e : Nat} (h : oneS B i c = .ok (kd, s, n, e)) : i < e ∧ e ≤ B.length := by
  have hlt : i < B.length := (List.getElem?_eq_some_iff.1 ho).1
  have key : ∀ {k s' e'}, nameS k s' e' = .ok (kd, s, n, e) → i < e' → e' ≤ B.length → i < e ∧ e ≤ B.length := by
    intro k s' e' h1 h2 h3
    have := (nameS_eq h1).1
    injection this with _ this
    injection this with _ this
    injection this with _ this
    subst this
    exact ⟨h2, h3⟩
  unfold oneS at h
  split at h
  · exact key h (by omega) (by omega)
  · split at h
    · next g => exact key h (rowTo_gt ho (small_word c g)) (rowTo_le (by omega))
    · split at h
      · next g => exact key h (rowTo_gt ho g) (rowTo_le (by omega))
      · split at h
        · exact key h (by omega) (by omega)
        · split at h
          · next g =>
            split at h
            · injection h with h
              injection h with _ h
              injection h with _ h
              injection h with _ h
              subst h
              exact ⟨rowTo_gt ho g, rowTo_le (by omega)⟩
            · cases h
          · split at h
            · next g => exact key h (rowTo_gt ho g) (rowTo_le (by omega))
            · split at h
              · exact key h (by omega) (by omega)
              · split at h
                · cases hq : quoS B (i + 1) [] with
                  | none => rw [hq] at h; cases h
                  | some p =>
                    obtain ⟨s', e'⟩ := p
                    rw [hq] at h
                    have := quoN_bd _ _ _ _ _ _ hq
                    exact key h (by omega) (by omega)
                · cases h
theorem oneS_err {B : List UInt8} {i : Nat} {c : UInt8} {x : Int} (h : oneS B i c = .error x) : x = 3 ∨ x = 80 ∨ x = 81 := by
  unfold oneS at h
  split at h
  · exact .inl (nameS_err h)
  · split at h
    · exact .inl (nameS_err h)
    · split at h
      · exact .inl (nameS_err h)
      · split at h
        · exact .inl (nameS_err h)
        · split at h
          · split at h
            · cases h
            · injection h with h; exact .inr (.inr h.symm)
          · split at h
            · exact .inl (nameS_err h)
            · split at h
              · exact .inl (nameS_err h)
              · split at h
                · cases hq : quoS B (i + 1) [] with
                  | none => rw [hq] at h; injection h with h; exact .inr (.inl h.symm)
                  | some p =>
                    obtain ⟨s', e'⟩ := p
                    rw [hq] at h
                    exact .inl (nameS_err h)
                · injection h with h; exact .inr (.inl h.symm)

/-- A scan in its cases. -/
theorem scanS_open {B : List UInt8} {i k : Nat} (h : skipTo B i = (k, false)) : scanS B i = (zeroT, k, 80) := by unfold scanS; rw [h]
theorem scanS_none {B : List UInt8} {i k : Nat} (h : skipTo B i = (k, true)) (hk : B[k]? = none) : scanS B i = (zeroT, k, 4) := by unfold scanS; rw [h]; simp only; rw [hk]
theorem scanS_err {B : List UInt8} {i k : Nat} {c : UInt8} {x : Int} (h : skipTo B i = (k, true)) (hk : B[k]? = some c) (ho : oneS B k c = .error x) : scanS B i = (zeroT, k, x) := by unfold scanS; rw [h]; simp only; rw [hk]; simp only; rw [ho]
theorem scanS_ok {B : List UInt8} {i k : Nat} {c : UInt8} {kd : Int} {s : List UInt8} {n : Int} {e : Nat} (h : skipTo B i = (k, true)) (hk : B[k]? = some c) (ho : oneS B k c = .ok (kd, s, n, e)) : scanS B i = (⟨kd, ⟨s.toArray⟩, n, k, decide (i < k)⟩, e, 0) := by unfold scanS; rw [h]; simp only; rw [hk]; simp only; rw [ho]
theorem scanS_cases (B : List UInt8) (i : Nat) : (∃ k, skipTo B i = (k, false) ∧ scanS B i = (zeroT, k, 80)) ∨ (∃ k, skipTo B i = (k, true) ∧ B[k]? = none ∧ scanS B i = (zeroT, k, 4)) ∨ (∃ k c x, skipTo B i = (k, true) ∧ B[k]? = some c ∧ oneS B k c = .error x ∧ scanS B i = (zeroT, k, x)) ∨ (∃ k c kd s n e, skipTo B i = (k, true) ∧ B[k]? = some c ∧ oneS B k c = .ok (kd, s, n, e) ∧ scanS B i = (⟨kd, ⟨s.toArray⟩, n, k, decide (i < k)⟩, e, 0)) := by
  cases h : skipTo B i with
  | mk k ok =>
    cases ok
    · exact .inl ⟨k, rfl, scanS_open h⟩
    · cases hk : B[k]? with
      | none => exact .inr (.inl ⟨k, rfl, hk, scanS_none h hk⟩)
      | some c =>
        cases ho : oneS B k c with
        | error x => exact .inr (.inr (.inl ⟨k, c, x, rfl, hk, ho, scanS_err h hk ho⟩))
        | ok y =>
          obtain ⟨kd, s, n, e⟩ := y
          exact .inr (.inr (.inr ⟨k, c, kd, s, n, e, rfl, hk, ho, scanS_ok h hk ho⟩))
theorem scanS_err5 (B : List UInt8) (i : Nat) : (scanS B i).2.2 = 0 ∨ (scanS B i).2.2 = 3 ∨ (scanS B i).2.2 = 4 ∨ (scanS B i).2.2 = 80 ∨ (scanS B i).2.2 = 81 := by
  rcases scanS_cases B i with ⟨k, _, h⟩ | ⟨k, _, _, h⟩ | ⟨k, c, x, _, _, hx, h⟩ | ⟨k, c, kd, s, n, e, _, _, _, h⟩
  · rw [h]; simp
  · rw [h]; simp
  · rw [h]
    rcases oneS_err hx with rfl | rfl | rfl <;> simp
  · rw [h]; simp
/-- A token lies behind the place where its scan began, and ahead of the place behind it. -/
theorem scanS_bd {B : List UInt8} {i : Nat} (h : (scanS B i).2.2 = 0) : (i : Int) ≤ (scanS B i).1.at_ ∧ (scanS B i).1.at_ < (scanS B i).2.1 ∧ (scanS B i).2.1 ≤ B.length := by
  rcases scanS_cases B i with ⟨k, _, g⟩ | ⟨k, _, _, g⟩ | ⟨k, c, x, _, _, hx, g⟩ | ⟨k, c, kd, s, n, e, hs, hk, ho, g⟩
  · rw [g] at h; cases h
  · rw [g] at h; cases h
  · rw [g] at h
    rcases oneS_err hx with rfl | rfl | rfl <;> cases h
  · rw [g]
    have h1 := oneS_bd hk ho
    have h2 := skipTo_ge B i
    rw [hs] at h2
    simp only at h2 ⊢
    omega
theorem scanS_step {B : List UInt8} {i : Nat} (h : (scanS B i).2.2 = 0) : i < (scanS B i).2.1 ∧ (scanS B i).2.1 ≤ B.length := by
  have := scanS_bd h
  omega
theorem scanS_le {B : List UInt8} {i : Nat} (hi : i ≤ B.length) : (scanS B i).2.1 ≤ B.length := by
  rcases scanS_cases B i with ⟨k, hs, g⟩ | ⟨k, hs, _, g⟩ | ⟨k, c, x, hs, hk, hx, g⟩ | ⟨k, c, kd, s, n, e, hs, hk, ho, g⟩
  · rw [g]; have := skipTo_le hi; rw [hs] at this; exact this
  · rw [g]; have := skipTo_le hi; rw [hs] at this; exact this
  · rw [g]; have := skipTo_le hi; rw [hs] at this; exact this
  · rw [g]; exact (oneS_bd hk ho).2

theorem allN_more : ∀ (n m : Nat) (B : List UInt8) (i : Nat) (acc : List TokV), i ≤ B.length → B.length + 1 - i ≤ n → n ≤ m → allN m B i acc = allN n B i acc
  | 0, m, B, i, acc, hi, h, _ => by omega
  | n + 1, 0, _, _, _, _, _, h => by omega
  | n + 1, m + 1, B, i, acc, hi, h, hm => by
    simp only [allN]
    split
    · rfl
    · split
      · rfl
      · next h4 h0 =>
        have := scanS_step (by simpa using h0 : (scanS B i).2.2 = 0)
        exact allN_more n m B _ _ this.2 (by omega) (by omega)
theorem allT_eq {B : List UInt8} {i : Nat} {acc : List TokV} (hi : i ≤ B.length) : allT B i acc =
    if (scanS B i).2.2 = 4 then (acc, (scanS B i).2.1, 0)
    else if (scanS B i).2.2 ≠ 0 then ([], (scanS B i).2.1, (scanS B i).2.2)
    else allT B (scanS B i).2.1 (acc ++ [(scanS B i).1]) := by
  unfold allT
  have e : B.length + 1 - i = (B.length - i) + 1 := by omega
  rw [e]
  simp only [allN]
  split
  · rfl
  · split
    · rfl
    · next h4 h0 =>
      have := scanS_step (by simpa using h0 : (scanS B i).2.2 = 0)
      exact allN_more _ _ B _ _ this.2 (by omega) (by omega)

end Go.El

/- Layer 8 (token): the tokens of a text behind others: places move, nothing else. No program in sight. -/
namespace Go.El

/-- All tokens from a place on, without a list ahead. -/
def tokN : Nat → List UInt8 → Nat → List TokV × Nat × Int
  | 0, _, i => ([], i, 0)
  | n + 1, B, i =>
    if (scanS B i).2.2 = 4 then ([], (scanS B i).2.1, 0)
    else if (scanS B i).2.2 ≠ 0 then ([], (scanS B i).2.1, (scanS B i).2.2)
    else if (tokN n B (scanS B i).2.1).2.2 = 0 then ((scanS B i).1 :: (tokN n B (scanS B i).2.1).1, (tokN n B (scanS B i).2.1).2.1, 0)
    else ([], (tokN n B (scanS B i).2.1).2.1, (tokN n B (scanS B i).2.1).2.2)
theorem allN_tok : ∀ (n : Nat) (B : List UInt8) (i : Nat) (acc : List TokV), allN n B i acc = if (tokN n B i).2.2 = 0 then (acc ++ (tokN n B i).1, (tokN n B i).2.1, 0) else ([], (tokN n B i).2.1, (tokN n B i).2.2)
  | 0, B, i, acc => by simp [allN, tokN]
  | n + 1, B, i, acc => by
    simp only [allN, tokN]
    split
    · simp
    · split
      · next h => simp
      · rw [allN_tok n]
        split
        · simp
        · next h => simp
def toks (B : List UInt8) (i : Nat) : List TokV × Nat × Int := tokN (B.length + 1 - i) B i
theorem tokN_err : ∀ (n : Nat) (B : List UInt8) (i : Nat), (tokN n B i).2.2 ≠ 0 → (tokN n B i).1 = []
  | 0, B, i, h => rfl
  | n + 1, B, i, h => by
    simp only [tokN] at h ⊢
    split
    · rfl
    · split
      · rfl
      · split
        · next h1 h2 h3 => rw [if_neg h1, if_neg h2, if_pos h3] at h; exact absurd rfl h
        · rfl
theorem allS_toks (B : List UInt8) : allS B = toks B 0 := by
  unfold allS allT
  rw [allN_tok]
  unfold toks
  have := tokN_err (B.length + 1 - 0) B 0
  generalize tokN (B.length + 1 - 0) B 0 = r at *
  obtain ⟨l, e, x⟩ := r
  simp only at this ⊢
  split
  · next h => simp only [List.nil_append]; rw [h]
  · next h => rw [this h]
theorem tokN_more : ∀ (n m : Nat) (B : List UInt8) (i : Nat), i ≤ B.length → B.length + 1 - i ≤ n → n ≤ m → tokN m B i = tokN n B i
  | 0, m, B, i, hi, h, _ => by omega
  | n + 1, 0, _, _, _, _, h => by omega
  | n + 1, m + 1, B, i, hi, h, hm => by
    simp only [tokN]
    split
    · rfl
    · split
      · rfl
      · next h4 h0 =>
        have := scanS_step (by simpa using h0 : (scanS B i).2.2 = 0)
        rw [tokN_more n m B _ this.2 (by omega) (by omega)]
theorem toks_eq {B : List UInt8} {i : Nat} (hi : i ≤ B.length) : toks B i =
    if (scanS B i).2.2 = 4 then ([], (scanS B i).2.1, 0)
    else if (scanS B i).2.2 ≠ 0 then ([], (scanS B i).2.1, (scanS B i).2.2)
    else if (toks B (scanS B i).2.1).2.2 = 0 then ((scanS B i).1 :: (toks B (scanS B i).2.1).1, (toks B (scanS B i).2.1).2.1, 0)
    else ([], (toks B (scanS B i).2.1).2.1, (toks B (scanS B i).2.1).2.2) := by
  unfold toks
  have e : B.length + 1 - i = (B.length - i) + 1 := by omega
  rw [e]
  simp only [tokN]
  split
  · rfl
  · split
    · rfl
    · next h4 h0 =>
      have := scanS_step (by simpa using h0 : (scanS B i).2.2 = 0)
      rw [tokN_more (B.length + 1 - (scanS B i).2.1) (B.length - i) B _ this.2 (Nat.le_refl _) (by omega)]

/-- Each token lies behind the one ahead of it. -/
theorem tokN_at : ∀ (n : Nat) (B : List UInt8) (i : Nat), ((tokN n B i).1.Pairwise fun a b => a.at_ < b.at_) ∧ ∀ t ∈ (tokN n B i).1, (i : Int) ≤ t.at_
  | 0, B, i => ⟨List.Pairwise.nil, by simp [tokN]⟩
  | n + 1, B, i => by
    simp only [tokN]
    split
    · exact ⟨List.Pairwise.nil, by simp⟩
    · split
      · exact ⟨List.Pairwise.nil, by simp⟩
      · split
        · next h4 h0 _ =>
          have h1 := scanS_bd (by simpa using h0 : (scanS B i).2.2 = 0)
          obtain ⟨h2, h3⟩ := tokN_at n B (scanS B i).2.1
          refine ⟨List.Pairwise.cons (fun t ht => ?_) h2, fun t ht => ?_⟩
          · have := h3 t ht; omega
          · rcases List.mem_cons.1 ht with rfl | ht
            · exact h1.1
            · have := h3 t ht; omega
        · exact ⟨List.Pairwise.nil, by simp⟩
theorem allS_up (B : List UInt8) : (allS B).1.Pairwise fun a b => a.at_ < b.at_ := by
  rw [allS_toks]
  exact (tokN_at _ B 0).1

/-! ### A text behind another one -/
section
variable (ws B : List UInt8)
theorem sh_drop (i : Nat) : (ws ++ B).drop (ws.length + i) = B.drop i := by rw [List.drop_append]; simp
theorem sh_get (i : Nat) : (ws ++ B)[ws.length + i]? = B[i]? := by rw [List.getElem?_append_right (by omega)]; congr 1; omega
theorem sh_get1 (i : Nat) : (ws ++ B)[ws.length + i + 1]? = B[i + 1]? := sh_get ws B (i + 1)
theorem sh_row (p : UInt8 → Bool) (i : Nat) : rowTo p (ws ++ B) (ws.length + i) = ws.length + rowTo p B i := by
  unfold rowTo
  rw [sh_drop]
  omega
theorem sh_row1 (p : UInt8 → Bool) (i : Nat) : rowTo p (ws ++ B) (ws.length + i + 1) = ws.length + rowTo p B (i + 1) := sh_row ws B p (i + 1)
theorem sh_eol (i : Nat) : eol (ws ++ B) (ws.length + i) = ws.length + eol B i := sh_row ws B _ i
theorem sh_close (i : Nat) : close (ws ++ B) (ws.length + i) = (close B i).map (ws.length + ·) := by
  unfold close
  rw [sh_drop, Option.map_map]
  congr 1
  funext n
  simp
  omega
theorem sh_close2 (i : Nat) : close (ws ++ B) (ws.length + i + 2) = (close B (i + 2)).map (ws.length + ·) := sh_close ws B (i + 2)
theorem sh_skipN : ∀ (n i : Nat), skipN n (ws ++ B) (ws.length + i) = (ws.length + (skipN n B i).1, (skipN n B i).2)
  | 0, i => rfl
  | n + 1, i => by
    simp only [skipN, sh_get]
    cases hc : B[i]? with
    | none => rfl
    | some c =>
      simp only
      rw [sh_get1, sh_eol, sh_close2]
      split
      · exact sh_skipN n (i + 1)
      · split
        · exact sh_skipN n _
        · split
          · cases close B (i + 2) with
            | none => rfl
            | some e => exact sh_skipN n (e + 2)
          · rfl
theorem sh_skip (i : Nat) : skipTo (ws ++ B) (ws.length + i) = (ws.length + (skipTo B i).1, (skipTo B i).2) := by
  unfold skipTo
  have e : (ws ++ B).length + 1 - (ws.length + i) = B.length + 1 - i := by rw [List.length_append]; omega
  rw [e]
  exact sh_skipN ws B _ i
theorem sh_sub (i j : Nat) : sub (ws ++ B) (ws.length + i) (ws.length + j) = sub B i j := by
  unfold sub
  rw [sh_drop]
  congr 1
  omega
theorem sh_getD1 (i : Nat) : (ws ++ B).getD (ws.length + i + 1) 0 = B.getD (i + 1) 0 := by simp only [List.getD_eq_getElem?_getD]; rw [sh_get1]
theorem sh_getD2 (i : Nat) : (ws ++ B).getD (ws.length + i + 2) 0 = B.getD (i + 2) 0 := by simp only [List.getD_eq_getElem?_getD]; rw [show ws.length + i + 2 = ws.length + (i + 2) from rfl, sh_get]
theorem sh_esc (i : Nat) : escS (ws ++ B) (ws.length + i) = (escS B i).map fun p => (p.1, ws.length + p.2) := by
  unfold escS
  rw [sh_get]
  cases B[i]? with
  | none => rfl
  | some c =>
    simp only
    rw [sh_row1, sh_get, sh_getD1, sh_getD2]
    split
    · rfl
    · split
      · rfl
      · split
        · rfl
        · split
          · split
            · by_cases h2 : rowTo isHex B (i + 1) = i + 2
              · rw [if_pos h2, if_pos (by omega)]; rfl
              · rw [if_neg h2, if_neg (by omega)]
                by_cases h3 : rowTo isHex B (i + 1) = i + 3
                · rw [if_pos h3, if_pos (by omega)]; rfl
                · rw [if_neg h3, if_neg (by omega)]; rfl
            · rfl
          · rfl
theorem sh_esc1 (i : Nat) : escS (ws ++ B) (ws.length + i + 1) = (escS B (i + 1)).map fun p => (p.1, ws.length + p.2) := sh_esc ws B (i + 1)
theorem sh_quoN : ∀ (n i : Nat) (acc : List UInt8), quoN n (ws ++ B) (ws.length + i) acc = (quoN n B i acc).map fun p => (p.1, ws.length + p.2)
  | 0, _, _ => rfl
  | n + 1, i, acc => by
    simp only [quoN, sh_get]
    cases hc : B[i]? with
    | none => rfl
    | some c =>
      simp only
      rw [sh_get1, sh_esc1]
      split
      · exact sh_quoN n (i + 2) _
      · split
        · rfl
        · split
          · cases escS B (i + 1) with
            | none => rfl
            | some p => exact sh_quoN n p.2 _
          · split
            · rfl
            · exact sh_quoN n (i + 1) _
theorem sh_quo1 (i : Nat) (acc : List UInt8) : quoS (ws ++ B) (ws.length + i + 1) acc = (quoS B (i + 1) acc).map fun p => (p.1, ws.length + p.2) := by
  unfold quoS
  have e : (ws ++ B).length + 1 - (ws.length + i + 1) = B.length + 1 - (i + 1) := by rw [List.length_append]; omega
  rw [e]
  exact sh_quoN ws B _ (i + 1) acc
theorem sh_ends (i : Nat) (c : UInt8) : endsS (ws ++ B) (ws.length + i) c = endsS B i c := by unfold endsS; rw [sh_get1]
def shOne (n : Nat) : Except Int (Int × List UInt8 × Int × Nat) → Except Int (Int × List UInt8 × Int × Nat)
  | .error e => .error e
  | .ok (k, s, m, e) => .ok (k, s, m, n + e)
theorem sh_name (k : Int) (s : List UInt8) (n e : Nat) : nameS k s (n + e) = shOne n (nameS k s e) := by unfold nameS; split <;> rfl
theorem sh_one (i : Nat) (c : UInt8) : oneS (ws ++ B) (ws.length + i) c = shOne ws.length (oneS B i c) := by
  unfold oneS
  simp only [sh_ends, sh_row, sh_sub, sh_quo1]
  rw [show ws.length + i + 1 = ws.length + (i + 1) from rfl]
  simp only [sh_name]
  split
  · rfl
  · split
    · rfl
    · split
      · rfl
      · split
        · rfl
        · split
          · split <;> rfl
          · split
            · rfl
            · split
              · rfl
              · split
                · cases quoS B (i + 1) [] with
                  | none => rfl
                  | some p => exact sh_name 2 p.1 ws.length p.2
                · rfl
def shT (n : Nat) (t : TokV) : TokV := { t with at_ := t.at_ + n }
def shScan (n : Nat) (x : TokV × Nat × Int) : TokV × Nat × Int := (if x.2.2 = 0 then shT n x.1 else x.1, n + x.2.1, x.2.2)
theorem sh_scan (i : Nat) : scanS (ws ++ B) (ws.length + i) = shScan ws.length (scanS B i) := by
  have hs := sh_skip ws B i
  rcases scanS_cases B i with ⟨k, h, g⟩ | ⟨k, h, hk, g⟩ | ⟨k, c, x, h, hk, hx, g⟩ | ⟨k, c, kd, s, n, e, h, hk, ho, g⟩
  · rw [h] at hs; rw [g, scanS_open hs]; rfl
  · rw [h] at hs; rw [g, scanS_none hs (by rw [sh_get]; exact hk)]; rfl
  · rw [h] at hs
    have h1 := sh_one ws B k c
    rw [hx] at h1
    rw [g, scanS_err hs (by rw [sh_get]; exact hk) h1]
    rcases oneS_err hx with rfl | rfl | rfl <;> rfl
  · rw [h] at hs
    have h1 := sh_one ws B k c
    rw [ho] at h1
    rw [g, scanS_ok hs (by rw [sh_get]; exact hk) h1]
    unfold shScan shT
    simp
    omega
theorem sh_tokN : ∀ (n i : Nat), tokN n (ws ++ B) (ws.length + i) = ((tokN n B i).1.map (shT ws.length), ws.length + (tokN n B i).2.1, (tokN n B i).2.2)
  | 0, i => rfl
  | n + 1, i => by
    simp only [tokN, sh_scan, shScan, sh_tokN n]
    split
    · rfl
    · split
      · rfl
      · next h4 h0 =>
        have e0 : (scanS B i).2.2 = 0 := by simpa using h0
        by_cases g : (tokN n B (scanS B i).2.1).2.2 = 0
        · simp only [if_pos g, if_pos e0, List.map_cons]
        · simp only [if_neg g, List.map_nil]
theorem sh_toks (i : Nat) : toks (ws ++ B) (ws.length + i) = ((toks B i).1.map (shT ws.length), ws.length + (toks B i).2.1, (toks B i).2.2) := by
  unfold toks
  have e : (ws ++ B).length + 1 - (ws.length + i) = B.length + 1 - i := by rw [List.length_append]; omega
  rw [e]
  exact sh_tokN ws B _ i
end

/-- The first token has layout ahead. -/
def layHead : List TokV → List TokV
  | [] => []
  | t :: r => { t with lay := true } :: r
/-- A scan from further ahead, over layout alone: the same, but that layout is told. -/
theorem scan_lay {W : List UInt8} {i j : Nat} (hij : i < j) (hs : skipTo W i = skipTo W j) : scanS W i = (if (scanS W j).2.2 = 0 then { (scanS W j).1 with lay := true } else (scanS W j).1, (scanS W j).2.1, (scanS W j).2.2) := by
  have hge := skipTo_ge W j
  rcases scanS_cases W j with ⟨k, h, g⟩ | ⟨k, h, hk, g⟩ | ⟨k, c, x, h, hk, hx, g⟩ | ⟨k, c, kd, s, n, e, h, hk, ho, g⟩
  · rw [g, scanS_open (hs.trans h)]; rfl
  · rw [g, scanS_none (hs.trans h) hk]; rfl
  · rw [g, scanS_err (hs.trans h) hk hx]
    rcases oneS_err hx with rfl | rfl | rfl <;> rfl
  · rw [g, scanS_ok (hs.trans h) hk ho]
    rw [h] at hge
    simp only at hge
    simp
    omega
theorem toks_lay {W : List UInt8} {i j : Nat} (hij : i < j) (hj : j ≤ W.length) (hs : skipTo W i = skipTo W j) : toks W i = (layHead (toks W j).1, (toks W j).2.1, (toks W j).2.2) := by
  rw [toks_eq (i := i) (by omega), toks_eq (i := j) hj]
  rw [scan_lay hij hs]
  simp only
  split
  · rfl
  · split
    · rfl
    · next h4 h0 =>
      have e0 : (scanS W j).2.2 = 0 := by simpa using h0
      by_cases g : (toks W (scanS W j).2.1).2.2 = 0
      · simp only [if_pos g, if_pos e0, layHead]
      · simp only [if_neg g, layHead]
theorem skip_blanks (ws B : List UInt8) (hb : ∀ c ∈ ws, isBlank c = true) : ∀ n, n ≤ ws.length → skipTo (ws ++ B) (ws.length - n) = skipTo (ws ++ B) ws.length
  | 0, _ => rfl
  | n + 1, h => by
    have ih := skip_blanks ws B hb n (by omega)
    have hlt : ws.length - (n + 1) < ws.length := by omega
    have ho : (ws ++ B)[ws.length - (n + 1)]? = some ws[ws.length - (n + 1)] := by
      rw [List.getElem?_append_left hlt]
      exact List.getElem?_eq_getElem hlt
    rw [skipTo_eq ho, if_pos (hb _ (List.getElem_mem hlt))]
    rw [← ih]
    congr 1
    omega
/-- Layout ahead of a text. -/
theorem all_layout (ws B : List UInt8) (h0 : 0 < ws.length) (hb : ∀ c ∈ ws, isBlank c = true) : allS (ws ++ B) = (layHead ((allS B).1.map (shT ws.length)), ws.length + (allS B).2.1, (allS B).2.2) := by
  rw [allS_toks, allS_toks]
  have hs := skip_blanks ws B hb ws.length (Nat.le_refl _)
  rw [Nat.sub_self] at hs
  rw [toks_lay h0 (by simp) hs]
  have := sh_toks ws B 0
  rw [Nat.add_zero] at this
  rw [this]

end Go.El

/- Layer 8 (token): the tokens of two texts with a line's end between. No program in sight. -/
namespace Go.El

section
variable (A B : List UInt8)
/-- Two texts with a line's end between. -/
def joinT : List UInt8 := A ++ 10 :: B
theorem jn_len : (joinT A B).length = A.length + 1 + B.length := by simp [joinT]; omega
theorem jn_get {i : Nat} {c : UInt8} (h : A[i]? = some c) : (joinT A B)[i]? = some c := by
  unfold joinT
  rw [List.getElem?_append_left (List.getElem?_eq_some_iff.1 h).1]
  exact h
theorem jn_end : (joinT A B)[A.length]? = some 10 := by unfold joinT; rw [List.getElem?_append_right (Nat.le_refl _)]; simp
theorem jn_drop {i : Nat} (hi : i ≤ A.length) : (joinT A B).drop i = A.drop i ++ 10 :: B := by unfold joinT; rw [List.drop_append_of_le_length hi]
theorem jn_row {p : UInt8 → Bool} (hp : p 10 = false) {i : Nat} (hi : i ≤ A.length) : rowTo p (joinT A B) i = rowTo p A i := by
  unfold rowTo
  rw [jn_drop A B hi]
  congr 2
  generalize A.drop i = l
  induction l with
  | nil => simp [hp]
  | cons c l ih =>
    rw [List.cons_append, List.takeWhile_cons, List.takeWhile_cons, ih]
theorem closeF_pre (r : List UInt8) : ∀ (l : List UInt8) (n : Nat), closeF l = some n → closeF (l ++ r) = some n
  | [], _, h => by cases h
  | c :: l, n, h => by
    unfold closeF at h
    rw [List.cons_append]
    unfold closeF
    split at h
    · next hc =>
      rw [if_pos ⟨hc.1, by
        rcases l with _ | ⟨d, l⟩
        · simp at hc
        · simpa using hc.2⟩]
      exact h
    · next hc =>
      rw [Option.map_eq_some_iff] at h
      obtain ⟨m, hm, rfl⟩ := h
      have hl : l ≠ [] := by
        rintro rfl
        cases hm
      rw [if_neg (fun g => hc ⟨g.1, by
        rcases l with _ | ⟨d, l⟩
        · exact absurd rfl hl
        · simpa using g.2⟩)]
      rw [closeF_pre r l m hm]
      rfl
theorem jn_close {i e : Nat} (h : close A i = some e) : close (joinT A B) i = some e := by
  have hb := close_bd h
  unfold close at h ⊢
  rw [jn_drop A B (by omega)]
  rw [Option.map_eq_some_iff] at h
  obtain ⟨m, hm, rfl⟩ := h
  rw [closeF_pre _ _ m hm]
  rfl
theorem jn_next {k : Nat} (hk : k < A.length) {x : UInt8} (hx : x ≠ 10) : (joinT A B)[k + 1]? = some x ↔ A[k + 1]? = some x := by
  by_cases h : k + 1 < A.length
  · unfold joinT
    rw [List.getElem?_append_left h]
  · have e : k + 1 = A.length := by omega
    rw [e, jn_end]
    rw [List.getElem?_eq_none (Nat.le_refl _)]
    simp [Ne.symm hx]
theorem jn_skipN : ∀ (n i k : Nat), i ≤ A.length → A.length + 1 - i ≤ n → skipN n A i = (k, true) → skipTo (joinT A B) i = skipTo (joinT A B) k
  | 0, i, k, hi, hn, _ => by omega
  | n + 1, i, k, hi, hn, h => by
    simp only [skipN] at h
    cases hc : A[i]? with
    | none =>
      rw [hc] at h
      injection h with h _
      rw [h]
    | some c =>
      have hlt : i < A.length := (List.getElem?_eq_some_iff.1 hc).1
      rw [hc] at h
      simp only at h
      rw [skipTo_eq (jn_get A B hc)]
      split at h
      · next hb =>
        rw [if_pos hb]
        exact jn_skipN n (i + 1) k hlt (by omega) h
      · next hb =>
        rw [if_neg hb]
        split at h
        · next h37 =>
          subst h37
          have h1 := eol_gt hc
          have h2 : eol (joinT A B) i = eol A i := jn_row A B (by decide) hi
          rw [if_pos rfl, h2]
          exact jn_skipN n (eol A i) k (rowTo_le hi) (by omega) h
        · next h37 =>
          rw [if_neg h37]
          split at h
          · next hcm =>
            rw [if_pos ⟨hcm.1, (jn_next A B hlt (by decide)).2 hcm.2⟩]
            cases hcl : close A (i + 2) with
            | none => rw [hcl] at h; cases h
            | some e =>
              rw [hcl] at h
              have hb2 := close_bd hcl
              rw [jn_close A B hcl]
              exact jn_skipN n (e + 2) k (by omega) (by omega) h
          · next hcm =>
            injection h with h _
            subst h
            rw [skipTo_eq (jn_get A B hc), if_neg hb, if_neg h37]
theorem jn_skip {i k : Nat} (hi : i ≤ A.length) (h : skipTo A i = (k, true)) : skipTo (joinT A B) i = skipTo (joinT A B) k := jn_skipN A B _ i k hi (Nat.le_refl _) h
end

/-- Where layout ends, no layout begins. -/
theorem skipN_stop : ∀ (n : Nat) (B : List UInt8) (i k : Nat) (c : UInt8), B.length + 1 - i ≤ n → i ≤ B.length → skipN n B i = (k, true) → B[k]? = some c → isBlank c = false ∧ c ≠ 37 ∧ ¬ (c = 47 ∧ B[k + 1]? = some 42)
  | 0, B, i, k, c, hn, hi, _, _ => by omega
  | n + 1, B, i, k, c, hn, hi, h, hk => by
    simp only [skipN] at h
    cases hc : B[i]? with
    | none =>
      rw [hc] at h
      injection h with h _
      rw [← h, hc] at hk
      cases hk
    | some d =>
      have hlt : i < B.length := (List.getElem?_eq_some_iff.1 hc).1
      rw [hc] at h
      simp only at h
      split at h
      · exact skipN_stop n B (i + 1) k c (by omega) hlt h hk
      · next hb =>
        split at h
        · next h37 =>
          subst h37
          have h1 := eol_gt hc
          exact skipN_stop n B (eol B i) k c (by omega) (rowTo_le hi) h hk
        · next h37 =>
          split at h
          · cases hcl : close B (i + 2) with
            | none => rw [hcl] at h; cases h
            | some e =>
              rw [hcl] at h
              have hb2 := close_bd hcl
              exact skipN_stop n B (e + 2) k c (by omega) (by omega) h hk
          · next hcm =>
            injection h with h _
            subst h
            rw [hc] at hk
            injection hk with hk
            subst hk
            exact ⟨by simpa using hb, h37, hcm⟩

section
variable (A B : List UInt8)
theorem jn_skip_tok {i k : Nat} {c : UInt8} (hi : i ≤ A.length) (h : skipTo A i = (k, true)) (hk : A[k]? = some c) : skipTo (joinT A B) i = (k, true) := by
  obtain ⟨h1, h2, h3⟩ := skipN_stop _ A i k c (Nat.le_refl _) hi h hk
  have hlt : k < A.length := (List.getElem?_eq_some_iff.1 hk).1
  rw [jn_skip A B hi h, skipTo_eq (jn_get A B hk), if_neg (by simp [h1]), if_neg h2, if_neg (fun g => h3 ⟨g.1, (jn_next A B hlt (by decide)).1 g.2⟩)]
theorem jn_getD {i : Nat} (hi : i < A.length) : (joinT A B).getD i 0 = A.getD i 0 := by
  simp only [List.getD_eq_getElem?_getD]
  rw [jn_get A B (List.getElem?_eq_getElem hi), List.getElem?_eq_getElem hi]
theorem jn_esc {i : Nat} {r : UInt8 × Nat} (h : escS A i = some r) : escS (joinT A B) i = some r := by
  unfold escS at h ⊢
  cases hc : A[i]? with
  | none => rw [hc] at h; cases h
  | some c =>
    have hlt : i < A.length := (List.getElem?_eq_some_iff.1 hc).1
    rw [hc] at h
    rw [jn_get A B hc]
    simp only at h ⊢
    split at h
    · next g => rw [if_pos g]; exact h
    · next g =>
      rw [if_neg g]
      split at h
      · next g => rw [if_pos g]; exact h
      · next g =>
        rw [if_neg g]
        split at h
        · next g => rw [if_pos g]; exact h
        · next g =>
          rw [if_neg g]
          split at h
          · next g =>
            rw [if_pos g, jn_row A B (by decide) hlt]
            split at h
            · next g2 =>
              have hl2 := (List.getElem?_eq_some_iff.1 g2).1
              rw [if_pos (jn_get A B g2)]
              split at h
              · next g3 => rw [if_pos g3, jn_getD A B (by omega)]; exact h
              · next g3 =>
                rw [if_neg g3]
                split at h
                · next g4 => rw [if_pos g4, jn_getD A B (by omega), jn_getD A B (by omega)]; exact h
                · cases h
            · cases h
          · cases h
theorem jn_quoN : ∀ (n i : Nat) (acc : List UInt8) (r : List UInt8 × Nat), A.length + 1 - i ≤ n → i ≤ A.length → quoN n A i acc = some r → quoS (joinT A B) i acc = some r
  | 0, i, acc, r, hn, hi, _ => by omega
  | n + 1, i, acc, r, hn, hi, h => by
    simp only [quoN] at h
    cases hc : A[i]? with
    | none => rw [hc] at h; cases h
    | some c =>
      have hlt : i < A.length := (List.getElem?_eq_some_iff.1 hc).1
      rw [hc] at h
      simp only at h
      rw [quoS_eq (jn_get A B hc)]
      split at h
      · next g =>
        have hl2 := (List.getElem?_eq_some_iff.1 g.2).1
        rw [if_pos ⟨g.1, (jn_next A B hlt (by decide)).2 g.2⟩]
        exact jn_quoN n (i + 2) _ r (by omega) hl2 h
      · next g =>
        rw [if_neg (fun g2 => g ⟨g2.1, (jn_next A B hlt (by decide)).1 g2.2⟩)]
        split at h
        · next g2 => rw [if_pos g2]; exact h
        · next g2 =>
          rw [if_neg g2]
          split at h
          · next g3 =>
            rw [if_pos g3]
            cases he : escS A (i + 1) with
            | none => rw [he] at h; cases h
            | some p =>
              rw [he] at h
              have hb := escS_bd (x := p.1) (j := p.2) he
              rw [jn_esc A B he]
              exact jn_quoN n p.2 _ r (by omega) hb.2 h
          · next g3 =>
            rw [if_neg g3]
            split at h
            · cases h
            · next g4 =>
              rw [if_neg g4]
              exact jn_quoN n (i + 1) _ r (by omega) hlt h
theorem jn_quo {i : Nat} {acc : List UInt8} {r : List UInt8 × Nat} (hi : i ≤ A.length) (h : quoS A i acc = some r) : quoS (joinT A B) i acc = some r := jn_quoN A B _ i acc r (Nat.le_refl _) hi h
theorem jn_ends {k : Nat} (hk : k < A.length) (c : UInt8) : endsS (joinT A B) k c = endsS A k c := by
  unfold endsS
  by_cases h : k + 1 < A.length
  · rw [jn_get A B (List.getElem?_eq_getElem h), List.getElem?_eq_getElem h]
  · have e : k + 1 = A.length := by omega
    rw [e, jn_end, List.getElem?_eq_none (Nat.le_refl _)]
    rfl
theorem jn_sub {i j : Nat} (hj : j ≤ A.length) (hi : i ≤ j) : sub (joinT A B) i j = sub A i j := by
  unfold sub
  rw [jn_drop A B (by omega), List.take_append_of_le_length (by rw [List.length_drop]; omega)]
theorem jn_one {k : Nat} {c : UInt8} (hk : A[k]? = some c) {r : Int × List UInt8 × Int × Nat} (h : oneS A k c = .ok r) : oneS (joinT A B) k c = .ok r := by
  have hlt : k < A.length := (List.getElem?_eq_some_iff.1 hk).1
  have hl : k ≤ A.length := by omega
  unfold oneS at h ⊢
  rw [jn_ends A B hlt, jn_row A B (by decide) hl, jn_row A B (by decide) hl, jn_row A B (by decide) hl]
  rw [jn_sub A B (rowTo_le hl) (rowTo_ge _ _ _), jn_sub A B (rowTo_le hl) (rowTo_ge _ _ _), jn_sub A B (rowTo_le hl) (rowTo_ge _ _ _)]
  split at h
  · next g => rw [if_pos g]; exact h
  · next g =>
    rw [if_neg g]
    split at h
    · next g => rw [if_pos g]; exact h
    · next g =>
      rw [if_neg g]
      split at h
      · next g => rw [if_pos g]; exact h
      · next g =>
        rw [if_neg g]
        split at h
        · next g => rw [if_pos g]; exact h
        · next g =>
          rw [if_neg g]
          split at h
          · next g => rw [if_pos g]; exact h
          · next g =>
            rw [if_neg g]
            split at h
            · next g => rw [if_pos g]; exact h
            · next g =>
              rw [if_neg g]
              split at h
              · next g => rw [if_pos g]; exact h
              · next g =>
                rw [if_neg g]
                split at h
                · next g =>
                  rw [if_pos g]
                  cases hq : quoS A (k + 1) [] with
                  | none => rw [hq] at h; cases h
                  | some p =>
                    rw [hq] at h
                    rw [jn_quo A B hlt hq]
                    exact h
                · cases h
theorem jn_scan {i : Nat} (hi : i ≤ A.length) (h : (scanS A i).2.2 = 0) : scanS (joinT A B) i = scanS A i := by
  rcases scanS_cases A i with ⟨k, _, g⟩ | ⟨k, _, _, g⟩ | ⟨k, c, x, _, _, hx, g⟩ | ⟨k, c, kd, s, n, e, hs, hk, ho, g⟩
  · rw [g] at h; cases h
  · rw [g] at h; cases h
  · rw [g] at h
    rcases oneS_err hx with rfl | rfl | rfl <;> cases h
  · rw [g, scanS_ok (jn_skip_tok A B hi hs hk) (jn_get A B hk) (jn_one A B hk ho)]

/-- Behind the first text's last token: the second text's tokens. -/
theorem jn_last {i : Nat} (hi : i ≤ A.length) (h : (scanS A i).2.2 = 4) : (scanS A i).2.1 = A.length ∧ skipTo (joinT A B) i = skipTo (joinT A B) (A.length + 1) := by
  rcases scanS_cases A i with ⟨k, _, g⟩ | ⟨k, hs, hk, g⟩ | ⟨k, c, x, _, _, hx, g⟩ | ⟨k, c, kd, s, n, e, _, _, _, g⟩
  · rw [g] at h; cases h
  · rw [g]
    have h1 := skipTo_le hi
    rw [hs] at h1
    simp only at h1
    have h2 := List.getElem?_eq_none_iff.1 hk
    obtain rfl : k = A.length := by omega
    refine ⟨rfl, ?_⟩
    rw [jn_skip A B hi hs, skipTo_eq (jn_end A B), if_pos (by decide)]
  · rw [g] at h
    rcases oneS_err hx with rfl | rfl | rfl <;> cases h
  · rw [g] at h; cases h
theorem jn_toksN : ∀ (n i : Nat), A.length + 1 - i ≤ n → i ≤ A.length → (tokN n A i).2.2 = 0 → (toks B 0).2.2 = 0 → (tokN n A i).2.1 = A.length ∧ toks (joinT A B) i = ((tokN n A i).1 ++ layHead ((toks B 0).1.map (shT (A.length + 1))), A.length + 1 + (toks B 0).2.1, 0)
  | 0, i, hn, hi, _, _ => by omega
  | n + 1, i, hn, hi, h, hB => by
    have hij : i ≤ (joinT A B).length := by rw [jn_len]; omega
    simp only [tokN] at h ⊢
    by_cases h4 : (scanS A i).2.2 = 4
    · rw [if_pos h4]
      obtain ⟨h1, h2⟩ := jn_last A B hi h4
      refine ⟨h1, ?_⟩
      rw [toks_lay (W := joinT A B) (i := i) (j := A.length + 1) (by omega) (by rw [jn_len]; omega) h2]
      have hj : joinT A B = (A ++ [10]) ++ B := by simp [joinT]
      have hsh := sh_toks (A ++ [10]) B 0
      rw [← hj, Nat.add_zero, List.length_append] at hsh
      rw [show A.length + [(10 : UInt8)].length = A.length + 1 from rfl] at hsh
      rw [hsh]
      simp [hB]
    · rw [if_neg h4] at h ⊢
      by_cases h0 : (scanS A i).2.2 = 0
      · have hst := scanS_step h0
        have hc := jn_scan A B hi h0
        rw [if_neg (by simpa using h0)] at h ⊢
        by_cases hr : (tokN n A (scanS A i).2.1).2.2 = 0
        · obtain ⟨g1, g2⟩ := jn_toksN n (scanS A i).2.1 (by omega) hst.2 hr hB
          rw [if_pos hr]
          refine ⟨g1, ?_⟩
          rw [toks_eq hij, hc, if_neg h4, if_neg (by simpa using h0), g2]
          simp
        · rw [if_neg hr] at h
          exact absurd h hr
      · rw [if_pos h0] at h
        exact absurd h h0
/-- The tokens of two texts with a line's end between. -/
theorem all_joins (hA : (allS A).2.2 = 0) (hB : (allS B).2.2 = 0) : (allS A).2.1 = A.length ∧ allS (joinT A B) = ((allS A).1 ++ layHead ((allS B).1.map (shT (A.length + 1))), A.length + 1 + (allS B).2.1, 0) := by
  rw [allS_toks, allS_toks, allS_toks] at *
  exact jn_toksN A B _ 0 (Nat.le_refl _) (Nat.zero_le _) hA hB
end

end Go.El
