/- Layer 8 (token): texts as pieces, as plain functions on bytes. No program in sight. -/
import Derived.Test.YtgcdhffeacdegaaGreatDoorC01
import Derived.Test.YtgcdhffeacdegaaGreatDoorC02
import Derived.Lib.ItoaNum
namespace Go.El

def isBlank (c : UInt8) : Bool := c == 32 || c == 9 || c == 10 || c == 13
def isDigit (c : UInt8) : Bool := 48 ≤ c && c ≤ 57
def isPunct (c : UInt8) : Bool := c == 40 || c == 41 || c == 91 || c == 93 || c == 123 || c == 125 || c == 44 || c == 124

/-- The place behind all bytes of a kind from a place on. -/
def rowTo (p : UInt8 → Bool) (B : List UInt8) (i : Nat) : Nat := i + ((B.drop i).takeWhile p).length
theorem drop_cons {B : List UInt8} {i : Nat} {c : UInt8} (h : B[i]? = some c) : B.drop i = c :: B.drop (i + 1) := by
  obtain ⟨hlt, rfl⟩ := List.getElem?_eq_some_iff.1 h
  exact List.drop_eq_getElem_cons hlt
theorem drop_nil {B : List UInt8} {i : Nat} (h : B[i]? = none) : B.drop i = [] := List.drop_eq_nil_of_le (List.getElem?_eq_none_iff.1 h)
theorem rowTo_yes {p : UInt8 → Bool} {B : List UInt8} {i : Nat} {c : UInt8} (h : B[i]? = some c) (hp : p c = true) : rowTo p B i = rowTo p B (i + 1) := by
  unfold rowTo
  rw [drop_cons h, List.takeWhile_cons, hp]
  simp
  omega
theorem rowTo_no {p : UInt8 → Bool} {B : List UInt8} {i : Nat} {c : UInt8} (h : B[i]? = some c) (hp : p c = false) : rowTo p B i = i := by
  unfold rowTo
  rw [drop_cons h, List.takeWhile_cons, hp]
  simp
theorem rowTo_end {p : UInt8 → Bool} {B : List UInt8} {i : Nat} (h : B[i]? = none) : rowTo p B i = i := by
  unfold rowTo
  rw [drop_nil h]
  simp
theorem rowTo_ge (p : UInt8 → Bool) (B : List UInt8) (i : Nat) : i ≤ rowTo p B i := by unfold rowTo; omega
theorem rowTo_le {p : UInt8 → Bool} {B : List UInt8} {i : Nat} (h : i ≤ B.length) : rowTo p B i ≤ B.length := by
  unfold rowTo
  have := (List.takeWhile_sublist p (l := B.drop i)).length_le
  rw [List.length_drop] at this
  omega

/-- Where a line ends. -/
def eol (B : List UInt8) (i : Nat) : Nat := rowTo (fun c => c != 10) B i
/-- Where the end of a comment begins. -/
def closeF : List UInt8 → Option Nat
  | [] => none
  | c :: r => if c = 42 ∧ r.head? = some 47 then some 0 else (closeF r).map (· + 1)
def close (B : List UInt8) (i : Nat) : Option Nat := (closeF (B.drop i)).map (i + ·)
theorem closeF_lt : ∀ {l : List UInt8} {n : Nat}, closeF l = some n → n + 1 < l.length
  | [], _, h => by cases h
  | c :: r, n, h => by
    unfold closeF at h
    split at h
    · next hc =>
      injection h with h
      subst h
      rcases r with _ | ⟨d, r⟩
      · simp at hc
      · simp
    · rw [Option.map_eq_some_iff] at h
      obtain ⟨m, hm, rfl⟩ := h
      have := closeF_lt hm
      simp
      omega
theorem close_bd {B : List UInt8} {i e : Nat} (h : close B i = some e) : i ≤ e ∧ e + 1 < B.length := by
  unfold close at h
  rw [Option.map_eq_some_iff] at h
  obtain ⟨m, hm, rfl⟩ := h
  have := closeF_lt hm
  rw [List.length_drop] at this
  omega

/-- Behind layout; false: a comment has no end, and begins there. -/
def skipN : Nat → List UInt8 → Nat → Nat × Bool
  | 0, _, i => (i, true)
  | n + 1, B, i =>
    match B[i]? with
    | none => (i, true)
    | some c =>
      if isBlank c then skipN n B (i + 1)
      else if c = 37 then skipN n B (eol B i)
      else if c = 47 ∧ B[i + 1]? = some 42 then
        match close B (i + 2) with
        | none => (i, false)
        | some e => skipN n B (e + 2)
      else (i, true)
def skipTo (B : List UInt8) (i : Nat) : Nat × Bool := skipN (B.length + 1 - i) B i

theorem eol_gt {B : List UInt8} {i : Nat} (h : B[i]? = some 37) : i < eol B i := by
  unfold eol
  rw [rowTo_yes h (by decide)]
  have := rowTo_ge (fun c => c != 10) B (i + 1)
  omega
theorem skipN_more : ∀ (n m : Nat) (B : List UInt8) (i : Nat), B.length + 1 - i ≤ n → n ≤ m → skipN m B i = skipN n B i
  | 0, m, B, i, h, _ => by
    have hn : B[i]? = none := List.getElem?_eq_none (by omega)
    cases m with
    | zero => rfl
    | succ m => simp [skipN, hn]
  | n + 1, 0, B, i, _, h => by omega
  | n + 1, m + 1, B, i, h, hm => by
    simp only [skipN]
    cases hc : B[i]? with
    | none => rfl
    | some c =>
      have hlt : i < B.length := (List.getElem?_eq_some_iff.1 hc).1
      simp only
      split
      · exact skipN_more n m B (i + 1) (by omega) (by omega)
      · split
        · next h37 =>
          subst h37
          have := eol_gt hc
          exact skipN_more n m B _ (by omega) (by omega)
        · split
          · cases hcl : close B (i + 2) with
            | none => rfl
            | some e =>
              have := close_bd hcl
              exact skipN_more n m B _ (by omega) (by omega)
          · rfl
theorem skipTo_of {B : List UInt8} {i n : Nat} (h : B.length + 1 - i ≤ n) : skipN n B i = skipTo B i := skipN_more _ _ B i (Nat.le_refl _) h

theorem skipTo_end {B : List UInt8} {i : Nat} (h : B.length ≤ i) : skipTo B i = (i, true) := by
  have hn : B[i]? = none := List.getElem?_eq_none h
  unfold skipTo
  cases B.length + 1 - i with
  | zero => rfl
  | succ n => simp [skipN, hn]
theorem skipTo_eq {B : List UInt8} {i : Nat} {c : UInt8} (h : B[i]? = some c) : skipTo B i =
    if isBlank c then skipTo B (i + 1)
    else if c = 37 then skipTo B (eol B i)
    else if c = 47 ∧ B[i + 1]? = some 42 then
      match close B (i + 2) with
      | none => (i, false)
      | some e => skipTo B (e + 2)
    else (i, true) := by
  have hlt : i < B.length := (List.getElem?_eq_some_iff.1 h).1
  have e1 : B.length + 1 - i = (B.length - i) + 1 := by omega
  have hs : skipTo B i = skipN ((B.length - i) + 1) B i := by unfold skipTo; rw [e1]
  rw [hs]
  simp only [skipN, h]
  split
  · exact skipTo_of (by omega)
  · split
    · next h37 =>
      subst h37
      have := eol_gt h
      exact skipTo_of (by omega)
    · split
      · cases hcl : close B (i + 2) with
        | none => rfl
        | some e =>
          have := close_bd hcl
          exact skipTo_of (by omega)
      · rfl

end Go.El

/- Layer 8 (token): the token at a place, all tokens of a text, as plain functions on bytes. No program in sight. -/
namespace Go.El

def isHex (c : UInt8) : Bool := isDigit c || (97 ≤ c && c ≤ 102)
def hexV (c : UInt8) : Nat := if isDigit c then c.toNat - 48 else c.toNat - 87

/-- The byte behind a backslash, and the place behind. -/
def escS (B : List UInt8) (i : Nat) : Option (UInt8 × Nat) :=
  match B[i]? with
  | none => none
  | some c =>
    if c = 92 ∨ c = 39 then some (c, i + 1)
    else if c = 110 then some (10, i + 1)
    else if c = 116 then some (9, i + 1)
    else if c = 120 then
      let e := rowTo isHex B (i + 1)
      if B[e]? = some 92 then
        if e = i + 2 then some (UInt8.ofNat (hexV (B.getD (i + 1) 0)), e + 1)
        else if e = i + 3 then some (UInt8.ofNat (16 * hexV (B.getD (i + 1) 0) + hexV (B.getD (i + 2) 0)), e + 1)
        else none
      else none
    else none

theorem escS_bd {B : List UInt8} {i : Nat} {x : UInt8} {j : Nat} (h : escS B i = some (x, j)) : i < j ∧ j ≤ B.length := by
  unfold escS at h
  cases hc : B[i]? with
  | none => rw [hc] at h; cases h
  | some c =>
    have hlt : i < B.length := (List.getElem?_eq_some_iff.1 hc).1
    rw [hc] at h
    simp only at h
    split at h
    · injection h with h; injection h with _ h; omega
    · split at h
      · injection h with h; injection h with _ h; omega
      · split at h
        · injection h with h; injection h with _ h; omega
        · split at h
          · split at h
            · next he =>
              have hel := (List.getElem?_eq_some_iff.1 he).1
              have hge := rowTo_ge isHex B (i + 1)
              split at h
              · injection h with h; injection h with _ h; omega
              · split at h
                · injection h with h; injection h with _ h; omega
                · cases h
            · cases h
          · cases h

/-- The name behind a quote, and the place behind; none: it is none. -/
def quoN : Nat → List UInt8 → Nat → List UInt8 → Option (List UInt8 × Nat)
  | 0, _, _, _ => none
  | n + 1, B, i, acc =>
    match B[i]? with
    | none => none
    | some c =>
      if c = 39 ∧ B[i + 1]? = some 39 then quoN n B (i + 2) (acc ++ [39])
      else if c = 39 then some (acc, i + 1)
      else if c = 92 then
        match escS B (i + 1) with
        | none => none
        | some (x, j) => quoN n B j (acc ++ [x])
      else if c < 32 ∨ c = 127 then none
      else quoN n B (i + 1) (acc ++ [c])
def quoS (B : List UInt8) (i : Nat) (acc : List UInt8) : Option (List UInt8 × Nat) := quoN (B.length + 1 - i) B i acc

theorem quoN_more : ∀ (n m : Nat) (B : List UInt8) (i : Nat) (acc : List UInt8), B.length + 1 - i ≤ n → n ≤ m → quoN m B i acc = quoN n B i acc
  | 0, m, B, i, acc, h, _ => by
    have hn : B[i]? = none := List.getElem?_eq_none (by omega)
    cases m with
    | zero => rfl
    | succ m => simp [quoN, hn]
  | n + 1, 0, _, _, _, _, h => by omega
  | n + 1, m + 1, B, i, acc, h, hm => by
    simp only [quoN]
    cases hc : B[i]? with
    | none => rfl
    | some c =>
      have hlt : i < B.length := (List.getElem?_eq_some_iff.1 hc).1
      simp only
      split
      · exact quoN_more n m B _ _ (by omega) (by omega)
      · split
        · rfl
        · split
          · cases he : escS B (i + 1) with
            | none => rfl
            | some p =>
              obtain ⟨x, j⟩ := p
              have := escS_bd he
              exact quoN_more n m B _ _ (by omega) (by omega)
          · split
            · rfl
            · exact quoN_more n m B _ _ (by omega) (by omega)
theorem quoS_of {B : List UInt8} {i n : Nat} {acc : List UInt8} (h : B.length + 1 - i ≤ n) : quoN n B i acc = quoS B i acc := quoN_more _ _ B i acc (Nat.le_refl _) h
theorem quoS_end {B : List UInt8} {i : Nat} {acc : List UInt8} (h : B.length ≤ i) : quoS B i acc = none := by
  have hn : B[i]? = none := List.getElem?_eq_none h
  unfold quoS
  cases B.length + 1 - i with
  | zero => rfl
  | succ n => simp [quoN, hn]
theorem quoS_eq {B : List UInt8} {i : Nat} {c : UInt8} {acc : List UInt8} (h : B[i]? = some c) : quoS B i acc =
    if c = 39 ∧ B[i + 1]? = some 39 then quoS B (i + 2) (acc ++ [39])
    else if c = 39 then some (acc, i + 1)
    else if c = 92 then
      match escS B (i + 1) with
      | none => none
      | some (x, j) => quoS B j (acc ++ [x])
    else if c < 32 ∨ c = 127 then none
    else quoS B (i + 1) (acc ++ [c]) := by
  have hlt : i < B.length := (List.getElem?_eq_some_iff.1 h).1
  have e1 : B.length + 1 - i = (B.length - i) + 1 := by omega
  have hs : quoS B i acc = quoN ((B.length - i) + 1) B i acc := by unfold quoS; rw [e1]
  rw [hs]
  simp only [quoN, h]
  split
  · exact quoS_of (by omega)
  · split
    · rfl
    · split
      · cases he : escS B (i + 1) with
        | none => rfl
        | some p =>
          obtain ⟨x, j⟩ := p
          have := escS_bd he
          exact quoS_of (by omega)
      · split
        · rfl
        · exact quoS_of (by omega)
theorem quoN_bd : ∀ (n : Nat) (B : List UInt8) (i : Nat) (acc s : List UInt8) (j : Nat), quoN n B i acc = some (s, j) → i < j ∧ j ≤ B.length
  | 0, _, _, _, _, _, h => by cases h
  | n + 1, B, i, acc, s, j, h => by
    simp only [quoN] at h
    cases hc : B[i]? with
    | none => rw [hc] at h; cases h
    | some c =>
      have hlt : i < B.length := (List.getElem?_eq_some_iff.1 hc).1
      rw [hc] at h
      simp only at h
      split at h
      · have := quoN_bd n B _ _ _ _ h; omega
      · split at h
        · injection h with h; injection h with _ h; omega
        · split at h
          · cases he : escS B (i + 1) with
            | none => rw [he] at h; cases h
            | some p =>
              obtain ⟨x, k⟩ := p
              rw [he] at h
              have := escS_bd he
              have := quoN_bd n B _ _ _ _ h
              omega
          · split at h
            · cases h
            · have := quoN_bd n B _ _ _ _ h; omega

/-- What digits say. -/
def numV (l : List UInt8) : Nat := l.foldl (fun n c => 10 * n + (c.toNat - 48)) 0

/-- A token: its kind, its text, its number, its place, layout ahead. -/
structure TokV where
  kind : Int
  s : ByteArray
  n : Int
  at_ : Int
  lay : Bool
  deriving DecidableEq
def zeroT : TokV := ⟨0, ⟨#[]⟩, 0, 0, false⟩

def sub (B : List UInt8) (i j : Nat) : List UInt8 := (B.drop i).take (j - i)

/-- A name of a kind that ends at a place, if it is not too long. -/
def nameS (k : Int) (s : List UInt8) (e : Nat) : Except Int (Int × List UInt8 × Int × Nat) := if 64 < s.length then .error 3 else .ok (k, s, 0, e)
/-- Does a point at a place end a clause? -/
def endsS (B : List UInt8) (i : Nat) (c : UInt8) : Bool := c == 46 && (match B[i + 1]? with | none => true | some d => isBlank d || d == 37)
/-- The token that begins at a place: its kind, its text, its number, the place behind; or what is wrong. -/
def oneS (B : List UInt8) (i : Nat) (c : UInt8) : Except Int (Int × List UInt8 × Int × Nat) :=
  if endsS B i c then nameS 6 [c] (i + 1)
  else if isSmall c then nameS 1 (sub B i (rowTo isWord B i)) (rowTo isWord B i)
  else if isSign c then nameS 1 (sub B i (rowTo isSign B i)) (rowTo isSign B i)
  else if c = 33 ∨ c = 59 then nameS 1 [c] (i + 1)
  else if isDigit c then
    (if numV (sub B i (rowTo isDigit B i)) ≤ 9007199254740991 then .ok (4, [], numV (sub B i (rowTo isDigit B i)), rowTo isDigit B i) else .error 81)
  else if isWord c then nameS 3 (sub B i (rowTo isWord B i)) (rowTo isWord B i)
  else if isPunct c then nameS 5 [c] (i + 1)
  else if c = 39 then
    match quoS B (i + 1) [] with
    | none => .error 80
    | some (s, e) => nameS 2 s e
  else .error 80

/-- The token from a place on, the place behind it, what is wrong. -/
def scanS (B : List UInt8) (i : Nat) : TokV × Nat × Int :=
  match skipTo B i with
  | (k, false) => (zeroT, k, 80)
  | (k, true) =>
    match B[k]? with
    | none => (zeroT, k, 4)
    | some c =>
      match oneS B k c with
      | .error e => (zeroT, k, e)
      | .ok (kd, s, n, e) => (⟨kd, ⟨s.toArray⟩, n, k, decide (i < k)⟩, e, 0)

end Go.El

/- Layer 8 (token): bounds of tokens; all tokens, step by step. No program in sight. -/
namespace Go.El

theorem skipN_bd : ∀ (n : Nat) (B : List UInt8) (i : Nat), i ≤ (skipN n B i).1 ∧ (i ≤ B.length → (skipN n B i).1 ≤ B.length)
  | 0, _, _ => ⟨Nat.le_refl _, fun h => h⟩
  | n + 1, B, i => by
    simp only [skipN]
    cases hc : B[i]? with
    | none => exact ⟨Nat.le_refl _, fun h => h⟩
    | some c =>
      have hlt : i < B.length := (List.getElem?_eq_some_iff.1 hc).1
      simp only
      split
      · have := skipN_bd n B (i + 1)
        exact ⟨by omega, fun _ => this.2 (by omega)⟩
      · split
        · next h37 =>
          subst h37
          have h1 := eol_gt hc
          have h2 := skipN_bd n B (eol B i)
          exact ⟨by omega, fun _ => h2.2 (rowTo_le (by omega))⟩
        · split
          · cases hcl : close B (i + 2) with
            | none => exact ⟨Nat.le_refl _, fun h => h⟩
            | some e =>
              have h1 := close_bd hcl
              have h2 := skipN_bd n B (e + 2)
              simp only
              exact ⟨by omega, fun _ => h2.2 (by omega)⟩
          · exact ⟨Nat.le_refl _, fun h => h⟩
theorem skipTo_ge (B : List UInt8) (i : Nat) : i ≤ (skipTo B i).1 := (skipN_bd _ B i).1
theorem skipTo_le {B : List UInt8} {i : Nat} (h : i ≤ B.length) : (skipTo B i).1 ≤ B.length := (skipN_bd _ B i).2 h

theorem rowTo_gt {p : UInt8 → Bool} {B : List UInt8} {i : Nat} {c : UInt8} (h : B[i]? = some c) (hp : p c = true) : i < rowTo p B i := by
  rw [rowTo_yes h hp]
  have := rowTo_ge p B (i + 1)
  omega
theorem small_word (c : UInt8) (h : isSmall c = true) : isWord c = true := by unfold isWord; rw [h]; rfl

theorem nameS_eq {k : Int} {s : List UInt8} {e : Nat} {x : Int × List UInt8 × Int × Nat} (h : nameS k s e = .ok x) : x = (k, s, 0, e) ∧ s.length ≤ 64 := by
  unfold nameS at h
  split at h
  · cases h
  · next hl =>
    injection h with h
    exact ⟨h.symm, by omega⟩
theorem nameS_err {k : Int} {s : List UInt8} {e : Nat} {x : Int} (h : nameS k s e = .error x) : x = 3 := by
  unfold nameS at h
  split at h
  · injection h with h; exact h.symm
  · cases h

theorem oneS_bd {B : List UInt8} {i : Nat} {c : UInt8} (ho : B[i]? = some c) {kd : Int} {s : List UInt8} {n : Int} {e : Nat} (h : oneS B i c = .ok (kd, s, n, e)) : i < e ∧ e ≤ B.length := by
  have hlt : i < B.length := (List.getElem?_eq_some_iff.1 ho).1
  have key : ∀ {k s' e'}, nameS k s' e' = .ok (kd, s, n, e) → i < e' → e' ≤ B.length → i < e ∧ e ≤ B.length := by
    intro k s' e' h1 h2 h3
    have := (nameS_eq h1).1
    injection this with _ this
    injection this with _ this
    injection this with _ this
    subst this
    exact ⟨h2, h3⟩
  unfold oneS at h
  split at h
  · exact key h (by omega) (by omega)
  · split at h
    · next g => exact key h (rowTo_gt ho (small_word c g)) (rowTo_le (by omega))
    · split at h
      · next g => exact key h (rowTo_gt ho g) (rowTo_le (by omega))
      · split at h
        · exact key h (by omega) (by omega)
        · split at h
          · next g =>
            split at h
            · injection h with h
              injection h with _ h
              injection h with _ h
              injection h with _ h
              subst h
              exact ⟨rowTo_gt ho g, rowTo_le (by omega)⟩
            · cases h
          · split at h
            · next g => exact key h (rowTo_gt ho g) (rowTo_le (by omega))
            · split at h
              · exact key h (by omega) (by omega)
              · split at h
                · cases hq : quoS B (i + 1) [] with
                  | none => rw [hq] at h; cases h
                  | some p =>
                    obtain ⟨s', e'⟩ := p
                    rw [hq] at h
                    have := quoN_bd _ _ _ _ _ _ hq
                    exact key h (by omega) (by omega)
                · cases h
theorem oneS_err {B : List UInt8} {i : Nat} {c : UInt8} {x : Int} (h : oneS B i c = .error x) : x = 3 ∨ x = 80 ∨ x = 81 := by
  unfold oneS at h
  split at h
  · exact .inl (nameS_err h)
  · split at h
    · exact .inl (nameS_err h)
    · split at h
      · exact .inl (nameS_err h)
      · split at h
        · exact .inl (nameS_err h)
        · split at h
          · split at h
            · cases h
            · injection h with h; exact .inr (.inr h.symm)
          · split at h
            · exact .inl (nameS_err h)
            · split at h
              · exact .inl (nameS_err h)
              · split at h
                · cases hq : quoS B (i + 1) [] with
                  | none => rw [hq] at h; injection h with h; exact .inr (.inl h.symm)
                  | some p =>
                    obtain ⟨s', e'⟩ := p
                    rw [hq] at h
                    exact .inl (nameS_err h)
                · injection h with h; exact .inr (.inl h.symm)

/-- A scan in its cases. -/
theorem scanS_open {B : List UInt8} {i k : Nat} (h : skipTo B i = (k, false)) : scanS B i = (zeroT, k, 80) := by unfold scanS; rw [h]
theorem scanS_none {B : List UInt8} {i k : Nat} (h : skipTo B i = (k, true)) (hk : B[k]? = none) : scanS B i = (zeroT, k, 4) := by unfold scanS; rw [h]; simp only; rw [hk]
theorem scanS_err {B : List UInt8} {i k : Nat} {c : UInt8} {x : Int} (h : skipTo B i = (k, true)) (hk : B[k]? = some c) (ho : oneS B k c = .error x) : scanS B i = (zeroT, k, x) := by unfold scanS; rw [h]; simp only; rw [hk]; simp only; rw [ho]
theorem scanS_ok {B : List UInt8} {i k : Nat} {c : UInt8} {kd : Int} {s : List UInt8} {n : Int} {e : Nat} (h : skipTo B i = (k, true)) (hk : B[k]? = some c) (ho : oneS B k c = .ok (kd, s, n, e)) : scanS B i = (⟨kd, ⟨s.toArray⟩, n, k, decide (i < k)⟩, e, 0) := by unfold scanS; rw [h]; simp only; rw [hk]; simp only; rw [ho]
theorem scanS_cases (B : List UInt8) (i : Nat) : (∃ k, skipTo B i = (k, false) ∧ scanS B i = (zeroT, k, 80)) ∨ (∃ k, skipTo B i = (k, true) ∧ B[k]? = none ∧ scanS B i = (zeroT, k, 4)) ∨ (∃ k c x, skipTo B i = (k, true) ∧ B[k]? = some c ∧ oneS B k c = .error x ∧ scanS B i = (zeroT, k, x)) ∨ (∃ k c kd s n e, skipTo B i = (k, true) ∧ B[k]? = some c ∧ oneS B k c = .ok (kd, s, n, e) ∧ scanS B i = (⟨kd, ⟨s.toArray⟩, n, k, decide (i < k)⟩, e, 0)) := by
  cases h : skipTo B i with
  | mk k ok =>
    cases ok
    · exact .inl ⟨k, rfl, scanS_open h⟩
    · cases hk : B[k]? with
      | none => exact .inr (.inl ⟨k, rfl, hk, scanS_none h hk⟩)
      | some c =>
        cases ho : oneS B k c with
        | error x => exact .inr (.inr (.inl ⟨k, c, x, rfl, hk, ho, scanS_err h hk ho⟩))
        | ok y =>
          obtain ⟨kd, s, n, e⟩ := y
          exact .inr (.inr (.inr ⟨k, c, kd, s, n, e, rfl, hk, ho, scanS_ok h hk ho⟩))
theorem scanS_err5 (B : List UInt8) (i : Nat) : (scanS B i).2.2 = 0 ∨ (scanS B i).2.2 = 3 ∨ (scanS B i).2.2 = 4 ∨ (scanS B i).2.2 = 80 ∨ (scanS B i).2.2 = 81 := by
  rcases scanS_cases B i with ⟨k, _, h⟩ | ⟨k, _, _, h⟩ | ⟨k, c, x, _, _, hx, h⟩ | ⟨k, c, kd, s, n, e, _, _, _, h⟩
  · rw [h]; simp
  · rw [h]; simp
  · rw [h]
    rcases oneS_err hx with rfl | rfl | rfl <;> simp
  · rw [h]; simp
/-- A token lies behind the place where its scan began, and ahead of the place behind it. -/
theorem scanS_bd {B : List UInt8} {i : Nat} (h : (scanS B i).2.2 = 0) : (i : Int) ≤ (scanS B i).1.at_ ∧ (scanS B i).1.at_ < (scanS B i).2.1 ∧ (scanS B i).2.1 ≤ B.length := by
  rcases scanS_cases B i with ⟨k, _, g⟩ | ⟨k, _, _, g⟩ | ⟨k, c, x, _, _, hx, g⟩ | ⟨k, c, kd, s, n, e, hs, hk, ho, g⟩
  · rw [g] at h; cases h
  · rw [g] at h; cases h
  · rw [g] at h
    rcases oneS_err hx with rfl | rfl | rfl <;> cases h
  · rw [g]
    have h1 := oneS_bd hk ho
    have h2 := skipTo_ge B i
    rw [hs] at h2
    simp only at h2 ⊢
    omega
theorem scanS_step {B : List UInt8} {i : Nat} (h : (scanS B i).2.2 = 0) : i < (scanS B i).2.1 ∧ (scanS B i).2.1 ≤ B.length := by
  have := scanS_bd h
  omega
theorem scanS_le {B : List UInt8} {i : Nat} (hi : i ≤ B.length) : (scanS B i).2.1 ≤ B.length := by
  rcases scanS_cases B i with ⟨k, hs, g⟩ | ⟨k, hs, _, g⟩ | ⟨k, c, x, hs, hk, hx, g⟩ | ⟨k, c, kd, s, n, e, hs, hk, ho, g⟩
  · rw [g]; have := skipTo_le hi; rw [hs] at this; exact this
  · rw [g]; have := skipTo_le hi; rw [hs] at this; exact this
  · rw [g]; have := skipTo_le hi; rw [hs] at this; exact this
  · rw [g]; exact (oneS_bd hk ho).2

end Go.El

/- Layer 8 (token): the tokens of a text behind others: places move, nothing else. No program in sight. -/
namespace Go.El

/-- All tokens from a place on, without a list ahead. -/
def tokN : Nat → List UInt8 → Nat → List TokV × Nat × Int
  | 0, _, i => ([], i, 0)
  | n + 1, B, i =>
    if (scanS B i).2.2 = 4 then ([], (scanS B i).2.1, 0)
    else if (scanS B i).2.2 ≠ 0 then ([], (scanS B i).2.1, (scanS B i).2.2)
    else if (tokN n B (scanS B i).2.1).2.2 = 0 then ((scanS B i).1 :: (tokN n B (scanS B i).2.1).1, (tokN n B (scanS B i).2.1).2.1, 0)
    else ([], (tokN n B (scanS B i).2.1).2.1, (tokN n B (scanS B i).2.1).2.2)
def toks (B : List UInt8) (i : Nat) : List TokV × Nat × Int := tokN (B.length + 1 - i) B i
section
variable (ws B : List UInt8)
end

end Go.El

/- Layer 8 (token): the tokens of two texts with a line's end between. No program in sight. -/
namespace Go.El

section
variable (A B : List UInt8)
end

section
variable (A B : List UInt8)
end

end Go.El

/- Layer 8 (token): a name's text, scanned, is that name. No program in sight. -/
namespace Go.El

theorem escS_n {B : List UInt8} {i : Nat} (h : B[i]? = some 110) : escS B i = some (10, i + 1) := by
  unfold escS
  rw [h]
  rfl
theorem escS_t {B : List UInt8} {i : Nat} (h : B[i]? = some 116) : escS B i = some (9, i + 1) := by
  unfold escS
  rw [h]
  rfl
theorem takeWhile_all {p : UInt8 → Bool} : ∀ {l : List UInt8}, l.all p = true → l.takeWhile p = l
  | [], _ => rfl
  | c :: l, h => by
    rw [List.all_cons, Bool.and_eq_true] at h
    rw [List.takeWhile_cons, h.1, takeWhile_all h.2]
    rfl
end Go.El

/- Layers 6 and 11, plain: terms, whether they may be, and their texts. No program in sight. -/
namespace Go.El

inductive Tm where
  | mk (k n : Int) (s : ByteArray) (l : List Tm)
def Tm.k : Tm → Int | .mk k _ _ _ => k
def Tm.n : Tm → Int | .mk _ n _ _ => n
def Tm.s : Tm → ByteArray | .mk _ _ s _ => s
def Tm.l : Tm → List Tm | .mk _ _ _ l => l

mutual
def szT : Tm → Nat
  | .mk _ _ _ l => 1 + szL l
def szL : List Tm → Nat
  | [] => 0
  | t :: r => szT t + szL r
end
mutual
def dpT : Tm → Nat
  | .mk _ _ _ l => 1 + dpL l
def dpL : List Tm → Nat
  | [] => 0
  | t :: r => max (dpT t) (dpL r)
end
/-- May a part be so, its arguments not asked? -/
def partK (k n : Int) (s : ByteArray) (m : Nat) : Bool :=
  if k = 1 then decide (0 ≤ n ∧ n < 1073741824 ∧ s.size = 0 ∧ m = 0)
  else if k = 2 then decide (-9007199254740991 ≤ n ∧ n ≤ 9007199254740991 ∧ s.size = 0 ∧ m = 0)
  else if k = 3 then decide (n = 0 ∧ s.size ≤ 64 ∧ m = 0)
  else if k = 4 then decide (n = 0 ∧ s.size ≤ 64 ∧ 1 ≤ m ∧ m ≤ 16)
  else false
mutual
def okT : Tm → Bool
  | .mk k n s l => partK k n s l.length && okL l
def okL : List Tm → Bool
  | [] => true
  | t :: r => okT t && okL r
end
/-- What is wrong with a term; 0: nothing. -/
def chkT (t : Tm) : Int := if okT t = false then 60 else if 200 < dpT t then 61 else if 4096 < szT t then 62 else 0

theorem szT_pos (t : Tm) : 1 ≤ szT t := by cases t; simp [szT]
theorem dpT_pos (t : Tm) : 1 ≤ dpT t := by cases t; simp [dpT]
theorem szL_get : ∀ {l : List Tm} {j : Nat} {t : Tm}, l[j]? = some t → szT t ≤ szL l
  | [], j, t, h => by simp at h
  | a :: r, 0, t, h => by
    simp at h
    subst h
    simp [szL]
  | a :: r, j + 1, t, h => by
    have := szL_get (l := r) (j := j) (t := t) (by simpa using h)
    simp only [szL]
    omega
theorem szL_take : ∀ {l : List Tm} {j : Nat} {t : Tm}, l[j]? = some t → szL (l.take (j + 1)) = szL (l.take j) + szT t
  | [], j, t, h => by simp at h
  | a :: r, 0, t, h => by
    simp at h
    subst h
    simp [szL]
  | a :: r, j + 1, t, h => by
    have := szL_take (l := r) (j := j) (t := t) (by simpa using h)
    simp only [List.take_succ_cons, szL]
    rw [this]
    omega
theorem szL_take_le : ∀ (l : List Tm) (j : Nat), szL (l.take j) ≤ szL l
  | [], j => by simp [szL]
  | a :: r, 0 => by simp [szL]
  | a :: r, j + 1 => by
    have := szL_take_le r j
    simp only [List.take_succ_cons, szL]
    omega
theorem len_szL : ∀ l : List Tm, l.length ≤ szL l
  | [] => Nat.le_refl _
  | t :: l => by
    have := len_szL l
    have := szT_pos t
    simp only [List.length_cons, szL]
    omega
theorem dpL_get : ∀ {l : List Tm} {j : Nat} {t : Tm}, l[j]? = some t → dpT t ≤ dpL l
  | [], j, t, h => by simp at h
  | a :: r, 0, t, h => by
    simp at h
    subst h
    simp only [dpL]
    omega
  | a :: r, j + 1, t, h => by
    have := dpL_get (l := r) (j := j) (t := t) (by simpa using h)
    simp only [dpL]
    omega
theorem dpL_take : ∀ {l : List Tm} {j : Nat} {t : Tm}, l[j]? = some t → dpL (l.take (j + 1)) = max (dpL (l.take j)) (dpT t)
  | [], j, t, h => by simp at h
  | a :: r, 0, t, h => by
    simp at h
    subst h
    simp [dpL]
  | a :: r, j + 1, t, h => by
    have := dpL_take (l := r) (j := j) (t := t) (by simpa using h)
    simp only [List.take_succ_cons, dpL]
    rw [this]
    omega
theorem okL_take : ∀ {l : List Tm} {j : Nat} {t : Tm}, l[j]? = some t → okL (l.take (j + 1)) = (okL (l.take j) && okT t)
  | [], j, t, h => by simp at h
  | a :: r, 0, t, h => by
    simp at h
    subst h
    simp [okL]
  | a :: r, j + 1, t, h => by
    have := okL_take (l := r) (j := j) (t := t) (by simpa using h)
    simp only [List.take_succ_cons, okL]
    rw [this, Bool.and_assoc]
theorem okL_get : ∀ {l : List Tm} {j : Nat} {t : Tm}, okL l = true → l[j]? = some t → okT t = true
  | [], j, t, _, h => by simp at h
  | a :: r, 0, t, ho, h => by
    simp at h
    subst h
    simp only [okL, Bool.and_eq_true] at ho
    exact ho.1
  | a :: r, j + 1, t, ho, h => by
    simp only [okL, Bool.and_eq_true] at ho
    exact okL_get (l := r) (j := j) ho.2 (by simpa using h)

abbrev OpsV := Option (List OpV × List OpV)
end Go.El
