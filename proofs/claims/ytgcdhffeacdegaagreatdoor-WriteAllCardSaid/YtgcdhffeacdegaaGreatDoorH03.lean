/- Layer 8 (token): texts as pieces, as plain functions on bytes. No program in sight. -/
import Derived.Test.YtgcdhffeacdegaaGreatDoorH01
namespace Go.El
def isBlank (c : UInt8) : Bool := c == 32 || c == 9 || c == 10 || c == 13
def isDigit (c : UInt8) : Bool := 48 ≤ c && c ≤ 57
def isPunct (c : UInt8) : Bool := c == 40 || c == 41 || c == 91 || c == 93 || c == 123 || c == 125 || c == 44 || c == 124
def rowTo (p : UInt8 → Bool) (B : List UInt8) (i : Nat) : Nat := i + ((B.drop i).takeWhile p).length
theorem drop_cons {B : List UInt8} {i : Nat} {c : UInt8} (h : B[i]? = some c) : B.drop i = c :: B.drop (i + 1) := by
 obtain ⟨hlt, rfl⟩ := List.getElem?_eq_some_iff.1 h
 exact List.drop_eq_getElem_cons hlt
theorem drop_nil {B : List UInt8} {i : Nat} (h : B[i]? = none) : B.drop i = [] := List.drop_eq_nil_of_le (List.getElem?_eq_none_iff.1 h)
theorem rowTo_yes {p : UInt8 → Bool} {B : List UInt8} {i : Nat} {c : UInt8} (h : B[i]? = some c) (hp : p c = true) : rowTo p B i = rowTo p B (i + 1) := by
 unfold rowTo
 rw [drop_cons h, List.takeWhile_cons, hp]
 simp
 omega
theorem rowTo_no {p : UInt8 → Bool} {B : List UInt8} {i : Nat} {c : UInt8} (h : B[i]? = some c) (hp : p c = false) : rowTo p B i = i := by
 unfold rowTo
 rw [drop_cons h, List.takeWhile_cons, hp]
 simp
theorem rowTo_end {p : UInt8 → Bool} {B : List UInt8} {i : Nat} (h : B[i]? = none) : rowTo p B i = i := by
 unfold rowTo
 rw [drop_nil h]
 simp
theorem rowTo_ge (p : UInt8 → Bool) (B : List UInt8) (i : Nat) : i ≤ rowTo p B i := by unfold rowTo; omega
theorem rowTo_le {p : UInt8 → Bool} {B : List UInt8} {i : Nat} (h : i ≤ B.length) : rowTo p B i ≤ B.length := by
 unfold rowTo
 have := (List.takeWhile_sublist p (l := B.drop i)).length_le
 rw [List.length_drop] at this
 omega
def eol (B : List UInt8) (i : Nat) : Nat := rowTo (fun c => c != 10) B i
def closeF : List UInt8 → Option Nat
 | [] => none
 | c :: r => if c = 42 ∧ r.head? = some 47 then some 0 else (closeF r).map (· + 1)
def close (B : List UInt8) (i : Nat) : Option Nat := (closeF (B.drop i)).map (i + ·)
theorem closeF_lt : ∀ {l : List UInt8} {n : Nat}, closeF l = some n → n + 1 < l.length
 | [], _, h => by cases h
 | c :: r, n, h => by
  unfold closeF at h
  split at h
  ·next hc =>
   injection h with h
   subst h
   rcases r with _ | ⟨d, r⟩
   ·simp at hc
   ·simp
  ·rw [Option.map_eq_some_iff] at h
   obtain ⟨m, hm, rfl⟩ := h
   have := closeF_lt hm
   simp
   omega
theorem close_bd {B : List UInt8} {i e : Nat} (h : close B i = some e) : i ≤ e ∧ e + 1 < B.length := by
 unfold close at h
 rw [Option.map_eq_some_iff] at h
 obtain ⟨m, hm, rfl⟩ := h
 have := closeF_lt hm
 rw [List.length_drop] at this
 omega
def skipN : Nat → List UInt8 → Nat → Nat × Bool
 | 0, _, i => (i, true)
 | n + 1, B, i =>
  match B[i]? with
  | none => (i, true)
  | some c =>
   if isBlank c then skipN n B (i + 1)
   else if c = 37 then skipN n B (eol B i)
   else if c = 47 ∧ B[i + 1]? = some 42 then
    match close B (i + 2) with
    | none => (i, false)
    | some e => skipN n B (e + 2)
   else (i, true)
def skipTo (B : List UInt8) (i : Nat) : Nat × Bool := skipN (B.length + 1 - i) B i
theorem eol_gt {B : List UInt8} {i : Nat} (h : B[i]? = some 37) : i < eol B i := by
 unfold eol
 rw [rowTo_yes h (by decide)]
 have := rowTo_ge (fun c => c != 10) B (i + 1)
 omega
theorem skipN_more : ∀ (n m : Nat) (B : List UInt8) (i : Nat), B.length + 1 - i ≤ n → n ≤ m → skipN m B i = skipN n B i
 | 0, m, B, i, h, _ => by
  have hn : B[i]? = none := List.getElem?_eq_none (by omega)
  cases m with
  | zero => rfl
  | succ m => simp [skipN, hn]
 | n + 1, 0, B, i, _, h => by omega
 | n + 1, m + 1, B, i, h, hm => by
  simp only [skipN]
  cases hc : B[i]? with
  | none => rfl
  | some c =>
   have hlt : i < B.length := (List.getElem?_eq_some_iff.1 hc).1
   simp only
   split
   ·exact skipN_more n m B (i + 1) (by omega) (by omega)
   ·split
    ·next h37 =>
     subst h37
     have := eol_gt hc
     exact skipN_more n m B _ (by omega) (by omega)
    ·split
     ·cases hcl : close B (i + 2) with
      | none => rfl
      | some e =>
       have := close_bd hcl
       exact skipN_more n m B _ (by omega) (by omega)
     ·rfl
theorem skipTo_of {B : List UInt8} {i n : Nat} (h : B.length + 1 - i ≤ n) : skipN n B i = skipTo B i := skipN_more _ _ B i (Nat.le_refl _) h
theorem skipTo_end {B : List UInt8} {i : Nat} (h : B.length ≤ i) : skipTo B i = (i, true) := by
 have hn : B[i]? = none := List.getElem?_eq_none h
 unfold skipTo
 cases B.length + 1 - i with
 | zero => rfl
 | succ n => simp [skipN, hn]
theorem skipTo_eq {B : List UInt8} {i : Nat} {c : UInt8} (h : B[i]? = some c) : skipTo B i =
  if isBlank c then skipTo B (i + 1)
  else if c = 37 then skipTo B (eol B i)
  else if c = 47 ∧ B[i + 1]? = some 42 then
   match close B (i + 2) with
   | none => (i, false)
   | some e => skipTo B (e + 2)
  else (i, true) := by
 have hlt : i < B.length := (List.getElem?_eq_some_iff.1 h).1
 have e1 : B.length + 1 - i = (B.length - i) + 1 := by omega
 have hs : skipTo B i = skipN ((B.length - i) + 1) B i := by unfold skipTo; rw [e1]
 rw [hs]
 simp only [skipN, h]
 split
 ·exact skipTo_of (by omega)
 ·split
  ·next h37 =>
   subst h37
   have := eol_gt h
   exact skipTo_of (by omega)
  ·split
   ·cases hcl : close B (i + 2) with
    | none => rfl
    | some e =>
     have := close_bd hcl
     exact skipTo_of (by omega)
   ·rfl
end Go.El
/- Layer 8 (token): the token at a place, all tokens of a text, as plain functions on bytes. No program in sight. -/
namespace Go.El
def isHex (c : UInt8) : Bool := isDigit c || (97 ≤ c && c ≤ 102)
def hexV (c : UInt8) : Nat := if isDigit c then c.toNat - 48 else c.toNat - 87
def escS (B : List UInt8) (i : Nat) : Option (UInt8 × Nat) :=
 match B[i]? with
 | none => none
 | some c =>
  if c = 92 ∨ c = 39 then some (c, i + 1)
  else if c = 110 then some (10, i + 1)
  else if c = 116 then some (9, i + 1)
  else if c = 120 then
   let e := rowTo isHex B (i + 1)
   if B[e]? = some 92 then
    if e = i + 2 then some (UInt8.ofNat (hexV (B.getD (i + 1) 0)), e + 1)
    else if e = i + 3 then some (UInt8.ofNat (16 * hexV (B.getD (i + 1) 0) + hexV (B.getD (i + 2) 0)), e + 1)
    else none
   else none
  else none
theorem escS_bd {B : List UInt8} {i : Nat} {x : UInt8} {j : Nat} (h : escS B i = some (x, j)) : i < j ∧ j ≤ B.length := by
 unfold escS at h
 cases hc : B[i]? with
 | none => rw [hc] at h; cases h
 | some c =>
  have hlt : i < B.length := (List.getElem?_eq_some_iff.1 hc).1
  rw [hc] at h
  simp only at h
  split at h
  ·injection h with h; injection h with _ h; omega
  ·split at h
   ·injection h with h; injection h with _ h; omega
   ·split at h
    ·injection h with h; injection h with _ h; omega
    ·split at h
     ·split at h
      ·next he =>
       have hel := (List.getElem?_eq_some_iff.1 he).1
       have hge := rowTo_ge isHex B (i + 1)
       split at h
       ·injection h with h; injection h with _ h; omega
       ·split at h
        ·injection h with h; injection h with _ h; omega
        ·cases h
      ·cases h
     ·cases h
def quoN : Nat → List UInt8 → Nat → List UInt8 → Option (List UInt8 × Nat)
 | 0, _, _, _ => none
 | n + 1, B, i, acc =>
  match B[i]? with
  | none => none
  | some c =>
   if c = 39 ∧ B[i + 1]? = some 39 then quoN n B (i + 2) (acc ++ [39])
   else if c = 39 then some (acc, i + 1)
   else if c = 92 then
    match escS B (i + 1) with
    | none => none
    | some (x, j) => quoN n B j (acc ++ [x])
   else if c < 32 ∨ c = 127 then none
   else quoN n B (i + 1) (acc ++ [c])
def quoS (B : List UInt8) (i : Nat) (acc : List UInt8) : Option (List UInt8 × Nat) := quoN (B.length + 1 - i) B i acc
theorem quoN_more : ∀ (n m : Nat) (B : List UInt8) (i : Nat) (acc : List UInt8), B.length + 1 - i ≤ n → n ≤ m → quoN m B i acc = quoN n B i acc
 | 0, m, B, i, acc, h, _ => by
  have hn : B[i]? = none := List.getElem?_eq_none (by omega)
  cases m with
  | zero => rfl
  | succ m => simp [quoN, hn]
 | n + 1, 0, _, _, _, _, h => by omega
 | n + 1, m + 1, B, i, acc, h, hm => by
  simp only [quoN]
  cases hc : B[i]? with
  | none => rfl
  | some c =>
   have hlt : i < B.length := (List.getElem?_eq_some_iff.1 hc).1
   simp only
   split
   ·exact quoN_more n m B _ _ (by omega) (by omega)
   ·split
    ·rfl
    ·split
     ·cases he : escS B (i + 1) with
      | none => rfl
      | some p =>
       obtain ⟨x, j⟩ := p
       have := escS_bd he
       exact quoN_more n m B _ _ (by omega) (by omega)
     ·split
      ·rfl
      ·exact quoN_more n m B _ _ (by omega) (by omega)
theorem quoS_of {B : List UInt8} {i n : Nat} {acc : List UInt8} (h : B.length + 1 - i ≤ n) : quoN n B i acc = quoS B i acc := quoN_more _ _ B i acc (Nat.le_refl _) h
theorem quoS_end {B : List UInt8} {i : Nat} {acc : List UInt8} (h : B.length ≤ i) : quoS B i acc = none := by
 have hn : B[i]? = none := List.getElem?_eq_none h
 unfold quoS
 cases B.length + 1 - i with
 | zero => rfl
 | succ n => simp [quoN, hn]
theorem quoS_eq {B : List UInt8} {i : Nat} {c : UInt8} {acc : List UInt8} (h : B[i]? = some c) : quoS B i acc =
  if c = 39 ∧ B[i + 1]? = some 39 then quoS B (i + 2) (acc ++ [39])
  else if c = 39 then some (acc, i + 1)
  else if c = 92 then
   match escS B (i + 1) with
   | none => none
   | some (x, j) => quoS B j (acc ++ [x])
  else if c < 32 ∨ c = 127 then none
  else quoS B (i + 1) (acc ++ [c]) := by
 have hlt : i < B.length := (List.getElem?_eq_some_iff.1 h).1
 have e1 : B.length + 1 - i = (B.length - i) + 1 := by omega
 have hs : quoS B i acc = quoN ((B.length - i) + 1) B i acc := by unfold quoS; rw [e1]
 rw [hs]
 simp only [quoN, h]
 split
 ·exact quoS_of (by omega)
 ·split
  ·rfl
  ·split
   ·cases he : escS B (i + 1) with
    | none => rfl
    | some p =>
     obtain ⟨x, j⟩ := p
     have := escS_bd he
     exact quoS_of (by omega)
   ·split
    ·rfl
    ·exact quoS_of (by omega)
theorem quoN_bd : ∀ (n : Nat) (B : List UInt8) (i : Nat) (acc s : List UInt8) (j : Nat), quoN n B i acc = some (s, j) → i < j ∧ j ≤ B.length
 | 0, _, _, _, _, _, h => by cases h
 | n + 1, B, i, acc, s, j, h => by
  simp only [quoN] at h
  cases hc : B[i]? with
  | none => rw [hc] at h; cases h
  | some c =>
   have hlt : i < B.length := (List.getElem?_eq_some_iff.1 hc).1
   rw [hc] at h
   simp only at h
   split at h
   ·have := quoN_bd n B _ _ _ _ h; omega
   ·split at h
    ·injection h with h; injection h with _ h; omega
    ·split at h
     ·cases he : escS B (i + 1) with
      | none => rw [he] at h; cases h
      | some p =>
       obtain ⟨x, k⟩ := p
       rw [he] at h
       have := escS_bd he
       have := quoN_bd n B _ _ _ _ h
       omega
     ·split at h
      ·cases h
      ·have := quoN_bd n B _ _ _ _ h; omega
def numV (l : List UInt8) : Nat := l.foldl (fun n c => 10 * n + (c.toNat - 48)) 0
structure TokV where
 kind : Int
 s : ByteArray
 n : Int
 at_ : Int
 lay : Bool
 deriving DecidableEq
def zeroT : TokV := ⟨0, ⟨#[]⟩, 0, 0, false⟩
def sub (B : List UInt8) (i j : Nat) : List UInt8 := (B.drop i).take (j - i)
def nameS (k : Int) (s : List UInt8) (e : Nat) : Except Int (Int × List UInt8 × Int × Nat) := if 64 < s.length then .error 3 else .ok (k, s, 0, e)
def endsS (B : List UInt8) (i : Nat) (c : UInt8) : Bool := c == 46 && (match B[i + 1]? with | none => true | some d => isBlank d || d == 37)
def oneS (B : List UInt8) (i : Nat) (c : UInt8) : Except Int (Int × List UInt8 × Int × Nat) :=
 if endsS B i c then nameS 6 [c] (i + 1)
 else if isSmall c then nameS 1 (sub B i (rowTo isWord B i)) (rowTo isWord B i)
 else if isSign c then nameS 1 (sub B i (rowTo isSign B i)) (rowTo isSign B i)
 else if c = 33 ∨ c = 59 then nameS 1 [c] (i + 1)
 else if isDigit c then
  (if numV (sub B i (rowTo isDigit B i)) ≤ 9007199254740991 then .ok (4, [], numV (sub B i (rowTo isDigit B i)), rowTo isDigit B i) else .error 81)
 else if isWord c then nameS 3 (sub B i (rowTo isWord B i)) (rowTo isWord B i)
 else if isPunct c then nameS 5 [c] (i + 1)
 else if c = 39 then
  match quoS B (i + 1) [] with
  | none => .error 80
  | some (s, e) => nameS 2 s e
 else .error 80
def scanS (B : List UInt8) (i : Nat) : TokV × Nat × Int :=
 match skipTo B i with
 | (k, false) => (zeroT, k, 80)
 | (k, true) =>
  match B[k]? with
  | none => (zeroT, k, 4)
  | some c =>
   match oneS B k c with
   | .error e => (zeroT, k, e)
   | .ok (kd, s, n, e) => (⟨kd, ⟨s.toArray⟩, n, k, decide (i < k)⟩, e, 0)
end Go.El
/- Layer 8 (token): bounds of tokens; all tokens, step by step. No program in sight. -/
namespace Go.El
theorem skipN_bd : ∀ (n : Nat) (B : List UInt8) (i : Nat), i ≤ (skipN n B i).1 ∧ (i ≤ B.length → (skipN n B i).1 ≤ B.length)
 | 0, _, _ => ⟨Nat.le_refl _, fun h => h⟩
 | n + 1, B, i => by
  simp only [skipN]
  cases hc : B[i]? with
  | none => exact ⟨Nat.le_refl _, fun h => h⟩
  | some c =>
   have hlt : i < B.length := (List.getElem?_eq_some_iff.1 hc).1
   simp only
   split
   ·have := skipN_bd n B (i + 1)
    exact ⟨by omega, fun _ => this.2 (by omega)⟩
   ·split
    ·next h37 =>
     subst h37
     have h1 := eol_gt hc
     have h2 := skipN_bd n B (eol B i)
     exact ⟨by omega, fun _ => h2.2 (rowTo_le (by omega))⟩
    ·split
     ·cases hcl : close B (i + 2) with
      | none => exact ⟨Nat.le_refl _, fun h => h⟩
      | some e =>
       have h1 := close_bd hcl
       have h2 := skipN_bd n B (e + 2)
       simp only
       exact ⟨by omega, fun _ => h2.2 (by omega)⟩
     ·exact ⟨Nat.le_refl _, fun h => h⟩
theorem skipTo_ge (B : List UInt8) (i : Nat) : i ≤ (skipTo B i).1 := (skipN_bd _ B i).1
theorem skipTo_le {B : List UInt8} {i : Nat} (h : i ≤ B.length) : (skipTo B i).1 ≤ B.length := (skipN_bd _ B i).2 h
theorem rowTo_gt {p : UInt8 → Bool} {B : List UInt8} {i : Nat} {c : UInt8} (h : B[i]? = some c) (hp : p c = true) : i < rowTo p B i := by
 rw [rowTo_yes h hp]
 have := rowTo_ge p B (i + 1)
 omega
theorem small_word (c : UInt8) (h : isSmall c = true) : isWord c = true := by unfold isWord; rw [h]; rfl
theorem nameS_eq {k : Int} {s : List UInt8} {e : Nat} {x : Int × List UInt8 × Int × Nat} (h : nameS k s e = .ok x) : x = (k, s, 0, e) ∧ s.length ≤ 64 := by
 unfold nameS at h
 split at h
 ·cases h
 ·next hl =>
  injection h with h
  exact ⟨h.symm, by omega⟩
theorem nameS_err {k : Int} {s : List UInt8} {e : Nat} {x : Int} (h : nameS k s e = .error x) : x = 3 := by
 unfold nameS at h
 split at h
 ·injection h with h; exact h.symm
 ·cases h
theorem oneS_bd {B : List UInt8} {i : Nat} {c : UInt8} (ho : B[i]? = some c) {kd : Int} {s : List UInt8} {n : Int} {e : Nat} (h : oneS B i c = .ok (kd, s, n, e)) : i < e ∧ e ≤ B.length := by
 have hlt : i < B.length := (List.getElem?_eq_some_iff.1 ho).1
 have key : ∀ {k s' e'}, nameS k s' e' = .ok (kd, s, n, e) → i < e' → e' ≤ B.length → i < e ∧ e ≤ B.length := by
  intro k s' e' h1 h2 h3
  have := (nameS_eq h1).1
  injection this with _ this
  injection this with _ this
  injection this with _ this
  subst this
  exact ⟨h2, h3⟩
 unfold oneS at h
 split at h
 ·exact key h (by omega) (by omega)
 ·split at h
  ·next g => exact key h (rowTo_gt ho (small_word c g)) (rowTo_le (by omega))
  ·split at h
   ·next g => exact key h (rowTo_gt ho g) (rowTo_le (by omega))
   ·split at h
    ·exact key h (by omega) (by omega)
    ·split at h
     ·next g =>
      split at h
      ·injection h with h
       injection h with _ h
       injection h with _ h
       injection h with _ h
       subst h
       exact ⟨rowTo_gt ho g, rowTo_le (by omega)⟩
      ·cases h
     ·split at h
      ·next g => exact key h (rowTo_gt ho g) (rowTo_le (by omega))
      ·split at h
       ·exact key h (by omega) (by omega)
       ·split at h
        ·cases hq : quoS B (i + 1) [] with
         | none => rw [hq] at h; cases h
         | some p =>
          obtain ⟨s', e'⟩ := p
          rw [hq] at h
          have := quoN_bd _ _ _ _ _ _ hq
          exact key h (by omega) (by omega)
        ·cases h
theorem oneS_err {B : List UInt8} {i : Nat} {c : UInt8} {x : Int} (h : oneS B i c = .error x) : x = 3 ∨ x = 80 ∨ x = 81 := by
 unfold oneS at h
 split at h
 ·exact .inl (nameS_err h)
 ·split at h
  ·exact .inl (nameS_err h)
  ·split at h
   ·exact .inl (nameS_err h)
   ·split at h
    ·exact .inl (nameS_err h)
    ·split at h
     ·split at h
      ·cases h
      ·injection h with h; exact .inr (.inr h.symm)
     ·split at h
      ·exact .inl (nameS_err h)
      ·split at h
       ·exact .inl (nameS_err h)
       ·split at h
        ·cases hq : quoS B (i + 1) [] with
         | none => rw [hq] at h; injection h with h; exact .inr (.inl h.symm)
         | some p =>
          obtain ⟨s', e'⟩ := p
          rw [hq] at h
          exact .inl (nameS_err h)
        ·injection h with h; exact .inr (.inl h.symm)
theorem scanS_open {B : List UInt8} {i k : Nat} (h : skipTo B i = (k, false)) : scanS B i = (zeroT, k, 80) := by unfold scanS; rw [h]
theorem scanS_none {B : List UInt8} {i k : Nat} (h : skipTo B i = (k, true)) (hk : B[k]? = none) : scanS B i = (zeroT, k, 4) := by unfold scanS; rw [h]; simp only; rw [hk]
theorem scanS_err {B : List UInt8} {i k : Nat} {c : UInt8} {x : Int} (h : skipTo B i = (k, true)) (hk : B[k]? = some c) (ho : oneS B k c = .error x) : scanS B i = (zeroT, k, x) := by unfold scanS; rw [h]; simp only; rw [hk]; simp only; rw [ho]
theorem scanS_ok {B : List UInt8} {i k : Nat} {c : UInt8} {kd : Int} {s : List UInt8} {n : Int} {e : Nat} (h : skipTo B i = (k, true)) (hk : B[k]? = some c) (ho : oneS B k c = .ok (kd, s, n, e)) : scanS B i = (⟨kd, ⟨s.toArray⟩, n, k, decide (i < k)⟩, e, 0) := by unfold scanS; rw [h]; simp only; rw [hk]; simp only; rw [ho]
theorem scanS_cases (B : List UInt8) (i : Nat) : (∃ k, skipTo B i = (k, false) ∧ scanS B i = (zeroT, k, 80)) ∨ (∃ k, skipTo B i = (k, true) ∧ B[k]? = none ∧ scanS B i = (zeroT, k, 4)) ∨ (∃ k c x, skipTo B i = (k, true) ∧ B[k]? = some c ∧ oneS B k c = .error x ∧ scanS B i = (zeroT, k, x)) ∨ (∃ k c kd s n e, skipTo B i = (k, true) ∧ B[k]? = some c ∧ oneS B k c = .ok (kd, s, n, e) ∧ scanS B i = (⟨kd, ⟨s.toArray⟩, n, k, decide (i < k)⟩, e, 0)) := by
 cases h : skipTo B i with
 | mk k ok =>
  cases ok
  ·exact .inl ⟨k, rfl, scanS_open h⟩
  ·cases hk : B[k]? with
   | none => exact .inr (.inl ⟨k, rfl, hk, scanS_none h hk⟩)
   | some c =>
    cases ho : oneS B k c with
    | error x => exact .inr (.inr (.inl ⟨k, c, x, rfl, hk, ho, scanS_err h hk ho⟩))
    | ok y =>
     obtain ⟨kd, s, n, e⟩ := y
     exact .inr (.inr (.inr ⟨k, c, kd, s, n, e, rfl, hk, ho, scanS_ok h hk ho⟩))
theorem scanS_err5 (B : List UInt8) (i : Nat) : (scanS B i).2.2 = 0 ∨ (scanS B i).2.2 = 3 ∨ (scanS B i).2.2 = 4 ∨ (scanS B i).2.2 = 80 ∨ (scanS B i).2.2 = 81 := by
 rcases scanS_cases B i with ⟨k, _, h⟩ | ⟨k, _, _, h⟩ | ⟨k, c, x, _, _, hx, h⟩ | ⟨k, c, kd, s, n, e, _, _, _, h⟩
 ·rw [h]; simp
 ·rw [h]; simp
 ·rw [h]
  rcases oneS_err hx with rfl | rfl | rfl <;> simp
 ·rw [h]; simp
theorem scanS_bd {B : List UInt8} {i : Nat} (h : (scanS B i).2.2 = 0) : (i : Int) ≤ (scanS B i).1.at_ ∧ (scanS B i).1.at_ < (scanS B i).2.1 ∧ (scanS B i).2.1 ≤ B.length := by
 rcases scanS_cases B i with ⟨k, _, g⟩ | ⟨k, _, _, g⟩ | ⟨k, c, x, _, _, hx, g⟩ | ⟨k, c, kd, s, n, e, hs, hk, ho, g⟩
 ·rw [g] at h; cases h
 ·rw [g] at h; cases h
 ·rw [g] at h
  rcases oneS_err hx with rfl | rfl | rfl <;> cases h
 ·rw [g]
  have h1 := oneS_bd hk ho
  have h2 := skipTo_ge B i
  rw [hs] at h2
  simp only at h2 ⊢
  omega
theorem scanS_step {B : List UInt8} {i : Nat} (h : (scanS B i).2.2 = 0) : i < (scanS B i).2.1 ∧ (scanS B i).2.1 ≤ B.length := by
 have := scanS_bd h
 omega
theorem scanS_le {B : List UInt8} {i : Nat} (hi : i ≤ B.length) : (scanS B i).2.1 ≤ B.length := by
 rcases scanS_cases B i with ⟨k, hs, g⟩ | ⟨k, hs, _, g⟩ | ⟨k, c, x, hs, hk, hx, g⟩ | ⟨k, c, kd, s, n, e, hs, hk, ho, g⟩
 ·rw [g]; have := skipTo_le hi; rw [hs] at this; exact this
 ·rw [g]; have := skipTo_le hi; rw [hs] at this; exact this
 ·rw [g]; have := skipTo_le hi; rw [hs] at this; exact this
 ·rw [g]; exact (oneS_bd hk ho).2
end Go.El
/- Layer 8 (token): the tokens of a text behind others: places move, nothing else. No program in sight. -/
namespace Go.El
section
variable (ws B : List UInt8)
theorem sh_drop (i : Nat) : (ws ++ B).drop (ws.length + i) = B.drop i := by rw [List.drop_append]; simp
theorem sh_get (i : Nat) : (ws ++ B)[ws.length + i]? = B[i]? := by rw [List.getElem?_append_right (by omega)]; congr 1; omega
theorem sh_get1 (i : Nat) : (ws ++ B)[ws.length + i + 1]? = B[i + 1]? := sh_get ws B (i + 1)
theorem sh_row (p : UInt8 → Bool) (i : Nat) : rowTo p (ws ++ B) (ws.length + i) = ws.length + rowTo p B i := by
 unfold rowTo
 rw [sh_drop]
 omega
theorem sh_row1 (p : UInt8 → Bool) (i : Nat) : rowTo p (ws ++ B) (ws.length + i + 1) = ws.length + rowTo p B (i + 1) := sh_row ws B p (i + 1)
theorem sh_eol (i : Nat) : eol (ws ++ B) (ws.length + i) = ws.length + eol B i := sh_row ws B _ i
theorem sh_close (i : Nat) : close (ws ++ B) (ws.length + i) = (close B i).map (ws.length + ·) := by
 unfold close
 rw [sh_drop, Option.map_map]
 congr 1
 funext n
 simp
 omega
theorem sh_close2 (i : Nat) : close (ws ++ B) (ws.length + i + 2) = (close B (i + 2)).map (ws.length + ·) := sh_close ws B (i + 2)
theorem sh_skipN : ∀ (n i : Nat), skipN n (ws ++ B) (ws.length + i) = (ws.length + (skipN n B i).1, (skipN n B i).2)
 | 0, i => rfl
 | n + 1, i => by
  simp only [skipN, sh_get]
  cases hc : B[i]? with
  | none => rfl
  | some c =>
   simp only
   rw [sh_get1, sh_eol, sh_close2]
   split
   ·exact sh_skipN n (i + 1)
   ·split
    ·exact sh_skipN n _
    ·split
     ·cases close B (i + 2) with
      | none => rfl
      | some e => exact sh_skipN n (e + 2)
     ·rfl
theorem sh_skip (i : Nat) : skipTo (ws ++ B) (ws.length + i) = (ws.length + (skipTo B i).1, (skipTo B i).2) := by
 unfold skipTo
 have e : (ws ++ B).length + 1 - (ws.length + i) = B.length + 1 - i := by rw [List.length_append]; omega
 rw [e]
 exact sh_skipN ws B _ i
theorem sh_sub (i j : Nat) : sub (ws ++ B) (ws.length + i) (ws.length + j) = sub B i j := by
 unfold sub
 rw [sh_drop]
 congr 1
 omega
theorem sh_getD1 (i : Nat) : (ws ++ B).getD (ws.length + i + 1) 0 = B.getD (i + 1) 0 := by simp only [List.getD_eq_getElem?_getD]; rw [sh_get1]
theorem sh_getD2 (i : Nat) : (ws ++ B).getD (ws.length + i + 2) 0 = B.getD (i + 2) 0 := by simp only [List.getD_eq_getElem?_getD]; rw [show ws.length + i + 2 = ws.length + (i + 2) from rfl, sh_get]
theorem sh_esc (i : Nat) : escS (ws ++ B) (ws.length + i) = (escS B i).map fun p => (p.1, ws.length + p.2) := by
 unfold escS
 rw [sh_get]
 cases B[i]? with
 | none => rfl
 | some c =>
  simp only
  rw [sh_row1, sh_get, sh_getD1, sh_getD2]
  split
  ·rfl
  ·split
   ·rfl
   ·split
    ·rfl
    ·split
     ·split
      ·by_cases h2 : rowTo isHex B (i + 1) = i + 2
       ·rw [if_pos h2, if_pos (by omega)]; rfl
       ·rw [if_neg h2, if_neg (by omega)]
        by_cases h3 : rowTo isHex B (i + 1) = i + 3
        ·rw [if_pos h3, if_pos (by omega)]; rfl
        ·rw [if_neg h3, if_neg (by omega)]; rfl
      ·rfl
     ·rfl
theorem sh_esc1 (i : Nat) : escS (ws ++ B) (ws.length + i + 1) = (escS B (i + 1)).map fun p => (p.1, ws.length + p.2) := sh_esc ws B (i + 1)
theorem sh_quoN : ∀ (n i : Nat) (acc : List UInt8), quoN n (ws ++ B) (ws.length + i) acc = (quoN n B i acc).map fun p => (p.1, ws.length + p.2)
 | 0, _, _ => rfl
 | n + 1, i, acc => by
  simp only [quoN, sh_get]
  cases hc : B[i]? with
  | none => rfl
  | some c =>
   simp only
   rw [sh_get1, sh_esc1]
   split
   ·exact sh_quoN n (i + 2) _
   ·split
    ·rfl
    ·split
     ·cases escS B (i + 1) with
      | none => rfl
      | some p => exact sh_quoN n p.2 _
     ·split
      ·rfl
      ·exact sh_quoN n (i + 1) _
theorem sh_quo1 (i : Nat) (acc : List UInt8) : quoS (ws ++ B) (ws.length + i + 1) acc = (quoS B (i + 1) acc).map fun p => (p.1, ws.length + p.2) := by
 unfold quoS
 have e : (ws ++ B).length + 1 - (ws.length + i + 1) = B.length + 1 - (i + 1) := by rw [List.length_append]; omega
 rw [e]
 exact sh_quoN ws B _ (i + 1) acc
theorem sh_ends (i : Nat) (c : UInt8) : endsS (ws ++ B) (ws.length + i) c = endsS B i c := by unfold endsS; rw [sh_get1]
def shOne (n : Nat) : Except Int (Int × List UInt8 × Int × Nat) → Except Int (Int × List UInt8 × Int × Nat)
 | .error e => .error e
 | .ok (k, s, m, e) => .ok (k, s, m, n + e)
theorem sh_name (k : Int) (s : List UInt8) (n e : Nat) : nameS k s (n + e) = shOne n (nameS k s e) := by unfold nameS; split <;> rfl
theorem sh_one (i : Nat) (c : UInt8) : oneS (ws ++ B) (ws.length + i) c = shOne ws.length (oneS B i c) := by
 unfold oneS
 simp only [sh_ends, sh_row, sh_sub, sh_quo1]
 rw [show ws.length + i + 1 = ws.length + (i + 1) from rfl]
 simp only [sh_name]
 split
 ·rfl
 ·split
  ·rfl
  ·split
   ·rfl
   ·split
    ·rfl
    ·split
     ·split <;> rfl
     ·split
      ·rfl
      ·split
       ·rfl
       ·split
        ·cases quoS B (i + 1) [] with
         | none => rfl
         | some p => exact sh_name 2 p.1 ws.length p.2
        ·rfl
def shT (n : Nat) (t : TokV) : TokV := { t with at_ := t.at_ + n }
def shScan (n : Nat) (x : TokV × Nat × Int) : TokV × Nat × Int := (if x.2.2 = 0 then shT n x.1 else x.1, n + x.2.1, x.2.2)
theorem sh_scan (i : Nat) : scanS (ws ++ B) (ws.length + i) = shScan ws.length (scanS B i) := by
 have hs := sh_skip ws B i
 rcases scanS_cases B i with ⟨k, h, g⟩ | ⟨k, h, hk, g⟩ | ⟨k, c, x, h, hk, hx, g⟩ | ⟨k, c, kd, s, n, e, h, hk, ho, g⟩
 ·rw [h] at hs; rw [g, scanS_open hs]; rfl
 ·rw [h] at hs; rw [g, scanS_none hs (by rw [sh_get]; exact hk)]; rfl
 ·rw [h] at hs
  have h1 := sh_one ws B k c
  rw [hx] at h1
  rw [g, scanS_err hs (by rw [sh_get]; exact hk) h1]
  rcases oneS_err hx with rfl | rfl | rfl <;> rfl
 ·rw [h] at hs
  have h1 := sh_one ws B k c
  rw [ho] at h1
  rw [g, scanS_ok hs (by rw [sh_get]; exact hk) h1]
  unfold shScan shT
  simp
  omega
end
def layHead : List TokV → List TokV
 | [] => []
 | t :: r => { t with lay := true } :: r
theorem scan_lay {W : List UInt8} {i j : Nat} (hij : i < j) (hs : skipTo W i = skipTo W j) : scanS W i = (if (scanS W j).2.2 = 0 then { (scanS W j).1 with lay := true } else (scanS W j).1, (scanS W j).2.1, (scanS W j).2.2) := by
 have hge := skipTo_ge W j
 rcases scanS_cases W j with ⟨k, h, g⟩ | ⟨k, h, hk, g⟩ | ⟨k, c, x, h, hk, hx, g⟩ | ⟨k, c, kd, s, n, e, h, hk, ho, g⟩
 ·rw [g, scanS_open (hs.trans h)]; rfl
 ·rw [g, scanS_none (hs.trans h) hk]; rfl
 ·rw [g, scanS_err (hs.trans h) hk hx]
  rcases oneS_err hx with rfl | rfl | rfl <;> rfl
 ·rw [g, scanS_ok (hs.trans h) hk ho]
  rw [h] at hge
  simp only at hge
  simp
  omega
end Go.El
/- Layer 8 (token): the tokens of two texts with a line's end between. No program in sight. -/
namespace Go.El
section
variable (A B : List UInt8)
end
section
variable (A B : List UInt8)
end
end Go.El

/- Layer 8 (token): a name's text, scanned, is that name. No program in sight. -/
namespace Go.El
def sgnS (c : UInt8) : List UInt8 := if c = 10 then [92, 110] else if c = 9 then [92, 116] else if c = 39 ∨ c = 92 then [92, c] else [c]
def isCtl (c : UInt8) : Bool := (c < 32 && c != 10 && c != 9) || c == 127
def hexD (n : Nat) : UInt8 := if n < 10 then UInt8.ofNat (48 + n) else UInt8.ofNat (87 + n)
def hexL (c : UInt8) : List UInt8 := if c.toNat < 16 then [hexD c.toNat] else [hexD (c.toNat / 16), hexD (c.toNat % 16)]
def sgnF (c : UInt8) : List UInt8 := if isCtl c then [92, 120] ++ hexL c ++ [92] else sgnS c
def sgnW (l : List UInt8) : List UInt8 := l.flatMap sgnF
def quoF (l : List UInt8) : List UInt8 := if plainL l then l else [39] ++ sgnW l ++ [39]
theorem hex_back (c : UInt8) (h : isCtl c = true) : (∃ a, hexL c = [a] ∧ isHex a = true ∧ UInt8.ofNat (hexV a) = c) ∨ ∃ a b, hexL c = [a, b] ∧ isHex a = true ∧ isHex b = true ∧ UInt8.ofNat (16 * hexV a + hexV b) = c := by
 have key := all_bytes (p := fun c => (!isCtl c || (match hexL c with | [a] => isHex a && UInt8.ofNat (hexV a) == c | [a, b] => isHex a && isHex b && UInt8.ofNat (16 * hexV a + hexV b) == c | _ => false)) = true) (by decide +kernel) c
 rw [h] at key
 simp only [Bool.not_true, Bool.false_or] at key
 split at key
 ·rename_i x a heq
  simp only [Bool.and_eq_true, beq_iff_eq] at key
  exact .inl ⟨_, heq, key⟩
 ·rename_i x a b heq
  simp only [Bool.and_eq_true, beq_iff_eq] at key
  exact .inr ⟨_, _, heq, key.1.1, key.1.2, key.2⟩
 ·cases key
theorem mid_at (P Q : List UInt8) (j : Nat) : (P ++ Q)[P.length + j]? = Q[j]? := by
 rw [List.getElem?_append_right (by omega), Nat.add_sub_cancel_left]
theorem escS_same {B : List UInt8} {i : Nat} {c : UInt8} (h : B[i]? = some c) (hc : c = 92 ∨ c = 39) : escS B i = some (c, i + 1) := by
 unfold escS
 rw [h]
 simp only [if_pos hc]
theorem escS_n {B : List UInt8} {i : Nat} (h : B[i]? = some 110) : escS B i = some (10, i + 1) := by
 unfold escS
 rw [h]
 rfl
theorem escS_t {B : List UInt8} {i : Nat} (h : B[i]? = some 116) : escS B i = some (9, i + 1) := by
 unfold escS
 rw [h]
 rfl
theorem escS_x1 {B : List UInt8} {i : Nat} {a : UInt8} (h : B[i]? = some 120) (h1 : B[i + 1]? = some a) (ha : isHex a = true) (h2 : B[i + 2]? = some 92) : escS B i = some (UInt8.ofNat (hexV a), i + 3) := by
 have r : rowTo isHex B (i + 1) = i + 2 := by rw [rowTo_yes h1 ha, rowTo_no h2 (by decide)]
 have g : B.getD (i + 1) 0 = a := by simp [List.getD, h1]
 unfold escS
 rw [h]
 simp only [r, h2, g]
 simp
theorem escS_x2 {B : List UInt8} {i : Nat} {a b : UInt8} (h : B[i]? = some 120) (h1 : B[i + 1]? = some a) (ha : isHex a = true) (h2 : B[i + 2]? = some b) (hb : isHex b = true) (h3 : B[i + 3]? = some 92) : escS B i = some (UInt8.ofNat (16 * hexV a + hexV b), i + 4) := by
 have r : rowTo isHex B (i + 1) = i + 3 := by rw [rowTo_yes h1 ha, rowTo_yes h2 hb, rowTo_no h3 (by decide)]
 have g : B.getD (i + 1) 0 = a := by simp [List.getD, h1]
 have g2 : B.getD (i + 2) 0 = b := by simp [List.getD, h2]
 unfold escS
 rw [h]
 simp only [r, h3, g, g2]
 simp
theorem quoS_esc {B : List UInt8} {i j : Nat} {x : UInt8} {acc : List UInt8} (h : B[i]? = some 92) (he : escS B (i + 1) = some (x, j)) : quoS B i acc = quoS B j (acc ++ [x]) := by
 rw [quoS_eq h, he]
 simp
theorem quoS_one {B : List UInt8} {i : Nat} {c : UInt8} {acc : List UInt8} (h : B[i]? = some c) (h1 : c ≠ 39) (h2 : c ≠ 92) (h3 : ¬ (c < 32 ∨ c = 127)) : quoS B i acc = quoS B (i + 1) (acc ++ [c]) := by
 rw [quoS_eq h]
 simp only [h1, h2, h3, false_and, if_false]
theorem quo_step (P R : List UInt8) (c : UInt8) (acc : List UInt8) : quoS (P ++ (sgnF c ++ R)) P.length acc = quoS (P ++ (sgnF c ++ R)) (P.length + (sgnF c).length) (acc ++ [c]) := by
 by_cases hc : isCtl c = true
 ·rcases hex_back c hc with ⟨a, h1, h2, h3⟩ | ⟨a, b, h1, h2, h3, h4⟩
  ·have hs : sgnF c = [92, 120, a, 92] := by unfold sgnF; rw [if_pos hc, h1]; rfl
   rw [hs]
   generalize hT : P ++ ([92, 120, a, 92] ++ R) = T
   have t0 : T[P.length]? = some 92 := by rw [← hT]; exact mid_at P _ 0
   have t1 : T[P.length + 1]? = some 120 := by rw [← hT]; exact mid_at P _ 1
   have t2 : T[P.length + 2]? = some a := by rw [← hT]; exact mid_at P _ 2
   have t3 : T[P.length + 3]? = some 92 := by rw [← hT]; exact mid_at P _ 3
   rw [quoS_esc t0 (escS_x1 t1 t2 h2 t3), h3]
   rfl
  ·have hs : sgnF c = [92, 120, a, b, 92] := by unfold sgnF; rw [if_pos hc, h1]; rfl
   rw [hs]
   generalize hT : P ++ ([92, 120, a, b, 92] ++ R) = T
   have t0 : T[P.length]? = some 92 := by rw [← hT]; exact mid_at P _ 0
   have t1 : T[P.length + 1]? = some 120 := by rw [← hT]; exact mid_at P _ 1
   have t2 : T[P.length + 2]? = some a := by rw [← hT]; exact mid_at P _ 2
   have t3 : T[P.length + 3]? = some b := by rw [← hT]; exact mid_at P _ 3
   have t4 : T[P.length + 4]? = some 92 := by rw [← hT]; exact mid_at P _ 4
   rw [quoS_esc t0 (escS_x2 t1 t2 h2 t3 h3 t4), h4]
   rfl
 ·have hs0 : sgnF c = sgnS c := by unfold sgnF; rw [if_neg hc]
  by_cases h10 : c = 10
  ·subst h10
   have hs : sgnF 10 = [92, 110] := rfl
   rw [hs]
   generalize hT : P ++ ([92, 110] ++ R) = T
   have t0 : T[P.length]? = some 92 := by rw [← hT]; exact mid_at P _ 0
   have t1 : T[P.length + 1]? = some 110 := by rw [← hT]; exact mid_at P _ 1
   rw [quoS_esc t0 (escS_n t1)]
   rfl
  by_cases h9 : c = 9
  ·subst h9
   have hs : sgnF 9 = [92, 116] := rfl
   rw [hs]
   generalize hT : P ++ ([92, 116] ++ R) = T
   have t0 : T[P.length]? = some 92 := by rw [← hT]; exact mid_at P _ 0
   have t1 : T[P.length + 1]? = some 116 := by rw [← hT]; exact mid_at P _ 1
   rw [quoS_esc t0 (escS_t t1)]
   rfl
  by_cases hq : c = 39 ∨ c = 92
  ·have hs : sgnF c = [92, c] := by rw [hs0]; unfold sgnS; rw [if_neg h10, if_neg h9, if_pos hq]
   rw [hs]
   generalize hT : P ++ ([92, c] ++ R) = T
   have t0 : T[P.length]? = some 92 := by rw [← hT]; exact mid_at P _ 0
   have t1 : T[P.length + 1]? = some c := by rw [← hT]; exact mid_at P _ 1
   rw [quoS_esc t0 (escS_same t1 (hq.symm))]
   rfl
  ·have hs : sgnF c = [c] := by rw [hs0]; unfold sgnS; rw [if_neg h10, if_neg h9, if_neg hq]
   rw [hs]
   generalize hT : P ++ ([c] ++ R) = T
   have t0 : T[P.length]? = some c := by rw [← hT]; exact mid_at P _ 0
   have h3 : ¬ (c < 32 ∨ c = 127) := by
    intro h
    apply hc
    unfold isCtl
    rcases h with h | h
    ·simp [h, h10, h9]
    ·simp [h]
   rw [quoS_one t0 (fun e => hq (.inl e)) (fun e => hq (.inr e)) h3]
   rfl
theorem skip_none {B : List UInt8} {c : UInt8} (h : B[0]? = some c) (h1 : isBlank c = false) (h2 : c ≠ 37) (h3 : ¬ (c = 47 ∧ B[1]? = some 42)) : skipTo B 0 = (0, true) := by
 rw [skipTo_eq h, h1, if_neg h2, if_neg h3]
 rfl
theorem takeWhile_all {p : UInt8 → Bool} : ∀ {l : List UInt8}, l.all p = true → l.takeWhile p = l
 | [], _ => rfl
 | c :: l, h => by
  rw [List.all_cons, Bool.and_eq_true] at h
  rw [List.takeWhile_cons, h.1, takeWhile_all h.2]
  rfl
end Go.El
