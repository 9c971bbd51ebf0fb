/- Layer 8, the reference: tokens as values; what is known of a byte of each kind. -/
import Derived.Test.YtgjdajkkncdhmaaDoorRT5
namespace Go.Proofs.YtgjdajkkncdhmaaDoor
open Go.RowKit Go.El

def tokV (t : TokV) : Value := .agg #[.int .i64 t.kind, .string t.s, .int .i64 t.n, .int .i64 t.at_, .bool t.lay]
theorem tokV_eq (t : TokV) : tokV t = .agg #[.int .i64 t.kind, .string t.s, .int .i64 t.n, .int .i64 t.at_, .bool t.lay] := rfl
/-- What the reference's 'one' hands back. -/
def oneV (i : Nat) : Except Int (Int × List UInt8 × Int × Nat) → Value
  | .error e => .tuple #[tokV zeroT, .int .i64 (i : Int), .int .i64 e]
  | .ok (k, s, n, e) => .tuple #[tokV ⟨k, strB s, n, i, false⟩, .int .i64 (e : Int), .int .i64 0]
theorem ret_one {i : Nat} {a b : Except Int (Int × List UInt8 × Int × Nat)} (h : a = b) : Ending.returned (oneV i a) = .returned (oneV i b) := by rw [h]

theorem nameS_ok {k : Int} {s : List UInt8} {e : Nat} (h : ¬ 64 < s.length) : nameS k s e = .ok (k, s, 0, e) := by unfold nameS; rw [if_neg h]
theorem nameS_long {k : Int} {s : List UInt8} {e : Nat} (h : 64 < s.length) : nameS k s e = .error 3 := by unfold nameS; rw [if_pos h]

theorem oneS_end {B : List UInt8} {i : Nat} {c : UInt8} (h : endsS B i c = true) : oneS B i c = nameS 6 [c] (i + 1) := by unfold oneS; rw [if_pos h]
theorem oneS_small {B : List UInt8} {i : Nat} {c : UInt8} (h : isSmall c = true) : oneS B i c = nameS 1 (sub B i (rowTo isWord B i)) (rowTo isWord B i) := by
  have h1 : endsS B i c = false := by
    have := all_bytes (p := fun c => (!isSmall c || (c != 46)) = true) (by decide +kernel) c
    unfold endsS
    rw [h] at this
    have h46 : (c == 46) = false := by simpa using this
    rw [h46]; rfl
  unfold oneS; rw [if_neg (by simp [h1]), if_pos h]
theorem oneS_sign {B : List UInt8} {i : Nat} {c : UInt8} (h1 : endsS B i c = false) (h : isSign c = true) : oneS B i c = nameS 1 (sub B i (rowTo isSign B i)) (rowTo isSign B i) := by
  have h2 : isSmall c = false := by
    have := all_bytes (p := fun c => (!isSign c || !isSmall c) = true) (by decide +kernel) c
    rw [h] at this
    simpa using this
  unfold oneS; rw [if_neg (by simp [h1]), if_neg (by simp [h2]), if_pos h]
theorem ends_no {B : List UInt8} {i : Nat} {c : UInt8} (h : c ≠ 46) : endsS B i c = false := by unfold endsS; rw [show (c == 46) = false from by simpa using h]; rfl
theorem oneS_solo {B : List UInt8} {i : Nat} {c : UInt8} (h : c = 33 ∨ c = 59) : oneS B i c = nameS 1 [c] (i + 1) := by
  have h0 : endsS B i c = false := ends_no (by rintro rfl; revert h; decide)
  have h1 : isSmall c = false := by rcases h with rfl | rfl <;> rfl
  have h2 : isSign c = false := by rcases h with rfl | rfl <;> rfl
  unfold oneS; rw [if_neg (by simp [h0]), if_neg (by simp [h1]), if_neg (by simp [h2]), if_pos h]
theorem digit_not (c : UInt8) (h : isDigit c = true) : c ≠ 46 ∧ isSmall c = false ∧ isSign c = false ∧ c ≠ 33 ∧ c ≠ 59 ∧ isWord c = true := by
  have := all_bytes (p := fun c => (!isDigit c || (c != 46 && !isSmall c && !isSign c && c != 33 && c != 59 && isWord c)) = true) (by decide +kernel) c
  rw [h] at this
  simpa [and_assoc] using this
theorem oneS_digit {B : List UInt8} {i : Nat} {c : UInt8} (h : isDigit c = true) : oneS B i c = (if numV (sub B i (rowTo isDigit B i)) ≤ 9007199254740991 then .ok (4, [], numV (sub B i (rowTo isDigit B i)), rowTo isDigit B i) else .error 81) := by
  obtain ⟨g1, g2, g3, g4, g5, _⟩ := digit_not c h
  unfold oneS; rw [if_neg (by simp [ends_no g1]), if_neg (by simp [g2]), if_neg (by simp [g3]), if_neg (by simp [g4, g5]), if_pos h]
/-- A word's byte that begins a variable. -/
def isGreat (c : UInt8) : Bool := isWord c && !isSmall c && !isDigit c
theorem great_not (c : UInt8) (h : isGreat c = true) : c ≠ 46 ∧ isSmall c = false ∧ isSign c = false ∧ c ≠ 33 ∧ c ≠ 59 ∧ isDigit c = false ∧ isWord c = true := by
  have := all_bytes (p := fun c => (!isGreat c || (c != 46 && !isSmall c && !isSign c && c != 33 && c != 59 && !isDigit c && isWord c)) = true) (by decide +kernel) c
  rw [h] at this
  simpa [and_assoc] using this
theorem oneS_great {B : List UInt8} {i : Nat} {c : UInt8} (h : isGreat c = true) : oneS B i c = nameS 3 (sub B i (rowTo isWord B i)) (rowTo isWord B i) := by
  obtain ⟨g1, g2, g3, g4, g5, g6, g7⟩ := great_not c h
  unfold oneS; rw [if_neg (by simp [ends_no g1]), if_neg (by simp [g2]), if_neg (by simp [g3]), if_neg (by simp [g4, g5]), if_neg (by simp [g6]), if_pos g7]
theorem punct_not (c : UInt8) (h : isPunct c = true) : c ≠ 46 ∧ isSmall c = false ∧ isSign c = false ∧ c ≠ 33 ∧ c ≠ 59 ∧ isDigit c = false ∧ isWord c = false := by
  have := all_bytes (p := fun c => (!isPunct c || (c != 46 && !isSmall c && !isSign c && c != 33 && c != 59 && !isDigit c && !isWord c)) = true) (by decide +kernel) c
  rw [h] at this
  simpa [and_assoc] using this
theorem oneS_punct {B : List UInt8} {i : Nat} {c : UInt8} (h : isPunct c = true) : oneS B i c = nameS 5 [c] (i + 1) := by
  obtain ⟨g1, g2, g3, g4, g5, g6, g7⟩ := punct_not c h
  unfold oneS; rw [if_neg (by simp [ends_no g1]), if_neg (by simp [g2]), if_neg (by simp [g3]), if_neg (by simp [g4, g5]), if_neg (by simp [g6]), if_neg (by simp [g7]), if_pos h]
theorem oneS_quote {B : List UInt8} {i : Nat} : oneS B i 39 = match quoS B (i + 1) [] with | none => .error 80 | some (s, e) => nameS 2 s e := by
  unfold oneS; rw [if_neg (by simp [ends_no (B := B) (i := i) (c := 39) (by decide)]), if_neg (by decide), if_neg (by decide), if_neg (by decide), if_neg (by decide), if_neg (by decide), if_neg (by decide), if_pos rfl]
  cases quoS B (i + 1) [] <;> rfl
/-- A byte that begins no token. -/
def isOther (c : UInt8) : Bool := !(c == 46) && !isSmall c && !isSign c && !(c == 33) && !(c == 59) && !isWord c && !isPunct c && !(c == 39)
theorem other_not (c : UInt8) (h : isOther c = true) : c ≠ 46 ∧ isSmall c = false ∧ isSign c = false ∧ c ≠ 33 ∧ c ≠ 59 ∧ isDigit c = false ∧ isWord c = false ∧ isPunct c = false ∧ c ≠ 39 := by
  have := all_bytes (p := fun c => (!isOther c || (c != 46 && !isSmall c && !isSign c && c != 33 && c != 59 && !isDigit c && !isWord c && !isPunct c && c != 39)) = true) (by decide +kernel) c
  rw [h] at this
  simpa [and_assoc] using this
theorem oneS_other {B : List UInt8} {i : Nat} {c : UInt8} (h : isOther c = true) : oneS B i c = .error 80 := by
  obtain ⟨g1, g2, g3, g4, g5, g6, g7, g8, g9⟩ := other_not c h
  unfold oneS; rw [if_neg (by simp [ends_no g1]), if_neg (by simp [g2]), if_neg (by simp [g3]), if_neg (by simp [g4, g5]), if_neg (by simp [g6]), if_neg (by simp [g7]), if_neg (by simp [g8]), if_neg g9]
/-- Each byte is of one kind. -/
theorem byte_kinds (c : UInt8) : c = 46 ∨ isSmall c = true ∨ (c ≠ 46 ∧ isSign c = true) ∨ (c = 33 ∨ c = 59) ∨ isDigit c = true ∨ isGreat c = true ∨ isPunct c = true ∨ c = 39 ∨ isOther c = true := by
  have := all_bytes (p := fun c => (c == 46 || isSmall c || (c != 46 && isSign c) || (c == 33 || c == 59) || isDigit c || isGreat c || isPunct c || c == 39 || isOther c) = true) (by decide +kernel) c
  simpa [or_assoc] using this
theorem sub_one {B : List UInt8} {i : Nat} {c : UInt8} (h : B[i]? = some c) : sub B i (i + 1) = [c] := by
  unfold sub
  rw [drop_cons h]
  simp
theorem sub_row (p : UInt8 → Bool) (B : List UInt8) (i : Nat) : sub B i (rowTo p B i) = (B.drop i).takeWhile p := by
  have h := rowTo_ge p B i
  unfold sub
  have e : rowTo p B i - i = ((B.drop i).takeWhile p).length := by unfold rowTo; omega
  rw [e]
  exact (List.prefix_iff_eq_take.1 (List.takeWhile_prefix p)).symm
theorem takeWhile_all (p : UInt8 → Bool) : ∀ (l : List UInt8), ∀ c ∈ l.takeWhile p, p c = true
  | [], c, h => by simp at h
  | d :: l, c, h => by
    rw [List.takeWhile_cons] at h
    split at h
    · next hd =>
      rcases List.mem_cons.1 h with rfl | h
      · exact hd
      · exact takeWhile_all p l c h
    · simp at h
theorem sub_row_all (p : UInt8 → Bool) (B : List UInt8) (i : Nat) : ∀ c ∈ sub B i (rowTo p B i), p c = true := by
  rw [sub_row]
  intro c hc
  exact takeWhile_all p _ c hc

end Go.Proofs.YtgjdajkkncdhmaaDoor
