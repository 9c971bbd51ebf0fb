import Derived.Test.YtmnnhdegoapfcaaGreatDoorC06
import Derived.Test.YtmnnhdegoapfcaaGreatDoorC18
import Derived.Test.YtmnnhdegoapfcaaGreatDoorC10
/- Contracts of the library: all in Lay here. -/

/- Layer 8, the program: the library's ParseUint of one or two hex digits. -/
namespace Go.Proofs.YtmnnhdegoapfcaaGreatDoor
open Go.RowKit Go.El

/-- What hex digits say. -/
def hexN (l : List UInt8) : Nat := l.foldl (fun n c => 16 * n + hexV c) 0
theorem hexN_step (l : List UInt8) (c : UInt8) : hexN (l ++ [c]) = 16 * hexN l + hexV c := by simp [hexN, List.foldl_append]
theorem low_same (c : UInt8) (h : 97 ≤ c.toNat ∧ c.toNat ≤ 102) : bits .or .u8 (c.toNat : Int) 32 = (c.toNat : Int) := by
  have := all_bytes (p := fun c => (!decide (97 ≤ c.toNat ∧ c.toNat ≤ 102) || decide (bits .or .u8 (c.toNat : Int) 32 = (c.toNat : Int))) = true) (by decide +kernel) c
  simpa [h] using this
theorem hexV_digit (c : UInt8) (h : 48 ≤ c.toNat ∧ c.toNat ≤ 57) : hexV c = c.toNat - 48 := by
  have := all_bytes (p := fun c => (!decide (48 ≤ c.toNat ∧ c.toNat ≤ 57) || decide (hexV c = c.toNat - 48)) = true) (by decide +kernel) c
  simpa [h] using this
theorem hexV_letter (c : UInt8) (h : 97 ≤ c.toNat ∧ c.toNat ≤ 102) : hexV c = c.toNat - 87 := by
  have := all_bytes (p := fun c => (!decide (97 ≤ c.toNat ∧ c.toNat ≤ 102) || decide (hexV c = c.toNat - 87)) = true) (by decide +kernel) c
  simpa [h] using this
theorem low_any (c : UInt8) (h : 97 ≤ c.toNat ∧ c.toNat ≤ 102) (w : World) : Calls Tryz.prog 227 #[.int .u8 (c.toNat : Int)] w fun e w' => e = .returned (.int .u8 (c.toNat : Int)) ∧ w = w' := by
  have := Tryz.internal_strconv_lower (c.toNat : Int) w
  rw [low_same c h] at this
  refine this.mono ?_
  rintro e w' ⟨rfl, rfl⟩
  exact ⟨rfl, rfl⟩

set_option maxRecDepth 100000 in
set_option maxHeartbeats 4000000 in
theorem parse16_any (L : List UInt8) (w : World) (h0 : L ≠ []) (h2 : L.length ≤ 2) (hx : ∀ c ∈ L, isHex c = true) :
    Calls Tryz.prog 202 #[.string (strB L), .int .i64 16, .int .i64 8] w fun e w' => e = .returned (.tuple #[.int .u64 (hexN L : Nat), .nilIface]) ∧ Ext w w' := by
  have hcv := fun W : World => Lib.run_convert_string_bytes (P := Tryz.prog) W 9 61 5 (strB L) Tryz.underlying9 Tryz.underlying61 Tryz.underlying5
  have hsz := strB_size L
  have hne : ((strB L).toList == ([] : List UInt8)) = false := by
    rw [ByteArray.toList_eq, strB_toList]
    simpa using h0
  have hne2 : (strB L).toList.isEmpty = false := by
    rw [ByteArray.toList_eq, strB_toList]
    simpa using h0
  have hcells : ∀ k c, L[k]? = some c → (Lib.bytesWorld w 5 (strB L)).cell? ⟨w.heap.size, k, none⟩ = some (.int .u8 (c.toNat : Int)) := fun k c hk => by
    have hlt := (List.getElem?_eq_some_iff.1 hk).1
    rw [Lib.bytesWorld_cell w _ _ k (by rw [hsz]; exact hlt), strB_toList]
    simp [List.getD, hk]
  have hxw : Ext w (Lib.bytesWorld w 5 (strB L)) := ext_bytes _ _ _
  generalize hgs : strB L = s at *
  have HX := Lib.hid hx
  have HC := Lib.hid hcells
  have HCV := Lib.hid (hcv w)
  have hcv1 := hcv w
  clear hx hcells hcv hgs h0
  go_enter Tryz.func202, Tryz.ntmps202
  go_wp2_with fail
  go_loop [12, 13, 101] (fun u n i => ∃ k : Nat, k ≤ L.length ∧ u = .bool false ∧ i = .int .i64 k ∧ n = .int .u64 (hexN (L.take k) : Nat) ∧ hexN (L.take k) < 16 ^ k) (fun _ _ i => L.length - (intOf i).toNat)
  case atStart => exact ⟨0, Nat.zero_le _, rfl, rfl, by simp [hexN], by simp [hexN]⟩
  case round =>
    obtain ⟨k, hk, rfl, rfl, rfl, hn⟩ := hrel
    by_cases hlt : k < L.length
    · have ho : L[k]? = some L[k] := List.getElem?_eq_getElem hlt
      have hh := HX.out L[k] (List.getElem_mem hlt)
      generalize L[k] = c at ho hh
      have d0 := HC.out k c ho
      have hst : hexN (L.take (k + 1)) = 16 * hexN (L.take k) + hexV c := by
        rw [List.take_add_one, ho]
        exact hexN_step _ _
      have hn16 : hexN (L.take k) < 16 := Nat.lt_of_lt_of_le hn (by
        have : k = 0 ∨ k = 1 := by omega
        rcases this with rfl | rfl <;> decide)
      have hv16 := hexV_lt c hh
      have hpow : hexN (L.take (k + 1)) < 16 ^ (k + 1) := by rw [hst, Nat.pow_succ]; omega
      have HST := Lib.hid hst
      have HPW := Lib.hid hpow
      have hcd : (48 ≤ c.toNat ∧ c.toNat ≤ 57) ∨ (97 ≤ c.toNat ∧ c.toNat ≤ 102) := by
        have := isHex_nat c
        rw [hh] at this
        simpa using this
      clear hst hpow hn ho hh
      generalize hexN (L.take k) = n at *
      rcases hcd with ⟨h1, h2⟩ | ⟨h1, h2⟩
      · have hv := hexV_digit c ⟨h1, h2⟩
        have q95 := u8_ne' (c := c) (n := 95) (z := 95) rfl (by omega) (by rintro rfl; revert h2; decide)
        have hd1 : ((c.toNat : Int) - 48) = ((hexV c : Nat) : Int) := by omega
        generalize hexV c = d at *
        clear hv
        go_upto_region 46 with fail
        clear h1 h2 hd1 q95
        have hcut : decide ((1152921504606846976 : Int) ≤ (n : Int)) = false := decide_eq_false (by omega)
        have hcut2 : ¬ (1152921504606846976 : Int) ≤ (n : Int) := by omega
        go_wp2_with fail
        go_round
        case rel => exact ⟨k + 1, hlt, rfl, by go_num, by rw [HST.out]; go_num, HPW.out⟩
        case measure => simp [intOf]; omega
      · have hv := hexV_letter c ⟨h1, h2⟩
        have q95 := u8_ne' (c := c) (n := 95) (z := 95) rfl (by omega) (by rintro rfl; revert h1; decide)
        have hd1 : ((c.toNat : Int) - 97 + 10) = ((hexV c : Nat) : Int) := by omega
        have hw1 : IntKind.u8.wrap ((c.toNat : Int) - 97) = (c.toNat : Int) - 97 := IntWalk.u8_in _ (by omega)
        have hw2 : IntKind.u8.wrap ((c.toNat : Int) - 97 + 10) = (c.toNat : Int) - 97 + 10 := IntWalk.u8_in _ (by omega)
        have hlow := fun W => Lib.hid (low_any c ⟨h1, h2⟩ W)
        generalize hexV c = d at *
        clear hv
        have h122 : c.toNat ≤ 122 := by omega
        go_upto_region 46 with (go_at_call 227; refine (hlow _).out.mono ?_; rintro e w' ⟨rfl, rfl⟩)
        clear h122 h1 h2 hd1 hw1 hw2 q95 hlow
        have hcut : decide ((1152921504606846976 : Int) ≤ (n : Int)) = false := decide_eq_false (by omega)
        have hcut2 : ¬ (1152921504606846976 : Int) ≤ (n : Int) := by omega
        go_wp2_with fail
        go_round
        case rel => exact ⟨k + 1, hlt, rfl, by go_num, by rw [HST.out]; go_num, HPW.out⟩
        case measure => simp [intOf]; omega
    · obtain rfl : k = L.length := by omega
      rw [List.take_length] at hn ⊢
      go_wp2_with fail
      go_ret2
      exact ⟨rfl, hxw⟩

end Go.Proofs.YtmnnhdegoapfcaaGreatDoor

/- Layer 8, the reference: tokens as values; what is known of a byte of each kind. -/
namespace Go.Proofs.YtmnnhdegoapfcaaGreatDoor
open Go.RowKit Go.El

def tokV (t : TokV) : Value := .agg #[.int .i64 t.kind, .string t.s, .int .i64 t.n, .int .i64 t.at_, .bool t.lay]
theorem tokV_eq (t : TokV) : tokV t = .agg #[.int .i64 t.kind, .string t.s, .int .i64 t.n, .int .i64 t.at_, .bool t.lay] := rfl
/-- What the reference's 'one' hands back. -/
def oneV (i : Nat) : Except Int (Int × List UInt8 × Int × Nat) → Value
  | .error e => .tuple #[tokV zeroT, .int .i64 (i : Int), .int .i64 e]
  | .ok (k, s, n, e) => .tuple #[tokV ⟨k, strB s, n, i, false⟩, .int .i64 (e : Int), .int .i64 0]
theorem ret_one {i : Nat} {a b : Except Int (Int × List UInt8 × Int × Nat)} (h : a = b) : Ending.returned (oneV i a) = .returned (oneV i b) := by rw [h]

theorem nameS_ok {k : Int} {s : List UInt8} {e : Nat} (h : ¬ 64 < s.length) : nameS k s e = .ok (k, s, 0, e) := by unfold nameS; rw [if_neg h]
theorem nameS_long {k : Int} {s : List UInt8} {e : Nat} (h : 64 < s.length) : nameS k s e = .error 3 := by unfold nameS; rw [if_pos h]

theorem oneS_end {B : List UInt8} {i : Nat} {c : UInt8} (h : endsS B i c = true) : oneS B i c = nameS 6 [c] (i + 1) := by unfold oneS; rw [if_pos h]
theorem oneS_small {B : List UInt8} {i : Nat} {c : UInt8} (h : isSmall c = true) : oneS B i c = nameS 1 (sub B i (rowTo isWord B i)) (rowTo isWord B i) := by
  have h1 : endsS B i c = false := by
    have := all_bytes (p := fun c => (!isSmall c || (c != 46)) = true) (by decide +kernel) c
    unfold endsS
    rw [h] at this
    have h46 : (c == 46) = false := by simpa using this
    rw [h46]; rfl
  unfold oneS; rw [if_neg (by simp [h1]), if_pos h]
theorem oneS_sign {B : List UInt8} {i : Nat} {c : UInt8} (h1 : endsS B i c = false) (h : isSign c = true) : oneS B i c = nameS 1 (sub B i (rowTo isSign B i)) (rowTo isSign B i) := by
  have h2 : isSmall c = false := by
    have := all_bytes (p := fun c => (!isSign c || !isSmall c) = true) (by decide +kernel) c
    rw [h] at this
    simpa using this
  unfold oneS; rw [if_neg (by simp [h1]), if_neg (by simp [h2]), if_pos h]
theorem ends_no {B : List UInt8} {i : Nat} {c : UInt8} (h : c ≠ 46) : endsS B i c = false := by unfold endsS; rw [show (c == 46) = false from by simpa using h]; rfl
theorem oneS_solo {B : List UInt8} {i : Nat} {c : UInt8} (h : c = 33 ∨ c = 59) : oneS B i c = nameS 1 [c] (i + 1) := by
  have h0 : endsS B i c = false := ends_no (by rintro rfl; revert h; decide)
  have h1 : isSmall c = false := by rcases h with rfl | rfl <;> rfl
  have h2 : isSign c = false := by rcases h with rfl | rfl <;> rfl
  unfold oneS; rw [if_neg (by simp [h0]), if_neg (by simp [h1]), if_neg (by simp [h2]), if_pos h]
theorem digit_not (c : UInt8) (h : isDigit c = true) : c ≠ 46 ∧ isSmall c = false ∧ isSign c = false ∧ c ≠ 33 ∧ c ≠ 59 ∧ isWord c = true := by
  have := all_bytes (p := fun c => (!isDigit c || (c != 46 && !isSmall c && !isSign c && c != 33 && c != 59 && isWord c)) = true) (by decide +kernel) c
  rw [h] at this
  simpa [and_assoc] using this
theorem oneS_digit {B : List UInt8} {i : Nat} {c : UInt8} (h : isDigit c = true) : oneS B i c = (if numV (sub B i (rowTo isDigit B i)) ≤ 9007199254740991 then .ok (4, [], numV (sub B i (rowTo isDigit B i)), rowTo isDigit B i) else .error 81) := by
  obtain ⟨g1, g2, g3, g4, g5, _⟩ := digit_not c h
  unfold oneS; rw [if_neg (by simp [ends_no g1]), if_neg (by simp [g2]), if_neg (by simp [g3]), if_neg (by simp [g4, g5]), if_pos h]
/-- A word's byte that begins a variable. -/
def isGreat (c : UInt8) : Bool := isWord c && !isSmall c && !isDigit c
theorem great_not (c : UInt8) (h : isGreat c = true) : c ≠ 46 ∧ isSmall c = false ∧ isSign c = false ∧ c ≠ 33 ∧ c ≠ 59 ∧ isDigit c = false ∧ isWord c = true := by
  have := all_bytes (p := fun c => (!isGreat c || (c != 46 && !isSmall c && !isSign c && c != 33 && c != 59 && !isDigit c && isWord c)) = true) (by decide +kernel) c
  rw [h] at this
  simpa [and_assoc] using this
theorem oneS_great {B : List UInt8} {i : Nat} {c : UInt8} (h : isGreat c = true) : oneS B i c = nameS 3 (sub B i (rowTo isWord B i)) (rowTo isWord B i) := by
  obtain ⟨g1, g2, g3, g4, g5, g6, g7⟩ := great_not c h
  unfold oneS; rw [if_neg (by simp [ends_no g1]), if_neg (by simp [g2]), if_neg (by simp [g3]), if_neg (by simp [g4, g5]), if_neg (by simp [g6]), if_pos g7]
theorem punct_not (c : UInt8) (h : isPunct c = true) : c ≠ 46 ∧ isSmall c = false ∧ isSign c = false ∧ c ≠ 33 ∧ c ≠ 59 ∧ isDigit c = false ∧ isWord c = false := by
  have := all_bytes (p := fun c => (!isPunct c || (c != 46 && !isSmall c && !isSign c && c != 33 && c != 59 && !isDigit c && !isWord c)) = true) (by decide +kernel) c
  rw [h] at this
  simpa [and_assoc] using this
theorem oneS_punct {B : List UInt8} {i : Nat} {c : UInt8} (h : isPunct c = true) : oneS B i c = nameS 5 [c] (i + 1) := by
  obtain ⟨g1, g2, g3, g4, g5, g6, g7⟩ := punct_not c h
  unfold oneS; rw [if_neg (by simp [ends_no g1]), if_neg (by simp [g2]), if_neg (by simp [g3]), if_neg (by simp [g4, g5]), if_neg (by simp [g6]), if_neg (by simp [g7]), if_pos h]
theorem oneS_quote {B : List UInt8} {i : Nat} : oneS B i 39 = match quoS B (i + 1) [] with | none => .error 80 | some (s, e) => nameS 2 s e := by
  unfold oneS; rw [if_neg (by simp [ends_no (B := B) (i := i) (c := 39) (by decide)]), if_neg (by decide), if_neg (by decide), if_neg (by decide), if_neg (by decide), if_neg (by decide), if_neg (by decide), if_pos rfl]
  cases quoS B (i + 1) [] <;> rfl
/-- A byte that begins no token. -/
def isOther (c : UInt8) : Bool := !(c == 46) && !isSmall c && !isSign c && !(c == 33) && !(c == 59) && !isWord c && !isPunct c && !(c == 39)
theorem other_not (c : UInt8) (h : isOther c = true) : c ≠ 46 ∧ isSmall c = false ∧ isSign c = false ∧ c ≠ 33 ∧ c ≠ 59 ∧ isDigit c = false ∧ isWord c = false ∧ isPunct c = false ∧ c ≠ 39 := by
  have := all_bytes (p := fun c => (!isOther c || (c != 46 && !isSmall c && !isSign c && c != 33 && c != 59 && !isDigit c && !isWord c && !isPunct c && c != 39)) = true) (by decide +kernel) c
  rw [h] at this
  simpa [and_assoc] using this
theorem oneS_other {B : List UInt8} {i : Nat} {c : UInt8} (h : isOther c = true) : oneS B i c = .error 80 := by
  obtain ⟨g1, g2, g3, g4, g5, g6, g7, g8, g9⟩ := other_not c h
  unfold oneS; rw [if_neg (by simp [ends_no g1]), if_neg (by simp [g2]), if_neg (by simp [g3]), if_neg (by simp [g4, g5]), if_neg (by simp [g6]), if_neg (by simp [g7]), if_neg (by simp [g8]), if_neg g9]
/-- Each byte is of one kind. -/
theorem byte_kinds (c : UInt8) : c = 46 ∨ isSmall c = true ∨ (c ≠ 46 ∧ isSign c = true) ∨ (c = 33 ∨ c = 59) ∨ isDigit c = true ∨ isGreat c = true ∨ isPunct c = true ∨ c = 39 ∨ isOther c = true := by
  have := all_bytes (p := fun c => (c == 46 || isSmall c || (c != 46 && isSign c) || (c == 33 || c == 59) || isDigit c || isGreat c || isPunct c || c == 39 || isOther c) = true) (by decide +kernel) c
  simpa [or_assoc] using this
theorem sub_one {B : List UInt8} {i : Nat} {c : UInt8} (h : B[i]? = some c) : sub B i (i + 1) = [c] := by
  unfold sub
  rw [drop_cons h]
  simp
theorem sub_row (p : UInt8 → Bool) (B : List UInt8) (i : Nat) : sub B i (rowTo p B i) = (B.drop i).takeWhile p := by
  have h := rowTo_ge p B i
  unfold sub
  have e : rowTo p B i - i = ((B.drop i).takeWhile p).length := by unfold rowTo; omega
  rw [e]
  exact (List.prefix_iff_eq_take.1 (List.takeWhile_prefix p)).symm
theorem takeWhile_all (p : UInt8 → Bool) : ∀ (l : List UInt8), ∀ c ∈ l.takeWhile p, p c = true
  | [], c, h => by simp at h
  | d :: l, c, h => by
    rw [List.takeWhile_cons] at h
    split at h
    · next hd =>
      rcases List.mem_cons.1 h with rfl | h
      · exact hd
      · exact takeWhile_all p l c h
    · simp at h
theorem sub_row_all (p : UInt8 → Bool) (B : List UInt8) (i : Nat) : ∀ c ∈ sub B i (rowTo p B i), p c = true := by
  rw [sub_row]
  intro c hc
  exact takeWhile_all p _ c hc

end Go.Proofs.YtmnnhdegoapfcaaGreatDoor
