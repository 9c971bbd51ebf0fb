/- Layer 8, the reference: the walks of hex, row, number. -/
import Derived.Test.YtgjdajkkncdhmaaDoorRT1
namespace Go.Proofs.YtgjdajkkncdhmaaDoor
open Go.RowKit Go.El

/-- A hex digit's number; below 0: it is none. -/
def hexI (c : UInt8) : Int := if isHex c then (hexV c : Int) else -1
theorem isDigit_nat (c : UInt8) : isDigit c = decide (48 ≤ c.toNat ∧ c.toNat ≤ 57) := all_bytes (p := fun c => isDigit c = decide (48 ≤ c.toNat ∧ c.toNat ≤ 57)) (by decide +kernel) c
theorem isHex_nat (c : UInt8) : isHex c = decide ((48 ≤ c.toNat ∧ c.toNat ≤ 57) ∨ (97 ≤ c.toNat ∧ c.toNat ≤ 102)) := all_bytes (p := fun c => isHex c = decide ((48 ≤ c.toNat ∧ c.toNat ≤ 57) ∨ (97 ≤ c.toNat ∧ c.toNat ≤ 102))) (by decide +kernel) c
theorem hexI_nat (c : UInt8) : hexI c = if 48 ≤ c.toNat ∧ c.toNat ≤ 57 then (c.toNat : Int) - 48 else if 97 ≤ c.toNat ∧ c.toNat ≤ 102 then (c.toNat : Int) - 87 else -1 :=
  all_bytes (p := fun c => hexI c = if 48 ≤ c.toNat ∧ c.toNat ≤ 57 then (c.toNat : Int) - 48 else if 97 ≤ c.toNat ∧ c.toNat ≤ 102 then (c.toNat : Int) - 87 else -1) (by decide +kernel) c
theorem hexI_lt (c : UInt8) : hexI c < 16 := all_bytes (p := fun c => hexI c < 16) (by decide +kernel) c
theorem ret_int {a b : Int} (h : a = b) : Ending.returned (.int .i64 a) = .returned (.int .i64 b) := by rw [h]

set_option maxHeartbeats 400000 in
theorem rHex_any (c : UInt8) (w : World) :
    Calls Tryd.prog 68 #[.int .u8 (c.toNat : Int)] w fun e w' => e = .returned (.int .i64 (hexI c)) ∧ w = w' := by
  have hb := hexI_nat c
  have HB := Lib.hid hb
  have hlt : c.toNat < 256 := c.toNat_lt
  clear hb
  by_cases h1 : 48 ≤ c.toNat ∧ c.toNat ≤ 57
  · have HV : Hid (hexI c = (c.toNat : Int) - 48) := by rw [HB.out, if_pos h1]; rfl
    clear HB
    obtain ⟨h1, h2⟩ := h1
    go_enter Tryd.func68, Tryd.ntmps68
    go_wp2_with fail
    all_goals
      go_ret
      exact ⟨ret_int (by rw [HV.out]; try omega), rfl⟩
  · by_cases h2 : 97 ≤ c.toNat ∧ c.toNat ≤ 102
    · have HV : Hid (hexI c = (c.toNat : Int) - 87) := by rw [HB.out, if_neg h1, if_pos h2]; rfl
      clear HB
      obtain ⟨h2, h3⟩ := h2
      go_enter Tryd.func68, Tryd.ntmps68
      go_wp2_with fail
      all_goals
        go_ret
        exact ⟨ret_int (by rw [HV.out]; try omega), rfl⟩
    · have HV : Hid (hexI c = -1) := by rw [HB.out, if_neg h1, if_neg h2]; rfl
      clear HB
      go_enter Tryd.func68, Tryd.ntmps68
      go_wp2_with fail
      all_goals
        first
          | (exfalso; omega)
          | (go_ret
             exact ⟨ret_int HV.out.symm, rfl⟩)

set_option maxRecDepth 100000 in
set_option maxHeartbeats 1000000 in
theorem rRow_any (A : Option Addr) (cap : Nat) (B : List UInt8) (i0 : Nat) (kd : Int) (p : UInt8 → Bool) (w : World) (h : BytesAt w A B) (hi : i0 ≤ B.length) (hB : B.length ≤ 70000) (hkd : kd = 1 ∧ p = isWord ∨ kd = 2 ∧ p = isSign ∨ kd = 3 ∧ p = isDigit) :
    Calls Tryd.prog 44 #[.slice A B.length cap, .int .i64 (i0 : Int), .int .i64 kd] w fun e w' => e = .returned (.int .i64 (rowTo p B i0 : Nat)) ∧ w = w' := by
  have H := Lib.hid h
  clear h
  rcases hkd with ⟨rfl, rfl⟩ | ⟨rfl, rfl⟩ | ⟨rfl, rfl⟩
  all_goals
    go_enter Tryd.func44, Tryd.ntmps44
    go_wp2_with fail
  · go_loop [1] (fun i => ∃ k : Nat, k ≤ B.length ∧ i = .int .i64 k ∧ Hid (rowTo isWord B i0 = rowTo isWord B k)) (fun i => B.length - (intOf i).toNat)
    case atStart => exact ⟨i0, hi, rfl, rfl⟩
    case round =>
      obtain ⟨k, hk, rfl, HS⟩ := hrel
      by_cases hlt : k < B.length
      · obtain ⟨b, off, rfl, hc⟩ := bytes_at H.out hlt
        have ho : B[k]? = some B[k] := List.getElem?_eq_getElem hlt
        generalize B[k] = c at ho
        have d0 := hc k c ho
        clear hc
        have hwn : wordN c.toNat = isWord c := (isWord_nat c).symm
        cases hb : isWord c
        · have HN : Hid (rowTo isWord B i0 = k) := HS.out.trans (rowTo_no ho hb)
          rw [hb] at hwn
          clear ho hb
          go_wp2_with (go_at_call 25; refine (rWord_any _ _).mono ?_; rintro e w' ⟨rfl, rfl⟩)
          go_ret
          exact ⟨ret_int (by rw [HN.out]), rfl⟩
        · have HN : Hid (rowTo isWord B i0 = rowTo isWord B (k + 1)) := HS.out.trans (rowTo_yes ho hb)
          rw [hb] at hwn
          clear ho hb
          go_wp2_with (go_at_call 25; refine (rWord_any _ _).mono ?_; rintro e w' ⟨rfl, rfl⟩)
          go_round
          case rel => exact ⟨k + 1, hlt, by go_num, HN.out⟩
          case measure => simp [intOf]; omega
      · obtain rfl : k = B.length := by omega
        have HN : Hid (rowTo isWord B i0 = B.length) := HS.out.trans (rowTo_end (List.getElem?_eq_none (Nat.le_refl _)))
        go_wp2_with fail
        go_ret
        exact ⟨ret_int (by rw [HN.out]), rfl⟩
  · go_loop [1] (fun i => ∃ k : Nat, k ≤ B.length ∧ i = .int .i64 k ∧ Hid (rowTo isSign B i0 = rowTo isSign B k)) (fun i => B.length - (intOf i).toNat)
    case atStart => exact ⟨i0, hi, rfl, rfl⟩
    case round =>
      obtain ⟨k, hk, rfl, HS⟩ := hrel
      by_cases hlt : k < B.length
      · obtain ⟨b, off, rfl, hc⟩ := bytes_at H.out hlt
        have ho : B[k]? = some B[k] := List.getElem?_eq_getElem hlt
        generalize B[k] = c at ho
        have d0 := hc k c ho
        clear hc
        have hwn : hasB signS c = isSign c := rfl
        cases hb : isSign c
        · have HN : Hid (rowTo isSign B i0 = k) := HS.out.trans (rowTo_no ho hb)
          rw [hb] at hwn
          clear ho hb
          go_wp2_with (go_at_call 26; refine (rSign_any _ _).mono ?_; rintro e w' ⟨rfl, rfl⟩)
          go_ret
          exact ⟨ret_int (by rw [HN.out]), rfl⟩
        · have HN : Hid (rowTo isSign B i0 = rowTo isSign B (k + 1)) := HS.out.trans (rowTo_yes ho hb)
          rw [hb] at hwn
          clear ho hb
          go_wp2_with (go_at_call 26; refine (rSign_any _ _).mono ?_; rintro e w' ⟨rfl, rfl⟩)
          go_round
          case rel => exact ⟨k + 1, hlt, by go_num, HN.out⟩
          case measure => simp [intOf]; omega
      · obtain rfl : k = B.length := by omega
        have HN : Hid (rowTo isSign B i0 = B.length) := HS.out.trans (rowTo_end (List.getElem?_eq_none (Nat.le_refl _)))
        go_wp2_with fail
        go_ret
        exact ⟨ret_int (by rw [HN.out]), rfl⟩
  · go_loop [1] (fun i => ∃ k : Nat, k ≤ B.length ∧ i = .int .i64 k ∧ Hid (rowTo isDigit B i0 = rowTo isDigit B k)) (fun i => B.length - (intOf i).toNat)
    case atStart => exact ⟨i0, hi, rfl, rfl⟩
    case round =>
      obtain ⟨k, hk, rfl, HS⟩ := hrel
      by_cases hlt : k < B.length
      · obtain ⟨b, off, rfl, hc⟩ := bytes_at H.out hlt
        have ho : B[k]? = some B[k] := List.getElem?_eq_getElem hlt
        generalize B[k] = c at ho
        have d0 := hc k c ho
        clear hc
        have hwn := isDigit_nat c
        cases hb : isDigit c
        · have HN : Hid (rowTo isDigit B i0 = k) := HS.out.trans (rowTo_no ho hb)
          have hn : ¬ (48 ≤ c.toNat ∧ c.toNat ≤ 57) := by rw [hb] at hwn; simpa using hwn
          clear ho hb hwn
          have hd : c.toNat < 48 ∨ (48 ≤ c.toNat ∧ 57 < c.toNat) := by omega
          clear hn
          rcases hd with h1 | ⟨h1, h2⟩
          all_goals
            go_wp2_with fail
            go_ret
            exact ⟨ret_int (by rw [HN.out]), rfl⟩
        · have HN : Hid (rowTo isDigit B i0 = rowTo isDigit B (k + 1)) := HS.out.trans (rowTo_yes ho hb)
          obtain ⟨h1, h2⟩ : 48 ≤ c.toNat ∧ c.toNat ≤ 57 := by rw [hb] at hwn; simpa using hwn
          clear ho hb hwn
          go_wp2_with fail
          go_round
          case rel => exact ⟨k + 1, hlt, by go_num, HN.out⟩
          case measure => simp [intOf]; omega
      · obtain rfl : k = B.length := by omega
        have HN : Hid (rowTo isDigit B i0 = B.length) := HS.out.trans (rowTo_end (List.getElem?_eq_none (Nat.le_refl _)))
        go_wp2_with fail
        go_ret
        exact ⟨ret_int (by rw [HN.out]), rfl⟩

end Go.Proofs.YtgjdajkkncdhmaaDoor
