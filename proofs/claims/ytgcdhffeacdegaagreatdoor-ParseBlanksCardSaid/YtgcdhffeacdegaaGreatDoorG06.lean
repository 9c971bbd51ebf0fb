/- Layer 8, the reference: the walks of blank, skip, row, hex. -/
import Derived.Test.YtgcdhffeacdegaaGreatDoorG05
import Derived.Test.YtgcdhffeacdegaaGreatDoorG03
import Derived.Test.YtgcdhffeacdegaaGreatDoorG02
import Derived.Laws.BytesArg
import Derived.Laws.IdiomStrings
import Derived.Lib.ConvBytes
namespace Go.Proofs.YtgcdhffeacdegaaGreatDoor
open Go.RowKit Go.El

def u8V (c : UInt8) : Value := .int .u8 (c.toNat : Int)
/-- A slice of bytes that reads as these. -/
def BytesAt (w : World) (A : Option Addr) (B : List UInt8) : Prop := El.Src w A B.length 1 (B.map u8V)
theorem BytesAt.ext {w w' : World} {A : Option Addr} {B : List UInt8} (h : BytesAt w A B) (x : Ext w w') : BytesAt w' A B := El.Src.ext h x
theorem bytes_at {w : World} {A : Option Addr} {B : List UInt8} (h : BytesAt w A B) {k : Nat} (hk : k < B.length) : ∃ b off, A = some ⟨b, off, none⟩ ∧ ∀ j c, B[j]? = some c → w.cell? ⟨b, off + j, none⟩ = some (.int .u8 (c.toNat : Int)) := by
  obtain ⟨b, off, rfl, hc⟩ := El.Src.form h (by omega) (by omega)
  exact ⟨b, off, rfl, fun j c hj => hc j _ (by simp [hj, u8V])⟩

theorem isBlank_nat (c : UInt8) : isBlank c = decide (c.toNat = 32 ∨ c.toNat = 9 ∨ c.toNat = 10 ∨ c.toNat = 13) := all_bytes (p := fun c => isBlank c = decide (c.toNat = 32 ∨ c.toNat = 9 ∨ c.toNat = 10 ∨ c.toNat = 13)) (by decide +kernel) c
theorem u8_eq {c : UInt8} {n : Nat} (hn : n < 256) : ((c.toNat : Int) == (n : Int)) = decide (c = UInt8.ofNat n) := by
  rw [Bool.eq_iff_iff, decide_eq_true_iff, beq_iff_eq]
  constructor
  · intro h
    have : c.toNat = n := by omega
    rw [← this]; simp
  · rintro rfl
    simp
    omega

set_option maxHeartbeats 400000 in
theorem rBlank_any (c : UInt8) (w : World) :
    Calls Tryz.prog 106 #[.int .u8 (c.toNat : Int)] w fun e w' => e = .returned (.bool (isBlank c)) ∧ w = w' := by
  have hb := isBlank_nat c
  have HB := Lib.hid hb
  clear hb
  go_enter Tryz.func106, Tryz.ntmps106
  go_wp2_with fail
  all_goals
    go_ret
    exact ⟨ret_bool (by rw [HB.out, Bool.eq_iff_iff]; simp_all <;> omega), rfl⟩

theorem eol_no {B : List UInt8} {i : Nat} (h : B[i]? = some 10) : eol B i = i := rowTo_no h (by decide)
theorem eol_yes {B : List UInt8} {i : Nat} {c : UInt8} (h : B[i]? = some c) (hc : c ≠ 10) : eol B i = eol B (i + 1) := rowTo_yes h (by simpa using hc)
theorem eol_end {B : List UInt8} {i : Nat} (h : B.length ≤ i) : eol B i = i := rowTo_end (List.getElem?_eq_none h)
theorem close_hit {B : List UInt8} {i : Nat} (h : B[i]? = some 42) (h2 : B[i + 1]? = some 47) : close B i = some i := by
  unfold close
  rw [drop_cons h]
  unfold closeF
  rw [if_pos ⟨rfl, by rw [List.head?_drop]; exact h2⟩]
  rfl
theorem close_step {B : List UInt8} {i : Nat} {c : UInt8} (h : B[i]? = some c) (h2 : ¬ (c = 42 ∧ B[i + 1]? = some 47)) : close B i = close B (i + 1) := by
  unfold close
  rw [drop_cons h]
  conv => lhs; unfold closeF
  rw [if_neg (by rw [List.head?_drop]; exact h2), Option.map_map]
  congr 1
  funext n
  simp
  omega
theorem close_none {B : List UInt8} {i : Nat} (h : B.length ≤ i + 1) : close B i = none := by
  cases hc : close B i with
  | none => rfl
  | some e => have := close_bd hc; omega

set_option maxRecDepth 100000 in
set_option maxHeartbeats 2000000 in
theorem rSkip_any (A : Option Addr) (cap : Nat) (B : List UInt8) (i0 : Nat) (w : World) (h : BytesAt w A B) (hi : i0 ≤ B.length) (hB : B.length ≤ 70000) :
    Calls Tryz.prog 70 #[.slice A B.length cap, .int .i64 (i0 : Int)] w fun e w' => e = .returned (.tuple #[.int .i64 ((skipTo B i0).1 : Nat), .bool (skipTo B i0).2]) ∧ w = w' := by
  have H := Lib.hid h
  clear h
  go_enter Tryz.func70, Tryz.ntmps70
  go_wp2_with fail
  go_loop [1] (fun i => ∃ k : Nat, k ≤ B.length ∧ i = .int .i64 k ∧ Hid (skipTo B i0 = skipTo B k)) (fun i => B.length - (intOf i).toNat)
  case atStart => exact ⟨i0, hi, rfl, rfl⟩
  case round =>
    obtain ⟨k, hk, rfl, HS⟩ := hrel
    by_cases hlt : k < B.length
    · obtain ⟨b, off, rfl, hc⟩ := bytes_at H.out hlt
      have ho : B[k]? = some B[k] := List.getElem?_eq_getElem hlt
      generalize B[k] = c at ho
      have d0 := hc k c ho
      have HE := Lib.hid (skipTo_eq ho)
      have HC := Lib.hid hc
      have HO := Lib.hid ho
      clear hc ho
      cases hb : isBlank c
      · have HB := Lib.hid hb
        by_cases h37 : c = 37
        · have hq37 : ((c.toNat : Int) == (37 : Int)) = true := by rw [h37]; rfl
          have HN : Hid (skipTo B k = skipTo B (eol B k)) := by rw [HE.out, HB.out, h37]; rfl
          have HO37 : Hid (B[k]? = some 37) := by rw [← h37]; exact HO.out
          clear h37
          go_wp2_with (go_at_call 106; refine (rBlank_any _ _).mono ?_; rintro e w' ⟨rfl, rfl⟩)
          go_loop [1] (fun i => ∃ j : Nat, k ≤ j ∧ j ≤ B.length ∧ i = .int .i64 j ∧ Hid (eol B k = eol B j)) (fun i => B.length - (intOf i).toNat)
          case atStart => exact ⟨k, Nat.le_refl _, hk, rfl, rfl⟩
          case round =>
            obtain ⟨j, hkj, hj, rfl, HJ⟩ := hrel
            by_cases hjl : j < B.length
            · have hoj : B[j]? = some B[j] := List.getElem?_eq_getElem hjl
              generalize B[j] = d at hoj
              have dj := HC.out j d hoj
              have HOJ := Lib.hid hoj
              clear hoj
              by_cases h10 : d = 10
              · subst h10
                have HL : Hid (eol B k = j) := HJ.out.trans (eol_no HOJ.out)
                go_wp2_with fail
                go_round
                case rel => exact ⟨j, hj, rfl, HS.out.trans (HN.out.trans (by rw [HL.out]))⟩
                case measure =>
                  have : k < j := by have := eol_gt HO37.out; have := HL.out; omega
                  simp [intOf]; omega
              · have hne : ((d.toNat : Int) == (10 : Int)) = false := by
                  have := u8_eq (c := d) (n := 10) (by omega)
                  rw [show ((10 : Nat) : Int) = (10 : Int) from rfl] at this
                  rw [this]
                  simpa using h10
                have hne2 : ((d.toNat : Int) != (10 : Int)) = true := by rw [bne, hne]; rfl
                have HL : Hid (eol B k = eol B (j + 1)) := HJ.out.trans (eol_yes HOJ.out h10)
                clear h10
                go_wp2_with fail
                go_round
                case rel => exact ⟨j + 1, by omega, hjl, by go_num, HL.out⟩
                case measure => simp [intOf]; omega
            · obtain rfl : j = B.length := by omega
              have HL : Hid (eol B k = B.length) := HJ.out.trans (eol_end (Nat.le_refl _))
              go_wp2_with fail
              go_round
              case rel => exact ⟨B.length, Nat.le_refl _, rfl, HS.out.trans (HN.out.trans (by rw [HL.out]))⟩
              case measure => simp [intOf]; omega
        · have hq37 : ((c.toNat : Int) == (37 : Int)) = false := by
            have := u8_eq (c := c) (n := 37) (by omega)
            rw [show ((37 : Nat) : Int) = (37 : Int) from rfl] at this
            rw [this]
            simpa using h37
          by_cases hcm : c = 47 ∧ B[k + 1]? = some 42
          · obtain ⟨h47, hn⟩ := hcm
            have hq47 : ((c.toNat : Int) == (47 : Int)) = true := by rw [h47]; rfl
            have d1 := HC.out (k + 1) 42 hn
            have hk1 : k + 1 < B.length := (List.getElem?_eq_some_iff.1 hn).1
            have HN : Hid (skipTo B k = match close B (k + 2) with | none => (k, false) | some e => skipTo B (e + 2)) := by
              rw [HE.out, HB.out, if_neg (by simp), if_neg h37, if_pos ⟨h47, hn⟩]
              show _ = _
              cases close B (k + 2) <;> rfl
            clear hn h37 h47
            go_wp2_with (go_at_call 106; refine (rBlank_any _ _).mono ?_; rintro e w' ⟨rfl, rfl⟩)
            go_loop [6] (fun i => ∃ j : Nat, k + 2 ≤ j ∧ j ≤ B.length ∧ i = .int .i64 j ∧ Hid (close B (k + 2) = close B j)) (fun i => B.length - (intOf i).toNat)
            case atStart => exact ⟨k + 2, Nat.le_refl _, by omega, by go_num, rfl⟩
            case round =>
              obtain ⟨j, hkj, hj, rfl, HJ⟩ := hrel
              by_cases hjl : j + 1 < B.length
              · have hoj : B[j]? = some B[j] := List.getElem?_eq_getElem (by omega)
                have hoj1 : B[j + 1]? = some B[j + 1] := List.getElem?_eq_getElem hjl
                generalize B[j] = d at hoj
                generalize B[j + 1] = d2 at hoj1
                have dj := HC.out j d hoj
                have dj1 := HC.out (j + 1) d2 hoj1
                by_cases hd : d = 42 ∧ d2 = 47
                · obtain ⟨rfl, rfl⟩ := hd
                  have HL : Hid (close B (k + 2) = some j) := HJ.out.trans (close_hit hoj hoj1)
                  clear hoj hoj1
                  go_wp2_with fail
                  go_round
                  case rel => exact ⟨j + 2, by omega, by go_num, HS.out.trans (by rw [HN.out, HL.out])⟩
                  case measure => simp [intOf]; omega
                · have HL : Hid (close B (k + 2) = close B (j + 1)) := HJ.out.trans (close_step hoj (fun h => hd ⟨h.1, by have := h.2; rw [hoj1] at this; exact Option.some.inj this⟩))
                  have hcase : ((d.toNat : Int) == (42 : Int)) = false ∨ (((d.toNat : Int) == (42 : Int)) = true ∧ ((d2.toNat : Int) == (47 : Int)) = false) := by
                    have e1 := u8_eq (c := d) (n := 42) (by omega)
                    have e2 := u8_eq (c := d2) (n := 47) (by omega)
                    rw [show ((42 : Nat) : Int) = (42 : Int) from rfl] at e1
                    rw [show ((47 : Nat) : Int) = (47 : Int) from rfl] at e2
                    rw [e1, e2]
                    by_cases h : d = 42
                    · exact .inr ⟨by simpa using h, by simpa using (fun h2 => hd ⟨h, h2⟩)⟩
                    · exact .inl (by simpa using h)
                  clear hoj hoj1 hd
                  rcases hcase with h1 | ⟨h1, h2⟩
                  all_goals
                    go_wp2_with fail
                    go_round
                    case rel => exact ⟨j + 1, by omega, by omega, by go_num, HL.out⟩
                    case measure => simp [intOf]; omega
              · have HL : Hid (close B (k + 2) = none) := HJ.out.trans (close_none (by omega))
                have HR : Hid (skipTo B i0 = (k, false)) := HS.out.trans (by have e1 := HN.out; rw [HL.out] at e1; exact e1)
                go_wp2_with fail
                go_ret2
                exact ⟨by rw [HR.out]; rfl, rfl⟩
          · have HN : Hid (skipTo B k = (k, true)) := by
              rw [HE.out, HB.out, if_neg (by simp), if_neg h37, if_neg hcm]
              rfl
            have HR := Lib.hid (HS.out.trans HN.out)
            by_cases h47 : c = 47
            · have hq47 : ((c.toNat : Int) == (47 : Int)) = true := by rw [h47]; rfl
              by_cases hk1 : k + 1 < B.length
              · have hn : B[k + 1]? = some B[k + 1] := List.getElem?_eq_getElem hk1
                generalize B[k + 1] = d at hn
                have d1 := HC.out (k + 1) d hn
                have hq42 : ((d.toNat : Int) == (42 : Int)) = false := by
                  have := u8_eq (c := d) (n := 42) (by omega)
                  rw [show ((42 : Nat) : Int) = (42 : Int) from rfl] at this
                  rw [this]
                  simpa using (fun e => hcm ⟨h47, by rw [hn, e]⟩)
                clear hn hcm h47 h37
                go_wp2_with (go_at_call 106; refine (rBlank_any _ _).mono ?_; rintro e w' ⟨rfl, rfl⟩)
                go_ret2
                exact ⟨by rw [HR.out]; rfl, rfl⟩
              · clear hcm h47 h37
                go_wp2_with (go_at_call 106; refine (rBlank_any _ _).mono ?_; rintro e w' ⟨rfl, rfl⟩)
                go_ret2
                exact ⟨by rw [HR.out]; rfl, rfl⟩
            · have hq47 : ((c.toNat : Int) == (47 : Int)) = false := by
                have := u8_eq (c := c) (n := 47) (by omega)
                rw [show ((47 : Nat) : Int) = (47 : Int) from rfl] at this
                rw [this]
                simpa using h47
              clear hcm h47 h37
              go_wp2_with (go_at_call 106; refine (rBlank_any _ _).mono ?_; rintro e w' ⟨rfl, rfl⟩)
              go_ret2
              exact ⟨by rw [HR.out]; rfl, rfl⟩
      · have HN : Hid (skipTo B k = skipTo B (k + 1)) := by rw [HE.out, hb]; rfl
        go_wp2_with (go_at_call 106; refine (rBlank_any _ _).mono ?_; rintro e w' ⟨rfl, rfl⟩)
        go_round
        case rel => exact ⟨k + 1, hlt, by go_num, HS.out.trans HN.out⟩
        case measure => simp [intOf]; omega
    · obtain rfl : k = B.length := by omega
      have HN : Hid (skipTo B i0 = (B.length, true)) := HS.out.trans (skipTo_end (Nat.le_refl _))
      go_wp2_with fail
      go_ret2
      exact ⟨by rw [HN.out]; rfl, rfl⟩

end Go.Proofs.YtgcdhffeacdegaaGreatDoor

/- Layer 8, the reference: the walks of hex, row, number. -/
namespace Go.Proofs.YtgcdhffeacdegaaGreatDoor
open Go.RowKit Go.El

/-- A hex digit's number; below 0: it is none. -/
def hexI (c : UInt8) : Int := if isHex c then (hexV c : Int) else -1
theorem isDigit_nat (c : UInt8) : isDigit c = decide (48 ≤ c.toNat ∧ c.toNat ≤ 57) := all_bytes (p := fun c => isDigit c = decide (48 ≤ c.toNat ∧ c.toNat ≤ 57)) (by decide +kernel) c
theorem isHex_nat (c : UInt8) : isHex c = decide ((48 ≤ c.toNat ∧ c.toNat ≤ 57) ∨ (97 ≤ c.toNat ∧ c.toNat ≤ 102)) := all_bytes (p := fun c => isHex c = decide ((48 ≤ c.toNat ∧ c.toNat ≤ 57) ∨ (97 ≤ c.toNat ∧ c.toNat ≤ 102))) (by decide +kernel) c
theorem hexI_nat (c : UInt8) : hexI c = if 48 ≤ c.toNat ∧ c.toNat ≤ 57 then (c.toNat : Int) - 48 else if 97 ≤ c.toNat ∧ c.toNat ≤ 102 then (c.toNat : Int) - 87 else -1 :=
  all_bytes (p := fun c => hexI c = if 48 ≤ c.toNat ∧ c.toNat ≤ 57 then (c.toNat : Int) - 48 else if 97 ≤ c.toNat ∧ c.toNat ≤ 102 then (c.toNat : Int) - 87 else -1) (by decide +kernel) c
theorem ret_int {k : IntKind} {a b : Int} (h : a = b) : Ending.returned (.int k a) = .returned (.int k b) := by rw [h]

set_option maxHeartbeats 400000 in
theorem rHex_any (c : UInt8) (w : World) :
    Calls Tryz.prog 172 #[.int .u8 (c.toNat : Int)] w fun e w' => e = .returned (.int .i64 (hexI c)) ∧ w = w' := by
  have hb := hexI_nat c
  have HB := Lib.hid hb
  have hlt : c.toNat < 256 := c.toNat_lt
  clear hb
  by_cases h1 : 48 ≤ c.toNat ∧ c.toNat ≤ 57
  · have HV : Hid (hexI c = (c.toNat : Int) - 48) := by rw [HB.out, if_pos h1]; rfl
    clear HB
    obtain ⟨h1, h2⟩ := h1
    go_enter Tryz.func172, Tryz.ntmps172
    go_wp2_with fail
    all_goals
      go_ret
      exact ⟨ret_int (by rw [HV.out]; try omega), rfl⟩
  · by_cases h2 : 97 ≤ c.toNat ∧ c.toNat ≤ 102
    · have HV : Hid (hexI c = (c.toNat : Int) - 87) := by rw [HB.out, if_neg h1, if_pos h2]; rfl
      clear HB
      obtain ⟨h2, h3⟩ := h2
      go_enter Tryz.func172, Tryz.ntmps172
      go_wp2_with fail
      all_goals
        go_ret
        exact ⟨ret_int (by rw [HV.out]; try omega), rfl⟩
    · have HV : Hid (hexI c = -1) := by rw [HB.out, if_neg h1, if_neg h2]; rfl
      clear HB
      go_enter Tryz.func172, Tryz.ntmps172
      go_wp2_with fail
      all_goals
        first
          | (exfalso; omega)
          | (go_ret
             exact ⟨ret_int HV.out.symm, rfl⟩)

set_option maxRecDepth 100000 in
set_option maxHeartbeats 1000000 in
theorem rRow_any (A : Option Addr) (cap : Nat) (B : List UInt8) (i0 : Nat) (kd : Int) (p : UInt8 → Bool) (w : World) (h : BytesAt w A B) (hi : i0 ≤ B.length) (hB : B.length ≤ 70000) (hkd : kd = 1 ∧ p = isWord ∨ kd = 2 ∧ p = isSign ∨ kd = 3 ∧ p = isDigit) :
    Calls Tryz.prog 107 #[.slice A B.length cap, .int .i64 (i0 : Int), .int .i64 kd] w fun e w' => e = .returned (.int .i64 (rowTo p B i0 : Nat)) ∧ w = w' := by
  have H := Lib.hid h
  clear h
  rcases hkd with ⟨rfl, rfl⟩ | ⟨rfl, rfl⟩ | ⟨rfl, rfl⟩
  all_goals
    go_enter Tryz.func107, Tryz.ntmps107
    go_wp2_with fail
  · go_loop [1] (fun i => ∃ k : Nat, k ≤ B.length ∧ i = .int .i64 k ∧ Hid (rowTo isWord B i0 = rowTo isWord B k)) (fun i => B.length - (intOf i).toNat)
    case atStart => exact ⟨i0, hi, rfl, rfl⟩
    case round =>
      obtain ⟨k, hk, rfl, HS⟩ := hrel
      by_cases hlt : k < B.length
      · obtain ⟨b, off, rfl, hc⟩ := bytes_at H.out hlt
        have ho : B[k]? = some B[k] := List.getElem?_eq_getElem hlt
        generalize B[k] = c at ho
        have d0 := hc k c ho
        clear hc
        have hwn : wordN c.toNat = isWord c := (isWord_nat c).symm
        cases hb : isWord c
        · have HN : Hid (rowTo isWord B i0 = k) := HS.out.trans (rowTo_no ho hb)
          rw [hb] at hwn
          clear ho hb
          go_wp2_with (go_at_call 89; refine (rWord_any _ _).mono ?_; rintro e w' ⟨rfl, rfl⟩)
          go_ret
          exact ⟨ret_int (by rw [HN.out]), rfl⟩
        · have HN : Hid (rowTo isWord B i0 = rowTo isWord B (k + 1)) := HS.out.trans (rowTo_yes ho hb)
          rw [hb] at hwn
          clear ho hb
          go_wp2_with (go_at_call 89; refine (rWord_any _ _).mono ?_; rintro e w' ⟨rfl, rfl⟩)
          go_round
          case rel => exact ⟨k + 1, hlt, by go_num, HN.out⟩
          case measure => simp [intOf]; omega
      · obtain rfl : k = B.length := by omega
        have HN : Hid (rowTo isWord B i0 = B.length) := HS.out.trans (rowTo_end (List.getElem?_eq_none (Nat.le_refl _)))
        go_wp2_with fail
        go_ret
        exact ⟨ret_int (by rw [HN.out]), rfl⟩
  · go_loop [1] (fun i => ∃ k : Nat, k ≤ B.length ∧ i = .int .i64 k ∧ Hid (rowTo isSign B i0 = rowTo isSign B k)) (fun i => B.length - (intOf i).toNat)
    case atStart => exact ⟨i0, hi, rfl, rfl⟩
    case round =>
      obtain ⟨k, hk, rfl, HS⟩ := hrel
      by_cases hlt : k < B.length
      · obtain ⟨b, off, rfl, hc⟩ := bytes_at H.out hlt
        have ho : B[k]? = some B[k] := List.getElem?_eq_getElem hlt
        generalize B[k] = c at ho
        have d0 := hc k c ho
        clear hc
        have hwn : hasB signS c = isSign c := rfl
        cases hb : isSign c
        · have HN : Hid (rowTo isSign B i0 = k) := HS.out.trans (rowTo_no ho hb)
          rw [hb] at hwn
          clear ho hb
          go_wp2_with (go_at_call 90; refine (rSign_any _ _).mono ?_; rintro e w' ⟨rfl, rfl⟩)
          go_ret
          exact ⟨ret_int (by rw [HN.out]), rfl⟩
        · have HN : Hid (rowTo isSign B i0 = rowTo isSign B (k + 1)) := HS.out.trans (rowTo_yes ho hb)
          rw [hb] at hwn
          clear ho hb
          go_wp2_with (go_at_call 90; refine (rSign_any _ _).mono ?_; rintro e w' ⟨rfl, rfl⟩)
          go_round
          case rel => exact ⟨k + 1, hlt, by go_num, HN.out⟩
          case measure => simp [intOf]; omega
      · obtain rfl : k = B.length := by omega
        have HN : Hid (rowTo isSign B i0 = B.length) := HS.out.trans (rowTo_end (List.getElem?_eq_none (Nat.le_refl _)))
        go_wp2_with fail
        go_ret
        exact ⟨ret_int (by rw [HN.out]), rfl⟩
  · go_loop [1] (fun i => ∃ k : Nat, k ≤ B.length ∧ i = .int .i64 k ∧ Hid (rowTo isDigit B i0 = rowTo isDigit B k)) (fun i => B.length - (intOf i).toNat)
    case atStart => exact ⟨i0, hi, rfl, rfl⟩
    case round =>
      obtain ⟨k, hk, rfl, HS⟩ := hrel
      by_cases hlt : k < B.length
      · obtain ⟨b, off, rfl, hc⟩ := bytes_at H.out hlt
        have ho : B[k]? = some B[k] := List.getElem?_eq_getElem hlt
        generalize B[k] = c at ho
        have d0 := hc k c ho
        clear hc
        have hwn := isDigit_nat c
        cases hb : isDigit c
        · have HN : Hid (rowTo isDigit B i0 = k) := HS.out.trans (rowTo_no ho hb)
          have hn : ¬ (48 ≤ c.toNat ∧ c.toNat ≤ 57) := by rw [hb] at hwn; simpa using hwn
          clear ho hb hwn
          have hd : c.toNat < 48 ∨ (48 ≤ c.toNat ∧ 57 < c.toNat) := by omega
          clear hn
          rcases hd with h1 | ⟨h1, h2⟩
          all_goals
            go_wp2_with fail
            go_ret
            exact ⟨ret_int (by rw [HN.out]), rfl⟩
        · have HN : Hid (rowTo isDigit B i0 = rowTo isDigit B (k + 1)) := HS.out.trans (rowTo_yes ho hb)
          obtain ⟨h1, h2⟩ : 48 ≤ c.toNat ∧ c.toNat ≤ 57 := by rw [hb] at hwn; simpa using hwn
          clear ho hb hwn
          go_wp2_with fail
          go_round
          case rel => exact ⟨k + 1, hlt, by go_num, HN.out⟩
          case measure => simp [intOf]; omega
      · obtain rfl : k = B.length := by omega
        have HN : Hid (rowTo isDigit B i0 = B.length) := HS.out.trans (rowTo_end (List.getElem?_eq_none (Nat.le_refl _)))
        go_wp2_with fail
        go_ret
        exact ⟨ret_int (by rw [HN.out]), rfl⟩

end Go.Proofs.YtgcdhffeacdegaaGreatDoor

/- Bytes: strings out of bytes, bytes that a call gathers. -/
namespace Go.Proofs.YtgcdhffeacdegaaGreatDoor
open Go.RowKit Go.El

/-- The string of these bytes. -/
def strB (l : List UInt8) : ByteArray := ⟨l.toArray⟩
theorem strB_size (l : List UInt8) : (strB l).size = l.length := by simp [strB, ByteArray.size]
theorem strB_toList (l : List UInt8) : (strB l).data.toList = l := by simp [strB]
theorem strB_mk (s : ByteArray) : strB s.data.toList = s := by simp [strB]

theorem conv_str {w : World} {A : Option Addr} {l : List UInt8} (c : Nat) (h : BytesAt w A l) : (convert 23 9 (.slice A l.length c)).run Tryz.prog w = .ok (.string (strB l)) w := by
  rcases A with _ | a
  · have hl : l = [] := by
      rcases l with _ | ⟨x, l⟩
      · rfl
      · obtain ⟨b, off, ha, _⟩ := bytes_at (k := 0) h (by simp)
        cases ha
    subst hl
    exact run_convert_bytes_nil w 23 5 Tryz.underlying23 Tryz.underlying5 _ _ 9 Tryz.underlying9
  · refine run_convert_bytes_back w 23 9 5 a c l Tryz.underlying23 Tryz.underlying5 Tryz.underlying9 fun j hj => ?_
    obtain ⟨b, off, ha, hc⟩ := bytes_at (k := j) h hj
    injection ha with ha
    subst ha
    have e : (⟨b, off, none⟩ : Addr).add j = ⟨b, off + j, none⟩ := by simp [Addr.add]
    rw [e]
    exact hc j _ (List.getElem?_eq_getElem hj)

/-- Part of these bytes. -/
theorem bytes_sub {w : World} {b off : Nat} {l : List UInt8} (h : BytesAt w (some ⟨b, off, none⟩) l) (i j : Nat) (hij : i ≤ j) (hj : j ≤ l.length) : BytesAt w (some ⟨b, off + i, none⟩) (sub l i j) := by
  have h1 := El.Src.drop (n := i) h (by omega)
  have h2 := El.Src.take (n := j - i) h1 (by omega)
  have e1 : (⟨b, off, none⟩ : Addr).add (i * 1) = ⟨b, off + i, none⟩ := by simp [Addr.add]
  have e2 : (sub l i j).length = j - i := by unfold sub; simp; omega
  unfold BytesAt
  rw [e2]
  rw [e1] at h2
  have e3 : ((l.map u8V).drop (i * 1)).take ((j - i) * 1) = (sub l i j).map u8V := by unfold sub; simp [List.map_drop, List.map_take]
  rw [e3] at h2
  exact h2
theorem sub_length {l : List UInt8} {i j : Nat} (hj : j ≤ l.length) : (sub l i j).length = j - i := by unfold sub; simp; omega

/-- Bytes that a call has gathered in a slice of its own. -/
structure GathB (X wr : World) (v : Value) (F : List UInt8) : Prop where
  own : wr.ownsRow 0 5 1 v F.length (F.map u8V)
  far : ∀ b, v.ownBlock = some b → X.heap.size ≤ b
  ext : Ext X wr
theorem GathB.start (X : World) : GathB X X (.slice none 0 0) [] := ⟨World.ownsRow_nil _ _ _ _, fun b hb => by simp [Value.ownBlock] at hb, Ext.refl _⟩
theorem GathB.go {X wr w' : World} {v : Value} {F : List UInt8} (h : GathB X wr v F) (x : Ext wr w') : GathB X w' v F := ⟨own_ext h.own x, h.far, h.ext.trans x⟩
theorem ext_mods {X V w' : World} {S : List Nat} (h : Ext X V) (hm : Mods S V w') (hS : ∀ k, k ∈ S → X.heap.size ≤ k) : Ext X w' := (Mods.step (S := []) (Mods.ext h) hm (fun x hx => .inr (hS x hx))).toExt (by simp)
theorem mem_ownL {v : Value} {k : Nat} (h : k ∈ ownL v) : v.ownBlock = some k := by simpa [ownL] using h
theorem GathB.step {X wr V w' : World} {v v' : Value} {F : List UInt8} {G : List UInt8} (h : GathB X wr v F) (x : Ext wr V) (ho : w'.ownsRow 0 5 1 v' (F.length + G.length) (F.map u8V ++ G.map u8V)) (hm : Mods (ownL v) V w') (hb : v'.ownBlock = v.ownBlock ∨ v'.ownBlock = some V.heap.size) : GathB X w' v' (F ++ G) := by
  refine ⟨?_, fun b hb' => ?_, ext_mods (h.ext.trans x) hm (fun k hk => h.far k (mem_ownL hk))⟩
  · rw [List.map_append, List.length_append]
    exact ho
  · rcases hb with e | e
    · exact h.far b (e.symm.trans hb')
    · rw [e] at hb'
      injection hb' with hb'
      subst hb'
      exact Nat.le_trans h.ext.size x.size
theorem GathB.slice {X wr : World} {v : Value} {F : List UInt8} (h : GathB X wr v F) : ∃ A c, v = .slice A F.length c ∧ BytesAt wr A F := by
  obtain ⟨A, c, rfl⟩ := own_value h.own
  exact ⟨A, c, rfl, El.Src.of_own h.own⟩
theorem u8_one (l : List UInt8) : ∀ u ∈ l.map u8V, u.oneCell' = true := by
  intro u hu
  obtain ⟨c, _, rfl⟩ := List.mem_map.1 hu
  rfl
theorem u8Info : (Tryz.prog.info? 5).map (fun i => (i.zero, i.size, i.bytes)) = some (some (.int .u8 0), 1, 1) := by kernel_rfl
theorem infoP {P : Program} {t : TypeId} {z : Option Value} {n b : Nat} (h : (P.info? t).map (fun i => (i.zero, i.size, i.bytes)) = some (z, n, b)) : ∃ i, P.info? t = some i ∧ i.zero = z ∧ i.size = n ∧ i.bytes = b := by
  cases hi : P.info? t with
  | none => rw [hi] at h; cases h
  | some i =>
    rw [hi] at h
    injection h with h
    injection h with h1 h2
    injection h2 with h2 h3
    exact ⟨i, rfl, h1, h2, h3⟩

end Go.Proofs.YtgcdhffeacdegaaGreatDoor
