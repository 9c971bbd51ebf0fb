/- Layer 8, the reference: the walks of Plain and what it calls. -/
import Derived.Test.YtgcdhffeacdegaaGreatDoorC04
import Derived.Test.YtgcdhffeacdegaaGreatDoorC03
import Derived.Test.YtgcdhffeacdegaaGreatDoorC02
namespace Go.Proofs.YtgcdhffeacdegaaGreatDoor
open Go.RowKit Go.El

theorem ret_bool {a b : Bool} (h : a = b) : Ending.returned (.bool a) = .returned (.bool b) := by rw [h]

set_option maxHeartbeats 400000 in
theorem rSmall_any (c : UInt8) (w : World) :
    Calls Tryz.prog 88 #[.int .u8 (c.toNat : Int)] w fun e w' => e = .returned (.bool (smallN c.toNat)) ∧ w = w' := by
  go_enter Tryz.func88, Tryz.ntmps88
  go_wp2_with fail
  all_goals
    go_ret
    exact ⟨ret_bool (by rw [Bool.eq_iff_iff]; simp [smallN]; omega), rfl⟩

set_option maxHeartbeats 400000 in
theorem rWord_any (c : UInt8) (w : World) :
    Calls Tryz.prog 89 #[.int .u8 (c.toNat : Int)] w fun e w' => e = .returned (.bool (wordN c.toNat)) ∧ w = w' := by
  cases hs : smallN c.toNat
  all_goals
    have hs' := Lib.hid hs
    go_enter Tryz.func89, Tryz.ntmps89
    go_wp2_with (go_at_call 88; refine (rSmall_any _ _).mono ?_; rintro e w' ⟨rfl, rfl⟩)
    all_goals
      have hs2 := hs'.out
      simp only [smallN, decide_eq_true_eq, decide_eq_false_iff_not] at hs2
      go_ret
      exact ⟨ret_bool (by rw [Bool.eq_iff_iff]; simp [wordN]; omega), rfl⟩

set_option maxHeartbeats 400000 in
theorem rSign_any (c : UInt8) (w : World) :
    Calls Tryz.prog 90 #[.int .u8 (c.toNat : Int)] w fun e w' => e = .returned (.bool (hasB signS c)) ∧ w = w' := by
  go_enter Tryz.func90, Tryz.ntmps90
  go_wp2_with fail
  go_loop [4] (fun i => ∃ k : Nat, k ≤ 17 ∧ i = .int .i64 k ∧ ∀ j, j < k → signL[j]? ≠ some c) (fun i => 17 - (intOf i).toNat)
  case atStart => exact ⟨0, by omega, rfl, fun j hj => by omega⟩
  case round =>
    obtain ⟨k, hk, rfl, hall⟩ := hrel
    by_cases hlt : k < 17
    · have hk' : k < signS.size := hlt
      have e1 : signL[k]? = some (signS[k]'hk') := List.getElem?_eq_getElem (l := signL) hlt
      go_wp2_with fail
      · have hq : (((signS[k]'hk').toNat : Int) == (c.toNat : Int)) = true := by assumption
        have hc : signS[k]'hk' = c := UInt8.toNat_inj.1 (by have := eq_of_beq hq; omega)
        go_ret
        refine ⟨ret_bool (Eq.symm ?_), rfl⟩
        have hm : c ∈ signL := by rw [← hc]; exact List.mem_of_getElem? e1
        simpa [hasB, signL] using hm
      · have hq : (((signS[k]'hk').toNat : Int) == (c.toNat : Int)) = false := by assumption
        have hc : signS[k]'hk' ≠ c := fun e => by rw [e] at hq; simp at hq
        go_round
        case rel =>
          refine ⟨k + 1, hlt, by go_num, fun j hj => ?_⟩
          by_cases hjk : j = k
          · subst hjk; rw [e1]; simpa using hc
          · exact hall j (by omega)
        case measure => simp [intOf]; omega
    · obtain rfl : k = 17 := by omega
      have HF : Hid (hasB signS c = false) := by
        cases h : hasB signS c with
        | false => rfl
        | true =>
          have hm : c ∈ signL := by simpa [hasB, signL] using h
          obtain ⟨j, hj⟩ := List.mem_iff_getElem?.1 hm
          have hj' : j < 17 := (List.getElem?_eq_some_iff.1 hj).1
          exact absurd hj (hall j hj')
      clear hall
      go_wp2_with fail
      go_ret
      exact ⟨ret_bool HF.out.symm, rfl⟩

/-- Of the first k bytes: are all among some? -/
def allTo (s cs : ByteArray) (k : Nat) : Bool := (s.data.toList.take k).all (hasB cs)
theorem allTo_zero (s cs : ByteArray) : allTo s cs 0 = true := by simp [allTo]
theorem allTo_succ (s cs : ByteArray) (k : Nat) (h : k < s.size) : allTo s cs (k + 1) = (allTo s cs k && hasB cs (s[k]'h)) := by
  have hl : k < s.data.toList.length := by simpa using h
  unfold allTo
  rw [List.take_succ_eq_append_getElem hl, List.all_append]
  simp
  rfl
theorem allTo_end (s cs : ByteArray) (k : Nat) (h : s.size ≤ k) : allTo s cs k = allB s cs := by
  unfold allTo allB
  rw [List.take_of_length_le (by simpa using h)]

theorem wordN_hasB (c : UInt8) : wordN c.toNat = hasB wordS c := by rw [hasB_word, isWord_nat]
theorem smallN_hasB (c : UInt8) : smallN c.toNat = hasB smallS c := by rw [hasB_small, isSmall_nat]

set_option maxHeartbeats 1000000 in
theorem rPlain_loop (s : ByteArray) (w : World) (hs : s.size ≤ 9223372036854775807) (h1 : s.data.toList ≠ [33]) (h2 : s.data.toList ≠ [59]) (h3 : s.data.toList ≠ [91, 93]) (h4 : s.data.toList ≠ [123, 125]) (h5 : s.data.toList ≠ []) (h6 : s.data.toList ≠ [46]) :
    Calls Tryz.prog 60 #[.string s] w fun e w' => e = .returned (.bool (plainB s)) ∧ w = w' := by
  obtain ⟨h0, hp⟩ := plain_else h1 h2 h3 h4 h5 h6
  have e1 := lit_ne h1
  have e2 := lit_ne h2
  have e3 := lit_ne h3
  have e4 := lit_ne h4
  have e5 : s.toList.isEmpty = false := by rw [ByteArray.toList_eq]; simpa using h5
  have e6 := lit_ne h6
  have e8 : UInt8.ofNat (s[0]).toNat = s[0] := by simp
  have hpr : prefB s ⟨#[47, 42]⟩ = (decide (2 ≤ s.size) && ((s.extract 0 2).toList == [47, 42])) := by
    have h := (Lib.hasPrefix_raw s ⟨#[47, 42]⟩).symm
    rw [ByteArray.toList_eq (⟨#[47, 42]⟩ : ByteArray)] at h
    exact h
  clear h1 h2 h3 h4 h5 h6
  have hcase : (2 ≤ s.size ∧ ((s.extract 0 2).toList == [47, 42]) = true) ∨ (2 ≤ s.size ∧ ((s.extract 0 2).toList == [47, 42]) = false) ∨ s.size < 2 := by
    by_cases g2 : 2 ≤ s.size
    · cases g3 : ((s.extract 0 2).toList == [47, 42])
      · exact .inr (.inl ⟨g2, rfl⟩)
      · exact .inl ⟨g2, rfl⟩
    · exact .inr (.inr (by omega))
  rcases hcase with ⟨g2, g3⟩ | hcase
  · rw [hpr] at hp
    simp only [g2, g3, decide_true, Bool.and_self, if_true] at hp
    have HP := Lib.hid hp
    clear hp hpr
    go_enter Tryz.func60, Tryz.ntmps60
    go_wp2_with fail
    go_ret
    exact ⟨ret_bool HP.out.symm, rfl⟩
  · have hp' : plainB s = (hasB smallS s[0] && allB s wordS || allB s signS) := by
      rw [hp, hpr, if_neg]
      rcases hcase with ⟨_, g3⟩ | g2
      · simp [g3]
      · simp; omega
    have HP := Lib.hid hp'
    clear hp hpr hp'
    rcases hcase with ⟨g2, g3⟩ | g2
    all_goals
      go_enter Tryz.func60, Tryz.ntmps60
      go_wp2_with (go_at_call 88; refine (rSmall_any _ _).mono ?_; rintro e w' ⟨rfl, rfl⟩)
      go_loop [3, 4, 5] (fun a b i => ∃ k : Nat, k ≤ s.size ∧ i = .int .i64 k ∧ a = .bool (smallN (s[0]).toNat && allTo s wordS k) ∧ b = .bool (allTo s signS k)) (fun _ _ i => s.size - (intOf i).toNat)
      case atStart => exact ⟨0, Nat.zero_le _, rfl, by simp [allTo_zero], by simp [allTo_zero]⟩
      case round =>
        obtain ⟨k, hk, rfl, rfl, rfl⟩ := hrel
        by_cases hlt : k < s.size
        · have hw1 := allTo_succ s wordS k hlt
          have hw2 := allTo_succ s signS k hlt
          have hwn := wordN_hasB (s[k]'hlt)
          have Hw := Lib.hid hw1
          have Hs := Lib.hid hw2
          have Hn := Lib.hid hwn
          clear hw1 hw2 hwn
          generalize hA : (smallN (s[0]).toNat && allTo s wordS k) = A
          generalize hB : allTo s signS k = B
          have HA := Lib.hid hA
          have HB := Lib.hid hB
          clear hA hB
          cases A <;> cases B
          all_goals
            go_wp2_with (first
              | (go_at_call 89; refine (rWord_any _ _).mono ?_; rintro e w' ⟨rfl, rfl⟩)
              | (go_at_call 90; refine (rSign_any _ _).mono ?_; rintro e w' ⟨rfl, rfl⟩))
            go_round
            case rel => exact ⟨k + 1, by omega, by go_num, by rw [Hw.out, ← Bool.and_assoc, HA.out, ← Hn.out]; simp, by rw [Hs.out, HB.out]; simp⟩
            case measure => simp [intOf]; omega
        · have hw1 := allTo_end s wordS k (by omega)
          have hw2 := allTo_end s signS k (by omega)
          have HE : Hid (plainB s = (smallN (s[0]).toNat && allTo s wordS k || allTo s signS k)) := by
            rw [hw1, hw2, smallN_hasB]; exact HP.out
          clear hw1 hw2 HP
          generalize hA : (smallN (s[0]).toNat && allTo s wordS k) = A at HE ⊢
          generalize hB : allTo s signS k = B at HE ⊢
          clear hA hB
          cases A <;> cases B
          all_goals
            go_wp2_with fail
            go_ret
            exact ⟨ret_bool HE.out.symm, rfl⟩

set_option maxHeartbeats 1000000 in
theorem rPlain_any (s : ByteArray) (w : World) (hs : s.size ≤ 9223372036854775807) :
    Calls Tryz.prog 60 #[.string s] w fun e w' => e = .returned (.bool (plainB s)) ∧ w = w' := by
  by_cases h1 : s.data.toList = [33]
  · obtain rfl := mk_of h1
    go_enter Tryz.func60, Tryz.ntmps60
    go_wp2
    go_ret
    exact ⟨rfl, rfl⟩
  by_cases h2 : s.data.toList = [59]
  · obtain rfl := mk_of h2
    go_enter Tryz.func60, Tryz.ntmps60
    go_wp2
    go_ret
    exact ⟨rfl, rfl⟩
  by_cases h3 : s.data.toList = [91, 93]
  · obtain rfl := mk_of h3
    go_enter Tryz.func60, Tryz.ntmps60
    go_wp2
    go_ret
    exact ⟨rfl, rfl⟩
  by_cases h4 : s.data.toList = [123, 125]
  · obtain rfl := mk_of h4
    go_enter Tryz.func60, Tryz.ntmps60
    go_wp2
    go_ret
    exact ⟨rfl, rfl⟩
  by_cases h5 : s.data.toList = []
  · obtain rfl := mk_of h5
    go_enter Tryz.func60, Tryz.ntmps60
    go_wp2
    go_ret
    exact ⟨rfl, rfl⟩
  by_cases h6 : s.data.toList = [46]
  · obtain rfl := mk_of h6
    go_enter Tryz.func60, Tryz.ntmps60
    go_wp2
    go_ret
    exact ⟨rfl, rfl⟩
  exact rPlain_loop s w hs h1 h2 h3 h4 h5 h6

end Go.Proofs.YtgcdhffeacdegaaGreatDoor

/- Layer 8, the reference: the walks of blank, skip, row, hex. -/
namespace Go.Proofs.YtgcdhffeacdegaaGreatDoor
open Go.RowKit Go.El

def u8V (c : UInt8) : Value := .int .u8 (c.toNat : Int)
/-- A slice of bytes that reads as these. -/
def BytesAt (w : World) (A : Option Addr) (B : List UInt8) : Prop := El.Src w A B.length 1 (B.map u8V)
theorem BytesAt.ext {w w' : World} {A : Option Addr} {B : List UInt8} (h : BytesAt w A B) (x : Ext w w') : BytesAt w' A B := El.Src.ext h x
theorem bytes_at {w : World} {A : Option Addr} {B : List UInt8} (h : BytesAt w A B) {k : Nat} (hk : k < B.length) : ∃ b off, A = some ⟨b, off, none⟩ ∧ ∀ j c, B[j]? = some c → w.cell? ⟨b, off + j, none⟩ = some (.int .u8 (c.toNat : Int)) := by
  obtain ⟨b, off, rfl, hc⟩ := El.Src.form h (by omega) (by omega)
  exact ⟨b, off, rfl, fun j c hj => hc j _ (by simp [hj, u8V])⟩

theorem isBlank_nat (c : UInt8) : isBlank c = decide (c.toNat = 32 ∨ c.toNat = 9 ∨ c.toNat = 10 ∨ c.toNat = 13) := all_bytes (p := fun c => isBlank c = decide (c.toNat = 32 ∨ c.toNat = 9 ∨ c.toNat = 10 ∨ c.toNat = 13)) (by decide +kernel) c
theorem u8_eq {c : UInt8} {n : Nat} (hn : n < 256) : ((c.toNat : Int) == (n : Int)) = decide (c = UInt8.ofNat n) := by
  rw [Bool.eq_iff_iff, decide_eq_true_iff, beq_iff_eq]
  constructor
  · intro h
    have : c.toNat = n := by omega
    rw [← this]; simp
  · rintro rfl
    simp
    omega

set_option maxHeartbeats 400000 in
theorem rBlank_any (c : UInt8) (w : World) :
    Calls Tryz.prog 106 #[.int .u8 (c.toNat : Int)] w fun e w' => e = .returned (.bool (isBlank c)) ∧ w = w' := by
  have hb := isBlank_nat c
  have HB := Lib.hid hb
  clear hb
  go_enter Tryz.func106, Tryz.ntmps106
  go_wp2_with fail
  all_goals
    go_ret
    exact ⟨ret_bool (by rw [HB.out, Bool.eq_iff_iff]; simp_all <;> omega), rfl⟩

theorem eol_no {B : List UInt8} {i : Nat} (h : B[i]? = some 10) : eol B i = i := rowTo_no h (by decide)
theorem eol_yes {B : List UInt8} {i : Nat} {c : UInt8} (h : B[i]? = some c) (hc : c ≠ 10) : eol B i = eol B (i + 1) := rowTo_yes h (by simpa using hc)
theorem eol_end {B : List UInt8} {i : Nat} (h : B.length ≤ i) : eol B i = i := rowTo_end (List.getElem?_eq_none h)
theorem close_hit {B : List UInt8} {i : Nat} (h : B[i]? = some 42) (h2 : B[i + 1]? = some 47) : close B i = some i := by
  unfold close
  rw [drop_cons h]
  unfold closeF
  rw [if_pos ⟨rfl, by rw [List.head?_drop]; exact h2⟩]
  rfl
theorem close_step {B : List UInt8} {i : Nat} {c : UInt8} (h : B[i]? = some c) (h2 : ¬ (c = 42 ∧ B[i + 1]? = some 47)) : close B i = close B (i + 1) := by
  unfold close
  rw [drop_cons h]
  conv => lhs; unfold closeF
  rw [if_neg (by rw [List.head?_drop]; exact h2), Option.map_map]
  congr 1
  funext n
  simp
  omega
theorem close_none {B : List UInt8} {i : Nat} (h : B.length ≤ i + 1) : close B i = none := by
  cases hc : close B i with
  | none => rfl
  | some e => have := close_bd hc; omega

set_option maxRecDepth 100000 in
set_option maxHeartbeats 2000000 in
theorem rSkip_any (A : Option Addr) (cap : Nat) (B : List UInt8) (i0 : Nat) (w : World) (h : BytesAt w A B) (hi : i0 ≤ B.length) (hB : B.length ≤ 70000) :
    Calls Tryz.prog 70 #[.slice A B.length cap, .int .i64 (i0 : Int)] w fun e w' => e = .returned (.tuple #[.int .i64 ((skipTo B i0).1 : Nat), .bool (skipTo B i0).2]) ∧ w = w' := by
  have H := Lib.hid h
  clear h
  go_enter Tryz.func70, Tryz.ntmps70
  go_wp2_with fail
  go_loop [1] (fun i => ∃ k : Nat, k ≤ B.length ∧ i = .int .i64 k ∧ Hid (skipTo B i0 = skipTo B k)) (fun i => B.length - (intOf i).toNat)
  case atStart => exact ⟨i0, hi, rfl, rfl⟩
  case round =>
    obtain ⟨k, hk, rfl, HS⟩ := hrel
    by_cases hlt : k < B.length
    · obtain ⟨b, off, rfl, hc⟩ := bytes_at H.out hlt
      have ho : B[k]? = some B[k] := List.getElem?_eq_getElem hlt
      generalize B[k] = c at ho
      have d0 := hc k c ho
      have HE := Lib.hid (skipTo_eq ho)
      have HC := Lib.hid hc
      have HO := Lib.hid ho
      clear hc ho
      cases hb : isBlank c
      · have HB := Lib.hid hb
        by_cases h37 : c = 37
        · have hq37 : ((c.toNat : Int) == (37 : Int)) = true := by rw [h37]; rfl
          have HN : Hid (skipTo B k = skipTo B (eol B k)) := by rw [HE.out, HB.out, h37]; rfl
          have HO37 : Hid (B[k]? = some 37) := by rw [← h37]; exact HO.out
          clear h37
          go_wp2_with (go_at_call 106; refine (rBlank_any _ _).mono ?_; rintro e w' ⟨rfl, rfl⟩)
          go_loop [1] (fun i => ∃ j : Nat, k ≤ j ∧ j ≤ B.length ∧ i = .int .i64 j ∧ Hid (eol B k = eol B j)) (fun i => B.length - (intOf i).toNat)
          case atStart => exact ⟨k, Nat.le_refl _, hk, rfl, rfl⟩
          case round =>
            obtain ⟨j, hkj, hj, rfl, HJ⟩ := hrel
            by_cases hjl : j < B.length
            · have hoj : B[j]? = some B[j] := List.getElem?_eq_getElem hjl
              generalize B[j] = d at hoj
              have dj := HC.out j d hoj
              have HOJ := Lib.hid hoj
              clear hoj
              by_cases h10 : d = 10
              · subst h10
                have HL : Hid (eol B k = j) := HJ.out.trans (eol_no HOJ.out)
                go_wp2_with fail
                go_round
                case rel => exact ⟨j, hj, rfl, HS.out.trans (HN.out.trans (by rw [HL.out]))⟩
                case measure =>
                  have : k < j := by have := eol_gt HO37.out; have := HL.out; omega
                  simp [intOf]; omega
              · have hne : ((d.toNat : Int) == (10 : Int)) = false := by
                  have := u8_eq (c := d) (n := 10) (by omega)
                  rw [show ((10 : Nat) : Int) = (10 : Int) from rfl] at this
                  rw [this]
                  simpa using h10
                have hne2 : ((d.toNat : Int) != (10 : Int)) = true := by rw [bne, hne]; rfl
                have HL : Hid (eol B k = eol B (j + 1)) := HJ.out.trans (eol_yes HOJ.out h10)
                clear h10
                go_wp2_with fail
                go_round
                case rel => exact ⟨j + 1, by omega, hjl, by go_num, HL.out⟩
                case measure => simp [intOf]; omega
            · obtain rfl : j = B.length := by omega
              have HL : Hid (eol B k = B.length) := HJ.out.trans (eol_end (Nat.le_refl _))
              go_wp2_with fail
              go_round
              case rel => exact ⟨B.length, Nat.le_refl _, rfl, HS.out.trans (HN.out.trans (by rw [HL.out]))⟩
              case measure => simp [intOf]; omega
        · have hq37 : ((c.toNat : Int) == (37 : Int)) = false := by
            have := u8_eq (c := c) (n := 37) (by omega)
            rw [show ((37 : Nat) : Int) = (37 : Int) from rfl] at this
            rw [this]
            simpa using h37
          by_cases hcm : c = 47 ∧ B[k + 1]? = some 42
          · obtain ⟨h47, hn⟩ := hcm
            have hq47 : ((c.toNat : Int) == (47 : Int)) = true := by rw [h47]; rfl
            have d1 := HC.out (k + 1) 42 hn
            have hk1 : k + 1 < B.length := (List.getElem?_eq_some_iff.1 hn).1
            have HN : Hid (skipTo B k = match close B (k + 2) with | none => (k, false) | some e => skipTo B (e + 2)) := by
              rw [HE.out, HB.out, if_neg (by simp), if_neg h37, if_pos ⟨h47, hn⟩]
              show _ = _
              cases close B (k + 2) <;> rfl
            clear hn h37 h47
            go_wp2_with (go_at_call 106; refine (rBlank_any _ _).mono ?_; rintro e w' ⟨rfl, rfl⟩)
            go_loop [6] (fun i => ∃ j : Nat, k + 2 ≤ j ∧ j ≤ B.length ∧ i = .int .i64 j ∧ Hid (close B (k + 2) = close B j)) (fun i => B.length - (intOf i).toNat)
            case atStart => exact ⟨k + 2, Nat.le_refl _, by omega, by go_num, rfl⟩
            case round =>
              obtain ⟨j, hkj, hj, rfl, HJ⟩ := hrel
              by_cases hjl : j + 1 < B.length
              · have hoj : B[j]? = some B[j] := List.getElem?_eq_getElem (by omega)
                have hoj1 : B[j + 1]? = some B[j + 1] := List.getElem?_eq_getElem hjl
                generalize B[j] = d at hoj
                generalize B[j + 1] = d2 at hoj1
                have dj := HC.out j d hoj
                have dj1 := HC.out (j + 1) d2 hoj1
                by_cases hd : d = 42 ∧ d2 = 47
                · obtain ⟨rfl, rfl⟩ := hd
                  have HL : Hid (close B (k + 2) = some j) := HJ.out.trans (close_hit hoj hoj1)
                  clear hoj hoj1
                  go_wp2_with fail
                  go_round
                  case rel => exact ⟨j + 2, by omega, by go_num, HS.out.trans (by rw [HN.out, HL.out])⟩
                  case measure => simp [intOf]; omega
                · have HL : Hid (close B (k + 2) = close B (j + 1)) := HJ.out.trans (close_step hoj (fun h => hd ⟨h.1, by have := h.2; rw [hoj1] at this; exact Option.some.inj this⟩))
                  have hcase : ((d.toNat : Int) == (42 : Int)) = false ∨ (((d.toNat : Int) == (42 : Int)) = true ∧ ((d2.toNat : Int) == (47 : Int)) = false) := by
                    have e1 := u8_eq (c := d) (n := 42) (by omega)
                    have e2 := u8_eq (c := d2) (n := 47) (by omega)
                    rw [show ((42 : Nat) : Int) = (42 : Int) from rfl] at e1
                    rw [show ((47 : Nat) : Int) = (47 : Int) from rfl] at e2
                    rw [e1, e2]
                    by_cases h : d = 42
                    · exact .inr ⟨by simpa using h, by simpa using (fun h2 => hd ⟨h, h2⟩)⟩
                    · exact .inl (by simpa using h)
                  clear hoj hoj1 hd
                  rcases hcase with h1 | ⟨h1, h2⟩
                  all_goals
                    go_wp2_with fail
                    go_round
                    case rel => exact ⟨j + 1, by omega, by omega, by go_num, HL.out⟩
                    case measure => simp [intOf]; omega
              · have HL : Hid (close B (k + 2) = none) := HJ.out.trans (close_none (by omega))
                have HR : Hid (skipTo B i0 = (k, false)) := HS.out.trans (by have e1 := HN.out; rw [HL.out] at e1; exact e1)
                go_wp2_with fail
                go_ret2
                exact ⟨by rw [HR.out]; rfl, rfl⟩
          · have HN : Hid (skipTo B k = (k, true)) := by
              rw [HE.out, HB.out, if_neg (by simp), if_neg h37, if_neg hcm]
              rfl
            have HR := Lib.hid (HS.out.trans HN.out)
            by_cases h47 : c = 47
            · have hq47 : ((c.toNat : Int) == (47 : Int)) = true := by rw [h47]; rfl
              by_cases hk1 : k + 1 < B.length
              · have hn : B[k + 1]? = some B[k + 1] := List.getElem?_eq_getElem hk1
                generalize B[k + 1] = d at hn
                have d1 := HC.out (k + 1) d hn
                have hq42 : ((d.toNat : Int) == (42 : Int)) = false := by
                  have := u8_eq (c := d) (n := 42) (by omega)
                  rw [show ((42 : Nat) : Int) = (42 : Int) from rfl] at this
                  rw [this]
                  simpa using (fun e => hcm ⟨h47, by rw [hn, e]⟩)
                clear hn hcm h47 h37
                go_wp2_with (go_at_call 106; refine (rBlank_any _ _).mono ?_; rintro e w' ⟨rfl, rfl⟩)
                go_ret2
                exact ⟨by rw [HR.out]; rfl, rfl⟩
              · clear hcm h47 h37
                go_wp2_with (go_at_call 106; refine (rBlank_any _ _).mono ?_; rintro e w' ⟨rfl, rfl⟩)
                go_ret2
                exact ⟨by rw [HR.out]; rfl, rfl⟩
            · have hq47 : ((c.toNat : Int) == (47 : Int)) = false := by
                have := u8_eq (c := c) (n := 47) (by omega)
                rw [show ((47 : Nat) : Int) = (47 : Int) from rfl] at this
                rw [this]
                simpa using h47
              clear hcm h47 h37
              go_wp2_with (go_at_call 106; refine (rBlank_any _ _).mono ?_; rintro e w' ⟨rfl, rfl⟩)
              go_ret2
              exact ⟨by rw [HR.out]; rfl, rfl⟩
      · have HN : Hid (skipTo B k = skipTo B (k + 1)) := by rw [HE.out, hb]; rfl
        go_wp2_with (go_at_call 106; refine (rBlank_any _ _).mono ?_; rintro e w' ⟨rfl, rfl⟩)
        go_round
        case rel => exact ⟨k + 1, hlt, by go_num, HS.out.trans HN.out⟩
        case measure => simp [intOf]; omega
    · obtain rfl : k = B.length := by omega
      have HN : Hid (skipTo B i0 = (B.length, true)) := HS.out.trans (skipTo_end (Nat.le_refl _))
      go_wp2_with fail
      go_ret2
      exact ⟨by rw [HN.out]; rfl, rfl⟩

end Go.Proofs.YtgcdhffeacdegaaGreatDoor

/- Layer 8, the reference: the walks of hex, row, number. -/
namespace Go.Proofs.YtgcdhffeacdegaaGreatDoor
open Go.RowKit Go.El

/-- A hex digit's number; below 0: it is none. -/
def hexI (c : UInt8) : Int := if isHex c then (hexV c : Int) else -1
theorem isDigit_nat (c : UInt8) : isDigit c = decide (48 ≤ c.toNat ∧ c.toNat ≤ 57) := all_bytes (p := fun c => isDigit c = decide (48 ≤ c.toNat ∧ c.toNat ≤ 57)) (by decide +kernel) c
theorem isHex_nat (c : UInt8) : isHex c = decide ((48 ≤ c.toNat ∧ c.toNat ≤ 57) ∨ (97 ≤ c.toNat ∧ c.toNat ≤ 102)) := all_bytes (p := fun c => isHex c = decide ((48 ≤ c.toNat ∧ c.toNat ≤ 57) ∨ (97 ≤ c.toNat ∧ c.toNat ≤ 102))) (by decide +kernel) c
theorem hexI_nat (c : UInt8) : hexI c = if 48 ≤ c.toNat ∧ c.toNat ≤ 57 then (c.toNat : Int) - 48 else if 97 ≤ c.toNat ∧ c.toNat ≤ 102 then (c.toNat : Int) - 87 else -1 :=
  all_bytes (p := fun c => hexI c = if 48 ≤ c.toNat ∧ c.toNat ≤ 57 then (c.toNat : Int) - 48 else if 97 ≤ c.toNat ∧ c.toNat ≤ 102 then (c.toNat : Int) - 87 else -1) (by decide +kernel) c
theorem ret_int {k : IntKind} {a b : Int} (h : a = b) : Ending.returned (.int k a) = .returned (.int k b) := by rw [h]

set_option maxHeartbeats 400000 in
theorem rHex_any (c : UInt8) (w : World) :
    Calls Tryz.prog 172 #[.int .u8 (c.toNat : Int)] w fun e w' => e = .returned (.int .i64 (hexI c)) ∧ w = w' := by
  have hb := hexI_nat c
  have HB := Lib.hid hb
  have hlt : c.toNat < 256 := c.toNat_lt
  clear hb
  by_cases h1 : 48 ≤ c.toNat ∧ c.toNat ≤ 57
  · have HV : Hid (hexI c = (c.toNat : Int) - 48) := by rw [HB.out, if_pos h1]; rfl
    clear HB
    obtain ⟨h1, h2⟩ := h1
    go_enter Tryz.func172, Tryz.ntmps172
    go_wp2_with fail
    all_goals
      go_ret
      exact ⟨ret_int (by rw [HV.out]; try omega), rfl⟩
  · by_cases h2 : 97 ≤ c.toNat ∧ c.toNat ≤ 102
    · have HV : Hid (hexI c = (c.toNat : Int) - 87) := by rw [HB.out, if_neg h1, if_pos h2]; rfl
      clear HB
      obtain ⟨h2, h3⟩ := h2
      go_enter Tryz.func172, Tryz.ntmps172
      go_wp2_with fail
      all_goals
        go_ret
        exact ⟨ret_int (by rw [HV.out]; try omega), rfl⟩
    · have HV : Hid (hexI c = -1) := by rw [HB.out, if_neg h1, if_neg h2]; rfl
      clear HB
      go_enter Tryz.func172, Tryz.ntmps172
      go_wp2_with fail
      all_goals
        first
          | (exfalso; omega)
          | (go_ret
             exact ⟨ret_int HV.out.symm, rfl⟩)

set_option maxRecDepth 100000 in
set_option maxHeartbeats 1000000 in
theorem rRow_any (A : Option Addr) (cap : Nat) (B : List UInt8) (i0 : Nat) (kd : Int) (p : UInt8 → Bool) (w : World) (h : BytesAt w A B) (hi : i0 ≤ B.length) (hB : B.length ≤ 70000) (hkd : kd = 1 ∧ p = isWord ∨ kd = 2 ∧ p = isSign ∨ kd = 3 ∧ p = isDigit) :
    Calls Tryz.prog 107 #[.slice A B.length cap, .int .i64 (i0 : Int), .int .i64 kd] w fun e w' => e = .returned (.int .i64 (rowTo p B i0 : Nat)) ∧ w = w' := by
  have H := Lib.hid h
  clear h
  rcases hkd with ⟨rfl, rfl⟩ | ⟨rfl, rfl⟩ | ⟨rfl, rfl⟩
  all_goals
    go_enter Tryz.func107, Tryz.ntmps107
    go_wp2_with fail
  · go_loop [1] (fun i => ∃ k : Nat, k ≤ B.length ∧ i = .int .i64 k ∧ Hid (rowTo isWord B i0 = rowTo isWord B k)) (fun i => B.length - (intOf i).toNat)
    case atStart => exact ⟨i0, hi, rfl, rfl⟩
    case round =>
      obtain ⟨k, hk, rfl, HS⟩ := hrel
      by_cases hlt : k < B.length
      · obtain ⟨b, off, rfl, hc⟩ := bytes_at H.out hlt
        have ho : B[k]? = some B[k] := List.getElem?_eq_getElem hlt
        generalize B[k] = c at ho
        have d0 := hc k c ho
        clear hc
        have hwn : wordN c.toNat = isWord c := (isWord_nat c).symm
        cases hb : isWord c
        · have HN : Hid (rowTo isWord B i0 = k) := HS.out.trans (rowTo_no ho hb)
          rw [hb] at hwn
          clear ho hb
          go_wp2_with (go_at_call 89; refine (rWord_any _ _).mono ?_; rintro e w' ⟨rfl, rfl⟩)
          go_ret
          exact ⟨ret_int (by rw [HN.out]), rfl⟩
        · have HN : Hid (rowTo isWord B i0 = rowTo isWord B (k + 1)) := HS.out.trans (rowTo_yes ho hb)
          rw [hb] at hwn
          clear ho hb
          go_wp2_with (go_at_call 89; refine (rWord_any _ _).mono ?_; rintro e w' ⟨rfl, rfl⟩)
          go_round
          case rel => exact ⟨k + 1, hlt, by go_num, HN.out⟩
          case measure => simp [intOf]; omega
      · obtain rfl : k = B.length := by omega
        have HN : Hid (rowTo isWord B i0 = B.length) := HS.out.trans (rowTo_end (List.getElem?_eq_none (Nat.le_refl _)))
        go_wp2_with fail
        go_ret
        exact ⟨ret_int (by rw [HN.out]), rfl⟩
  · go_loop [1] (fun i => ∃ k : Nat, k ≤ B.length ∧ i = .int .i64 k ∧ Hid (rowTo isSign B i0 = rowTo isSign B k)) (fun i => B.length - (intOf i).toNat)
    case atStart => exact ⟨i0, hi, rfl, rfl⟩
    case round =>
      obtain ⟨k, hk, rfl, HS⟩ := hrel
      by_cases hlt : k < B.length
      · obtain ⟨b, off, rfl, hc⟩ := bytes_at H.out hlt
        have ho : B[k]? = some B[k] := List.getElem?_eq_getElem hlt
        generalize B[k] = c at ho
        have d0 := hc k c ho
        clear hc
        have hwn : hasB signS c = isSign c := rfl
        cases hb : isSign c
        · have HN : Hid (rowTo isSign B i0 = k) := HS.out.trans (rowTo_no ho hb)
          rw [hb] at hwn
          clear ho hb
          go_wp2_with (go_at_call 90; refine (rSign_any _ _).mono ?_; rintro e w' ⟨rfl, rfl⟩)
          go_ret
          exact ⟨ret_int (by rw [HN.out]), rfl⟩
        · have HN : Hid (rowTo isSign B i0 = rowTo isSign B (k + 1)) := HS.out.trans (rowTo_yes ho hb)
          rw [hb] at hwn
          clear ho hb
          go_wp2_with (go_at_call 90; refine (rSign_any _ _).mono ?_; rintro e w' ⟨rfl, rfl⟩)
          go_round
          case rel => exact ⟨k + 1, hlt, by go_num, HN.out⟩
          case measure => simp [intOf]; omega
      · obtain rfl : k = B.length := by omega
        have HN : Hid (rowTo isSign B i0 = B.length) := HS.out.trans (rowTo_end (List.getElem?_eq_none (Nat.le_refl _)))
        go_wp2_with fail
        go_ret
        exact ⟨ret_int (by rw [HN.out]), rfl⟩
  · go_loop [1] (fun i => ∃ k : Nat, k ≤ B.length ∧ i = .int .i64 k ∧ Hid (rowTo isDigit B i0 = rowTo isDigit B k)) (fun i => B.length - (intOf i).toNat)
    case atStart => exact ⟨i0, hi, rfl, rfl⟩
    case round =>
      obtain ⟨k, hk, rfl, HS⟩ := hrel
      by_cases hlt : k < B.length
      · obtain ⟨b, off, rfl, hc⟩ := bytes_at H.out hlt
        have ho : B[k]? = some B[k] := List.getElem?_eq_getElem hlt
        generalize B[k] = c at ho
        have d0 := hc k c ho
        clear hc
        have hwn := isDigit_nat c
        cases hb : isDigit c
        · have HN : Hid (rowTo isDigit B i0 = k) := HS.out.trans (rowTo_no ho hb)
          have hn : ¬ (48 ≤ c.toNat ∧ c.toNat ≤ 57) := by rw [hb] at hwn; simpa using hwn
          clear ho hb hwn
          have hd : c.toNat < 48 ∨ (48 ≤ c.toNat ∧ 57 < c.toNat) := by omega
          clear hn
          rcases hd with h1 | ⟨h1, h2⟩
          all_goals
            go_wp2_with fail
            go_ret
            exact ⟨ret_int (by rw [HN.out]), rfl⟩
        · have HN : Hid (rowTo isDigit B i0 = rowTo isDigit B (k + 1)) := HS.out.trans (rowTo_yes ho hb)
          obtain ⟨h1, h2⟩ : 48 ≤ c.toNat ∧ c.toNat ≤ 57 := by rw [hb] at hwn; simpa using hwn
          clear ho hb hwn
          go_wp2_with fail
          go_round
          case rel => exact ⟨k + 1, hlt, by go_num, HN.out⟩
          case measure => simp [intOf]; omega
      · obtain rfl : k = B.length := by omega
        have HN : Hid (rowTo isDigit B i0 = B.length) := HS.out.trans (rowTo_end (List.getElem?_eq_none (Nat.le_refl _)))
        go_wp2_with fail
        go_ret
        exact ⟨ret_int (by rw [HN.out]), rfl⟩

end Go.Proofs.YtgcdhffeacdegaaGreatDoor
