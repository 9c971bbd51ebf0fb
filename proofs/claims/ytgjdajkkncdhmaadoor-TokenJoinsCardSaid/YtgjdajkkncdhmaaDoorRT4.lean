/- Layer 8, the reference: the walk of escape. -/
import Derived.Test.YtgjdajkkncdhmaaDoorRT3
namespace Go.Proofs.YtgjdajkkncdhmaaDoor
open Go.RowKit Go.El

theorem hexV_lt (c : UInt8) (h : isHex c = true) : hexV c < 16 := by
  have := all_bytes (p := fun c => (!isHex c || decide (hexV c < 16)) = true) (by decide +kernel) c
  simpa [h] using this
theorem hexI_yes (c : UInt8) (h : isHex c = true) : hexI c = (hexV c : Int) := by unfold hexI; rw [h]; rfl
theorem hexI_no (c : UInt8) (h : isHex c = false) : hexI c = -1 := by unfold hexI; rw [h]; rfl
theorem rHex_yes (c : UInt8) (h : isHex c = true) (w : World) : Calls Tryd.prog 68 #[.int .u8 (c.toNat : Int)] w fun e w' => e = .returned (.int .i64 (hexV c : Int)) ∧ w = w' := by
  refine (rHex_any c w).mono ?_
  rintro e w' ⟨rfl, rfl⟩
  exact ⟨by rw [hexI_yes c h], rfl⟩
theorem rHex_no (c : UInt8) (h : isHex c = false) (w : World) : Calls Tryd.prog 68 #[.int .u8 (c.toNat : Int)] w fun e w' => e = .returned (.int .i64 (-1)) ∧ w = w' := by
  refine (rHex_any c w).mono ?_
  rintro e w' ⟨rfl, rfl⟩
  exact ⟨by rw [hexI_no c h], rfl⟩

/-- What stands behind a backslash and an x. -/
theorem escS_x {B : List UInt8} {i : Nat} (h : B[i]? = some 120) : escS B i =
    match B[i + 1]? with
    | none => none
    | some a => if isHex a then
        match B[i + 2]? with
        | none => none
        | some b => if isHex b then (if B[i + 3]? = some 92 then some (UInt8.ofNat (16 * hexV a + hexV b), i + 4) else none)
          else if b = 92 then some (UInt8.ofNat (hexV a), i + 3) else none
      else none := by
  unfold escS
  rw [h]
  simp only [show ¬ ((120 : UInt8) = 92 ∨ (120 : UInt8) = 39) from by decide, show ¬ ((120 : UInt8) = 110) from by decide, show ¬ ((120 : UInt8) = 116) from by decide, if_false, if_true]
  cases h1 : B[i + 1]? with
  | none =>
    have e : rowTo isHex B (i + 1) = i + 1 := rowTo_end h1
    rw [e, h1]
    simp
  | some a =>
    cases ha : isHex a with
    | false =>
      have e : rowTo isHex B (i + 1) = i + 1 := rowTo_no h1 ha
      rw [e, h1]
      simp [ha]
    | true =>
      have g1 : B.getD (i + 1) 0 = a := by simp [List.getD, h1]
      cases h2 : B[i + 2]? with
      | none =>
        have e : rowTo isHex B (i + 1) = i + 2 := (rowTo_yes h1 ha).trans (rowTo_end h2)
        rw [e, h2]
        simp
      | some b =>
        cases hb : isHex b with
        | false =>
          have e : rowTo isHex B (i + 1) = i + 2 := (rowTo_yes h1 ha).trans (rowTo_no h2 hb)
          rw [e, h2, g1]
          by_cases e92 : b = 92
          · simp [e92, ha, show isHex 92 = false from rfl]
          · simp [e92, ha, hb]
        | true =>
          have g2 : B.getD (i + 2) 0 = b := by simp [List.getD, h2]
          have e0 : rowTo isHex B (i + 1) = rowTo isHex B (i + 3) := (rowTo_yes h1 ha).trans (rowTo_yes h2 hb)
          rw [g1, g2]
          by_cases h3 : B[i + 3]? = some 92
          · have e : rowTo isHex B (i + 1) = i + 3 := e0.trans (rowTo_no h3 (by decide))
            rw [e, h3]
            simp [ha, hb]
          · simp only [hb, if_true]
            rw [if_neg h3]
            have hge := rowTo_ge isHex B (i + 3)
            by_cases he : rowTo isHex B (i + 1) = i + 3
            · rw [he, if_neg h3]
              simp
            · split
              · rw [if_neg (by omega)]
              · rfl

def escV : Option (UInt8 × Nat) → Value
  | none => .tuple #[.int .u8 0, .int .i64 0, .bool false]
  | some (x, j) => .tuple #[.int .u8 (x.toNat : Int), .int .i64 (j : Int), .bool true]
theorem ret_esc {a b : Option (UInt8 × Nat)} (h : a = b) : Ending.returned (escV a) = .returned (escV b) := by rw [h]
theorem nat8 {n : Nat} (h : n < 256) : ((UInt8.ofNat n).toNat : Int) = (n : Int) := by
  rw [UInt8.toNat_ofNat']
  omega

theorem u8_ne {c : UInt8} {n : Nat} (hn : n < 256) (h : c ≠ UInt8.ofNat n) : ((c.toNat : Int) == (n : Int)) = false := by
  rw [u8_eq hn]
  simpa using h

def escM (k : Int) : Nat := 2 - k.toNat
def EscSt (B : List UInt8) (i k : Nat) (n : Value) : Prop := (k = 0 ∧ n = .int .i64 0) ∨ (∃ a : UInt8, k = 1 ∧ Hid (B[i + 1]? = some a) ∧ Hid (isHex a = true) ∧ n = .int .i64 (hexV a : Int) ∧ hexV a < 16) ∨ (∃ a c : UInt8, k = 2 ∧ Hid (B[i + 1]? = some a) ∧ Hid (isHex a = true) ∧ Hid (B[i + 2]? = some c) ∧ Hid (isHex c = true) ∧ n = .int .i64 ((16 * hexV a + hexV c : Nat) : Int) ∧ 16 * hexV a + hexV c < 256)

set_option maxRecDepth 100000 in
set_option maxHeartbeats 2000000 in
theorem rEscX_any (b off cap : Nat) (B : List UInt8) (i : Nat) (w : World) (HC : Hid (∀ j c, B[j]? = some c → w.cell? ⟨b, off + j, none⟩ = some (.int .u8 (c.toNat : Int)))) (hi : B[i]? = some 120) (hB : B.length ≤ 70000) :
    Calls Tryd.prog 55 #[.slice (some ⟨b, off, none⟩) B.length cap, .int .i64 (i : Int)] w fun e w' => e = .returned (escV (escS B i)) ∧ w = w' := by
  have d0 := HC.out i _ hi
  have hlt : i < B.length := (List.getElem?_eq_some_iff.1 hi).1
  have HE := Lib.hid (escS_x hi)
  have hnl : decide (B.length ≤ i) = false := by simpa using hlt
  clear hi
  go_enter Tryd.func55, Tryd.ntmps55
  go_wp2_with fail
  go_loop [7, 8] (fun n kv => ∃ k : Nat, kv = .int .i64 k ∧ EscSt B i k n) (fun _ k => escM (intOf k))
  case atStart => exact ⟨0, rfl, .inl ⟨rfl, rfl⟩⟩
  case round =>
    rcases hrel with ⟨k, rfl, ⟨rfl, rfl⟩ | ⟨a, rfl, H1, HA, rfl, hva⟩ | ⟨a, c, rfl, H1, HA, H2, HX, rfl, hv⟩⟩
    · by_cases h1 : i + 1 < B.length
      · have ho : B[i + 1]? = some B[i + 1] := List.getElem?_eq_getElem h1
        generalize B[i + 1] = a at ho
        have d1 := HC.out _ _ ho
        cases ha : isHex a
        · have HN := Lib.hid (show escS B i = none from by rw [HE.out, ho]; simp [ha])
          have HA := Lib.hid ha
          clear ho ha
          go_wp2_with (go_at_call 68; refine (rHex_no _ HA.out _).mono ?_; rintro e w' ⟨rfl, rfl⟩)
          go_ret3
          exact ⟨ret_esc HN.out.symm, rfl⟩
        · have HA := Lib.hid ha
          have HO := Lib.hid ho
          have hv := hexV_lt a ha
          clear ho ha
          go_wp2_with (go_at_call 68; refine (rHex_yes _ HA.out _).mono ?_; rintro e w' ⟨rfl, rfl⟩)
          go_round
          case rel => exact ⟨1, by go_num, .inr (.inl ⟨a, rfl, HO, HA, by go_num, hv⟩)⟩
          case measure => simp [intOf, escM]
      · have HN := Lib.hid (show escS B i = none from by rw [HE.out, List.getElem?_eq_none (by omega)])
        go_wp2_with fail
        go_ret3
        exact ⟨ret_esc HN.out.symm, rfl⟩
    · by_cases h2 : i + 2 < B.length
      · have ho : B[i + 2]? = some B[i + 2] := List.getElem?_eq_getElem h2
        generalize B[i + 2] = c at ho
        have d2 := HC.out _ _ ho
        cases hc : isHex c
        · have HX := Lib.hid hc
          by_cases h92 : c = 92
          · subst h92
            have HN := Lib.hid (show escS B i = some (UInt8.ofNat (hexV a), i + 3) from by rw [HE.out, H1.out]; simp [HA.out, ho, hc])
            have h8 := nat8 (n := hexV a) (by omega)
            clear ho hc
            go_wp2_with (go_at_call 68; refine (rHex_no _ HX.out _).mono ?_; rintro e w' ⟨rfl, rfl⟩)
            go_ret3
            refine ⟨?_, rfl⟩
            rw [HN.out]
            show _ = Ending.returned (.tuple #[.int .u8 ((UInt8.ofNat (hexV a)).toNat : Int), .int .i64 ((i + 3 : Nat) : Int), .bool true])
            rw [h8]
            go_num
          · have HN := Lib.hid (show escS B i = none from by rw [HE.out, H1.out]; simp [HA.out, ho, hc, h92])
            have hq := u8_ne (n := 92) (by omega) h92
            rw [show ((92 : Nat) : Int) = (92 : Int) from rfl] at hq
            clear ho hc h92
            go_wp2_with (go_at_call 68; refine (rHex_no _ HX.out _).mono ?_; rintro e w' ⟨rfl, rfl⟩)
            go_ret3
            exact ⟨ret_esc HN.out.symm, rfl⟩
        · have HX := Lib.hid hc
          have HO := Lib.hid ho
          have hv := hexV_lt c hc
          clear ho hc
          go_wp2_with (go_at_call 68; refine (rHex_yes _ HX.out _).mono ?_; rintro e w' ⟨rfl, rfl⟩)
          go_round
          case rel => exact ⟨2, by go_num, .inr (.inr ⟨a, c, rfl, H1, HA, HO, HX, by go_num, by omega⟩)⟩
          case measure => simp [intOf, escM]
      · have HN := Lib.hid (show escS B i = none from by rw [HE.out, H1.out, List.getElem?_eq_none (l := B) (i := i + 2) (by omega)]; simp)
        go_wp2_with fail
        go_ret3
        exact ⟨ret_esc HN.out.symm, rfl⟩
    · by_cases h3 : i + 3 < B.length
      · have ho : B[i + 3]? = some B[i + 3] := List.getElem?_eq_getElem h3
        generalize B[i + 3] = z at ho
        have d3 := HC.out _ _ ho
        have h8 := nat8 hv
        by_cases h92 : z = 92
        · subst h92
          have HN := Lib.hid (show escS B i = some (UInt8.ofNat (16 * hexV a + hexV c), i + 4) from by rw [HE.out, H1.out]; simp [HA.out, H2.out, HX.out, ho])
          generalize 16 * hexV a + hexV c = v at HN hv h8
          clear ho
          go_wp2_with fail
          go_ret3
          refine ⟨?_, rfl⟩
          rw [HN.out]
          show _ = Ending.returned (.tuple #[.int .u8 ((UInt8.ofNat v).toNat : Int), .int .i64 ((i + 4 : Nat) : Int), .bool true])
          rw [h8]
          go_num
        · have HN := Lib.hid (show escS B i = none from by rw [HE.out, H1.out]; simp [HA.out, H2.out, HX.out, ho, h92])
          have hq := u8_ne (n := 92) (by omega) h92
          rw [show ((92 : Nat) : Int) = (92 : Int) from rfl] at hq
          generalize 16 * hexV a + hexV c = v at hv h8
          clear ho h92
          go_wp2_with fail
          go_ret3
          exact ⟨ret_esc HN.out.symm, rfl⟩
      · have HN := Lib.hid (show escS B i = none from by rw [HE.out, H1.out]; simp [HA.out, H2.out, HX.out, List.getElem?_eq_none (l := B) (i := i + 3) (by omega)])
        generalize 16 * hexV a + hexV c = v at hv
        go_wp2_with fail
        go_ret3
        exact ⟨ret_esc HN.out.symm, rfl⟩

end Go.Proofs.YtgjdajkkncdhmaaDoor
