/- Layer 8, the reference: the walk of escape. -/
import Derived.Test.YtlkpiigdmmhkpaaGreatDoorC10
namespace Go.Proofs.YtlkpiigdmmhkpaaGreatDoor
open Go.RowKit Go.El

theorem hexV_lt (c : UInt8) (h : isHex c = true) : hexV c < 16 := by
  have := all_bytes (p := fun c => (!isHex c || decide (hexV c < 16)) = true) (by decide +kernel) c
  simpa [h] using this
theorem hexI_yes (c : UInt8) (h : isHex c = true) : hexI c = (hexV c : Int) := by unfold hexI; rw [h]; rfl
theorem hexI_no (c : UInt8) (h : isHex c = false) : hexI c = -1 := by unfold hexI; rw [h]; rfl
theorem rHex_yes (c : UInt8) (h : isHex c = true) (w : World) : Calls Tryz.prog 145 #[.int .u8 (c.toNat : Int)] w fun e w' => e = .returned (.int .i64 (hexV c : Int)) ∧ w = w' := by
  refine (rHex_any c w).mono ?_
  rintro e w' ⟨rfl, rfl⟩
  exact ⟨by rw [hexI_yes c h], rfl⟩
theorem rHex_no (c : UInt8) (h : isHex c = false) (w : World) : Calls Tryz.prog 145 #[.int .u8 (c.toNat : Int)] w fun e w' => e = .returned (.int .i64 (-1)) ∧ w = w' := by
  refine (rHex_any c w).mono ?_
  rintro e w' ⟨rfl, rfl⟩
  exact ⟨by rw [hexI_no c h], rfl⟩

/-- What stands behind a backslash and an x. -/
theorem escS_x {B : List UInt8} {i : Nat} (h : B[i]? = some 120) : escS B i =
    match B[i + 1]? with
    | none => none
    | some a => if isHex a then
        match B[i + 2]? with
        | none => none
        | some b => if isHex b then (if B[i + 3]? = some 92 then some (UInt8.ofNat (16 * hexV a + hexV b), i + 4) else none)
          else if b = 92 then some (UInt8.ofNat (hexV a), i + 3) else none
      else none := by
  unfold escS
  rw [h]
  simp only [show ¬ ((120 : UInt8) = 92 ∨ (120 : UInt8) = 39) from by decide, show ¬ ((120 : UInt8) = 110) from by decide, show ¬ ((120 : UInt8) = 116) from by decide, if_false, if_true]
  cases h1 : B[i + 1]? with
  | none =>
    have e : rowTo isHex B (i + 1) = i + 1 := rowTo_end h1
    rw [e, h1]
    simp
  | some a =>
    cases ha : isHex a with
    | false =>
      have e : rowTo isHex B (i + 1) = i + 1 := rowTo_no h1 ha
      rw [e, h1]
      simp [ha]
    | true =>
      have g1 : B.getD (i + 1) 0 = a := by simp [List.getD, h1]
      cases h2 : B[i + 2]? with
      | none =>
        have e : rowTo isHex B (i + 1) = i + 2 := (rowTo_yes h1 ha).trans (rowTo_end h2)
        rw [e, h2]
        simp
      | some b =>
        cases hb : isHex b with
        | false =>
          have e : rowTo isHex B (i + 1) = i + 2 := (rowTo_yes h1 ha).trans (rowTo_no h2 hb)
          rw [e, h2, g1]
          by_cases e92 : b = 92
          · simp [e92, ha, show isHex 92 = false from rfl]
          · simp [e92, ha, hb]
        | true =>
          have g2 : B.getD (i + 2) 0 = b := by simp [List.getD, h2]
          have e0 : rowTo isHex B (i + 1) = rowTo isHex B (i + 3) := (rowTo_yes h1 ha).trans (rowTo_yes h2 hb)
          rw [g1, g2]
          by_cases h3 : B[i + 3]? = some 92
          · have e : rowTo isHex B (i + 1) = i + 3 := e0.trans (rowTo_no h3 (by decide))
            rw [e, h3]
            simp [ha, hb]
          · simp only [hb, if_true]
            rw [if_neg h3]
            have hge := rowTo_ge isHex B (i + 3)
            by_cases he : rowTo isHex B (i + 1) = i + 3
            · rw [he, if_neg h3]
              simp
            · split
              · rw [if_neg (by omega)]
              · rfl

def escV : Option (UInt8 × Nat) → Value
  | none => .tuple #[.int .u8 0, .int .i64 0, .bool false]
  | some (x, j) => .tuple #[.int .u8 (x.toNat : Int), .int .i64 (j : Int), .bool true]
theorem ret_esc {a b : Option (UInt8 × Nat)} (h : a = b) : Ending.returned (escV a) = .returned (escV b) := by rw [h]
theorem nat8 {n : Nat} (h : n < 256) : ((UInt8.ofNat n).toNat : Int) = (n : Int) := by
  rw [UInt8.toNat_ofNat']
  omega

theorem u8_ne {c : UInt8} {n : Nat} (hn : n < 256) (h : c ≠ UInt8.ofNat n) : ((c.toNat : Int) == (n : Int)) = false := by
  rw [u8_eq hn]
  simpa using h

def escM (k : Int) : Nat := 2 - k.toNat
def EscSt (B : List UInt8) (i k : Nat) (n : Value) : Prop := (k = 0 ∧ n = .int .i64 0) ∨ (∃ a : UInt8, k = 1 ∧ Hid (B[i + 1]? = some a) ∧ Hid (isHex a = true) ∧ n = .int .i64 (hexV a : Int) ∧ hexV a < 16) ∨ (∃ a c : UInt8, k = 2 ∧ Hid (B[i + 1]? = some a) ∧ Hid (isHex a = true) ∧ Hid (B[i + 2]? = some c) ∧ Hid (isHex c = true) ∧ n = .int .i64 ((16 * hexV a + hexV c : Nat) : Int) ∧ 16 * hexV a + hexV c < 256)

set_option maxRecDepth 100000 in
set_option maxHeartbeats 2000000 in
theorem rEscX_any (b off cap : Nat) (B : List UInt8) (i : Nat) (w : World) (HC : Hid (∀ j c, B[j]? = some c → w.cell? ⟨b, off + j, none⟩ = some (.int .u8 (c.toNat : Int)))) (hi : B[i]? = some 120) (hB : B.length ≤ 70000) :
    Calls Tryz.prog 142 #[.slice (some ⟨b, off, none⟩) B.length cap, .int .i64 (i : Int)] w fun e w' => e = .returned (escV (escS B i)) ∧ w = w' := by
  have d0 := HC.out i _ hi
  have hlt : i < B.length := (List.getElem?_eq_some_iff.1 hi).1
  have HE := Lib.hid (escS_x hi)
  have hnl : decide (B.length ≤ i) = false := by simpa using hlt
  clear hi
  go_enter Tryz.func142, Tryz.ntmps142
  go_wp2_with fail
  go_loop [7, 8] (fun n kv => ∃ k : Nat, kv = .int .i64 k ∧ EscSt B i k n) (fun _ k => escM (intOf k))
  case atStart => exact ⟨0, rfl, .inl ⟨rfl, rfl⟩⟩
  case round =>
    rcases hrel with ⟨k, rfl, ⟨rfl, rfl⟩ | ⟨a, rfl, H1, HA, rfl, hva⟩ | ⟨a, c, rfl, H1, HA, H2, HX, rfl, hv⟩⟩
    · by_cases h1 : i + 1 < B.length
      · have ho : B[i + 1]? = some B[i + 1] := List.getElem?_eq_getElem h1
        generalize B[i + 1] = a at ho
        have d1 := HC.out _ _ ho
        cases ha : isHex a
        · have HN := Lib.hid (show escS B i = none from by rw [HE.out, ho]; simp [ha])
          have HA := Lib.hid ha
          clear ho ha
          go_wp2_with (go_at_call 145; refine (rHex_no _ HA.out _).mono ?_; rintro e w' ⟨rfl, rfl⟩)
          go_ret3
          exact ⟨ret_esc HN.out.symm, rfl⟩
        · have HA := Lib.hid ha
          have HO := Lib.hid ho
          have hv := hexV_lt a ha
          clear ho ha
          go_wp2_with (go_at_call 145; refine (rHex_yes _ HA.out _).mono ?_; rintro e w' ⟨rfl, rfl⟩)
          go_round
          case rel => exact ⟨1, by go_num, .inr (.inl ⟨a, rfl, HO, HA, by go_num, hv⟩)⟩
          case measure => simp [intOf, escM]
      · have HN := Lib.hid (show escS B i = none from by rw [HE.out, List.getElem?_eq_none (by omega)])
        go_wp2_with fail
        go_ret3
        exact ⟨ret_esc HN.out.symm, rfl⟩
    · by_cases h2 : i + 2 < B.length
      · have ho : B[i + 2]? = some B[i + 2] := List.getElem?_eq_getElem h2
        generalize B[i + 2] = c at ho
        have d2 := HC.out _ _ ho
        cases hc : isHex c
        · have HX := Lib.hid hc
          by_cases h92 : c = 92
          · subst h92
            have HN := Lib.hid (show escS B i = some (UInt8.ofNat (hexV a), i + 3) from by rw [HE.out, H1.out]; simp [HA.out, ho, hc])
            have h8 := nat8 (n := hexV a) (by omega)
            clear ho hc
            go_wp2_with (go_at_call 145; refine (rHex_no _ HX.out _).mono ?_; rintro e w' ⟨rfl, rfl⟩)
            go_ret3
            refine ⟨?_, rfl⟩
            rw [HN.out]
            show _ = Ending.returned (.tuple #[.int .u8 ((UInt8.ofNat (hexV a)).toNat : Int), .int .i64 ((i + 3 : Nat) : Int), .bool true])
            rw [h8]
            go_num
          · have HN := Lib.hid (show escS B i = none from by rw [HE.out, H1.out]; simp [HA.out, ho, hc, h92])
            have hq := u8_ne (n := 92) (by omega) h92
            rw [show ((92 : Nat) : Int) = (92 : Int) from rfl] at hq
            clear ho hc h92
            go_wp2_with (go_at_call 145; refine (rHex_no _ HX.out _).mono ?_; rintro e w' ⟨rfl, rfl⟩)
            go_ret3
            exact ⟨ret_esc HN.out.symm, rfl⟩
        · have HX := Lib.hid hc
          have HO := Lib.hid ho
          have hv := hexV_lt c hc
          clear ho hc
          go_wp2_with (go_at_call 145; refine (rHex_yes _ HX.out _).mono ?_; rintro e w' ⟨rfl, rfl⟩)
          go_round
          case rel => exact ⟨2, by go_num, .inr (.inr ⟨a, c, rfl, H1, HA, HO, HX, by go_num, by omega⟩)⟩
          case measure => simp [intOf, escM]
      · have HN := Lib.hid (show escS B i = none from by rw [HE.out, H1.out, List.getElem?_eq_none (l := B) (i := i + 2) (by omega)]; simp)
        go_wp2_with fail
        go_ret3
        exact ⟨ret_esc HN.out.symm, rfl⟩
    · by_cases h3 : i + 3 < B.length
      · have ho : B[i + 3]? = some B[i + 3] := List.getElem?_eq_getElem h3
        generalize B[i + 3] = z at ho
        have d3 := HC.out _ _ ho
        have h8 := nat8 hv
        by_cases h92 : z = 92
        · subst h92
          have HN := Lib.hid (show escS B i = some (UInt8.ofNat (16 * hexV a + hexV c), i + 4) from by rw [HE.out, H1.out]; simp [HA.out, H2.out, HX.out, ho])
          generalize 16 * hexV a + hexV c = v at HN hv h8
          clear ho
          go_wp2_with fail
          go_ret3
          refine ⟨?_, rfl⟩
          rw [HN.out]
          show _ = Ending.returned (.tuple #[.int .u8 ((UInt8.ofNat v).toNat : Int), .int .i64 ((i + 4 : Nat) : Int), .bool true])
          rw [h8]
          go_num
        · have HN := Lib.hid (show escS B i = none from by rw [HE.out, H1.out]; simp [HA.out, H2.out, HX.out, ho, h92])
          have hq := u8_ne (n := 92) (by omega) h92
          rw [show ((92 : Nat) : Int) = (92 : Int) from rfl] at hq
          generalize 16 * hexV a + hexV c = v at hv h8
          clear ho h92
          go_wp2_with fail
          go_ret3
          exact ⟨ret_esc HN.out.symm, rfl⟩
      · have HN := Lib.hid (show escS B i = none from by rw [HE.out, H1.out]; simp [HA.out, H2.out, HX.out, List.getElem?_eq_none (l := B) (i := i + 3) (by omega)])
        generalize 16 * hexV a + hexV c = v at hv
        go_wp2_with fail
        go_ret3
        exact ⟨ret_esc HN.out.symm, rfl⟩

end Go.Proofs.YtlkpiigdmmhkpaaGreatDoor

/- Layer 8, the reference: the walks of escape (whole), quoted. -/
namespace Go.Proofs.YtlkpiigdmmhkpaaGreatDoor
open Go.RowKit Go.El

theorem escS_end {B : List UInt8} {i : Nat} (h : B[i]? = none) : escS B i = none := by unfold escS; rw [h]
theorem escS_self {B : List UInt8} {i : Nat} {c : UInt8} (h : B[i]? = some c) (hc : c = 92 ∨ c = 39) : escS B i = some (c, i + 1) := by unfold escS; rw [h]; simp only; rw [if_pos hc]
theorem escS_n {B : List UInt8} {i : Nat} (h : B[i]? = some 110) : escS B i = some (10, i + 1) := by unfold escS; rw [h]; simp
theorem escS_t {B : List UInt8} {i : Nat} (h : B[i]? = some 116) : escS B i = some (9, i + 1) := by unfold escS; rw [h]; simp
theorem escS_no {B : List UInt8} {i : Nat} {c : UInt8} (h : B[i]? = some c) (h1 : c ≠ 92) (h2 : c ≠ 39) (h3 : c ≠ 110) (h4 : c ≠ 116) (h5 : c ≠ 120) : escS B i = none := by
  unfold escS; rw [h]; simp [h1, h2, h3, h4, h5]
theorem u8_ne' {c : UInt8} {n : Nat} {z : Int} (hz : (n : Int) = z) (hn : n < 256) (h : c ≠ UInt8.ofNat n) : ((c.toNat : Int) == z) = false := by rw [← hz]; exact u8_ne hn h

set_option maxRecDepth 100000 in
set_option maxHeartbeats 2000000 in
theorem rEsc_any (b off cap : Nat) (B : List UInt8) (i : Nat) (w : World) (HC : Hid (∀ j c, B[j]? = some c → w.cell? ⟨b, off + j, none⟩ = some (.int .u8 (c.toNat : Int)))) (hi : i ≤ B.length) (hB : B.length ≤ 70000) :
    Calls Tryz.prog 142 #[.slice (some ⟨b, off, none⟩) B.length cap, .int .i64 (i : Int)] w fun e w' => e = .returned (escV (escS B i)) ∧ w = w' := by
  by_cases hlt : i < B.length
  · have ho : B[i]? = some B[i] := List.getElem?_eq_getElem hlt
    generalize B[i] = c at ho
    by_cases h120 : c = 120
    · subst h120
      exact rEscX_any b off cap B i w HC ho hB
    · have d0 := HC.out i c ho
      have hnl : decide (B.length ≤ i) = false := by simpa using hlt
      by_cases h1 : c = 92
      · subst h1
        have HN := Lib.hid (escS_self ho (.inl rfl))
        clear ho h120
        go_enter Tryz.func142, Tryz.ntmps142
        go_wp2_with fail
        go_ret3
        refine ⟨?_, rfl⟩
        rw [HN.out]
        rfl
      by_cases h2 : c = 39
      · subst h2
        have HN := Lib.hid (escS_self ho (.inr rfl))
        clear ho h120 h1
        go_enter Tryz.func142, Tryz.ntmps142
        go_wp2_with fail
        go_ret3
        refine ⟨?_, rfl⟩
        rw [HN.out]
        rfl
      by_cases h3 : c = 110
      · subst h3
        have HN := Lib.hid (escS_n ho)
        clear ho h120 h1 h2
        go_enter Tryz.func142, Tryz.ntmps142
        go_wp2_with fail
        go_ret3
        refine ⟨?_, rfl⟩
        rw [HN.out]
        rfl
      by_cases h4 : c = 116
      · subst h4
        have HN := Lib.hid (escS_t ho)
        clear ho h120 h1 h2 h3
        go_enter Tryz.func142, Tryz.ntmps142
        go_wp2_with fail
        go_ret3
        refine ⟨?_, rfl⟩
        rw [HN.out]
        rfl
      have HN := Lib.hid (escS_no ho h1 h2 h3 h4 h120)
      have q1 := u8_ne' (c := c) (n := 92) (z := 92) rfl (by omega) h1
      have q2 := u8_ne' (c := c) (n := 39) (z := 39) rfl (by omega) h2
      have q3 := u8_ne' (c := c) (n := 110) (z := 110) rfl (by omega) h3
      have q4 := u8_ne' (c := c) (n := 116) (z := 116) rfl (by omega) h4
      have q5 := u8_ne' (c := c) (n := 120) (z := 120) rfl (by omega) h120
      clear ho h1 h2 h3 h4 h120
      go_enter Tryz.func142, Tryz.ntmps142
      go_wp2_with fail
      go_ret3
      refine ⟨?_, rfl⟩
      rw [HN.out]
      rfl
  · have HN := Lib.hid (escS_end (List.getElem?_eq_none (l := B) (i := i) (by omega)))
    have hnl : decide (B.length ≤ i) = true := by simpa using hlt
    go_enter Tryz.func142, Tryz.ntmps142
    go_wp2_with fail
    go_ret3
    refine ⟨?_, rfl⟩
    rw [HN.out]
    rfl

/-- A quoted name and the place behind it, as the reference hands it back. -/
def quoV : Option (List UInt8 × Nat) → Value
  | none => .tuple #[.string ⟨#[]⟩, .int .i64 0, .bool false]
  | some (s, j) => .tuple #[.string (strB s), .int .i64 (j : Int), .bool true]

set_option maxRecDepth 100000 in
set_option maxHeartbeats 4000000 in
theorem rQuoted_any (b off cap : Nat) (B : List UInt8) (i0 : Nat) (w : World) (h : BytesAt w (some ⟨b, off, none⟩) B) (hi : i0 < B.length) (hB : B.length ≤ 70000) :
    Calls Tryz.prog 136 #[.slice (some ⟨b, off, none⟩) B.length cap, .int .i64 (i0 : Int)] w fun e w' => e = .returned (quoV (quoS B (i0 + 1) [])) ∧ Ext w w' := by
  obtain ⟨i1, hi1, hz0, hz1, hz2⟩ := infoP u8Info
  have H := Lib.hid h
  clear h
  go_enter Tryz.func136, Tryz.ntmps136
  go_wp2_with fail
  go_loopw [7, 8] (fun v i wr => ∃ k : Nat, ∃ acc : List UInt8, k ≤ B.length ∧ acc.length ≤ k ∧ i = .int .i64 k ∧ Hid (GathB w wr v acc) ∧ Hid (quoS B (i0 + 1) [] = quoS B k acc)) (fun _ i _ => B.length - (intOf i).toNat)
  case atStart => exact ⟨i0 + 1, [], hi, Nat.zero_le _, by go_num, GathB.start w, rfl⟩
  case round =>
    obtain ⟨k, acc, hk, hak, rfl, HG, HS⟩ := hrel
    obtain ⟨A1, c1, rfl, hb1⟩ := HG.out.slice
    by_cases hlt : k < B.length
    · have hB1 := H.out.ext HG.out.ext
      have ho : B[k]? = some B[k] := List.getElem?_eq_getElem hlt
      generalize B[k] = c at ho
      obtain ⟨b', off', he, hc⟩ := bytes_at hB1 hlt
      injection he with he
      injection he with he1 he2
      subst he1 he2
      have HC := Lib.hid hc
      have d0 := HC.out k c ho
      have HQ := Lib.hid (quoS_eq (acc := acc) ho)
      clear hc hB1
      by_cases h39 : c = 39
      · subst h39
        by_cases h2 : B[k + 1]? = some 39
        · have d1 := HC.out _ _ h2
          have hk1 : k + 1 < B.length := (List.getElem?_eq_some_iff.1 h2).1
          have HN := Lib.hid (HS.out.trans (show quoS B k acc = quoS B (k + 2) (acc ++ [39]) from by rw [HQ.out, if_pos ⟨rfl, h2⟩]))
          clear h2 ho hb1
          go_wp2_with (at_builtin; refine wpList_append_src (P := Tryz.prog) rfl _ _ 68 rfl 5 i1 _ 1 1 Tryz.underlying68 hi1 hz0 hz1 hz2 rfl (by omega) _ rfl _ _ _ rfl acc.length (acc.map u8V) (own_ext HG.out.own ((Ext.refl wr).alloc _)) [.int .u8 39] (El.Src.new _ #[.int .u8 39] _ 1 1 rfl) (u8_one [39]) (by unfold maxLen; omega) (by omega) ?_; intro v3 w3 ho3 hm3 hb3; have hG3 := Lib.hid (GathB.step (G := [39]) HG.out ((Ext.refl wr).alloc _) ho3 hm3 hb3); clear ho3 hm3 hb3)
          go_roundw
          case rel => exact ⟨k + 2, acc ++ [39], hk1, by simp; omega, by go_num, hG3, HN.out⟩
          case measure => simp [intOf]; omega
        · have HN := Lib.hid (HS.out.trans (show quoS B k acc = some (acc, k + 1) from by rw [HQ.out, if_neg (fun h => h2 h.2), if_pos rfl]))
          have hcv := conv_str c1 hb1
          by_cases hk1 : k + 1 < B.length
          · have ho1 : B[k + 1]? = some B[k + 1] := List.getElem?_eq_getElem hk1
            generalize B[k + 1] = d at ho1
            have d1 := HC.out _ _ ho1
            have q1 := u8_ne' (c := d) (n := 39) (z := 39) rfl (by omega) (fun e => h2 (by rw [ho1, e]; rfl))
            clear h2 ho ho1 hb1
            go_wp2_with fail
            go_ret3
            refine ⟨?_, HG.out.ext⟩
            rw [HN.out]
            show _ = Ending.returned (.tuple #[.string (strB acc), .int .i64 ((k + 1 : Nat) : Int), .bool true])
            go_num
          · clear h2 ho hb1
            go_wp2_with fail
            go_ret3
            refine ⟨?_, HG.out.ext⟩
            rw [HN.out]
            show _ = Ending.returned (.tuple #[.string (strB acc), .int .i64 ((k + 1 : Nat) : Int), .bool true])
            go_num
      · have q39 := u8_ne' (c := c) (n := 39) (z := 39) rfl (by omega) h39
        by_cases h92 : c = 92
        · subst h92
          cases he : escS B (k + 1) with
          | none =>
            have HN := Lib.hid (HS.out.trans (show quoS B k acc = none from by rw [HQ.out, if_neg (fun h => absurd h.1 (by decide)), if_neg (by decide), if_pos rfl, he]))
            have HE := Lib.hid he
            clear ho he hb1 h39
            go_wp2_with (go_at_call 142; refine (rEsc_any b off cap B (k + 1) _ HC (by omega) hB).mono ?_; rw [HE.out]; simp only [escV]; rintro e w' ⟨rfl, rfl⟩)
            go_ret3
            exact ⟨by rw [HN.out]; rfl, HG.out.ext⟩
          | some p =>
            obtain ⟨x, j⟩ := p
            have HN := Lib.hid (HS.out.trans (show quoS B k acc = quoS B j (acc ++ [x]) from by rw [HQ.out, if_neg (fun h => absurd h.1 (by decide)), if_neg (by decide), if_pos rfl, he]))
            have HE := Lib.hid he
            obtain ⟨hj1, hj2⟩ := escS_bd he
            clear ho he hb1 h39
            go_wp2_with (first | (go_at_call 142; refine (rEsc_any b off cap B (k + 1) _ HC (by omega) hB).mono ?_; rw [HE.out]; simp only [escV]; rintro e w' ⟨rfl, rfl⟩) | (at_builtin; refine wpList_append_src (P := Tryz.prog) rfl _ _ 68 rfl 5 i1 _ 1 1 Tryz.underlying68 hi1 hz0 hz1 hz2 rfl (by omega) _ rfl _ _ _ rfl acc.length (acc.map u8V) (own_ext HG.out.own ((Ext.refl wr).alloc _)) [.int .u8 (x.toNat : Int)] (El.Src.new _ #[.int .u8 (x.toNat : Int)] _ 1 1 rfl) (u8_one [x]) (by unfold maxLen; omega) (by omega) ?_; intro v3 w3 ho3 hm3 hb3; have hG3 := Lib.hid (GathB.step (G := [x]) HG.out ((Ext.refl wr).alloc _) ho3 hm3 hb3); clear ho3 hm3 hb3))
            go_roundw
            case rel => exact ⟨j, acc ++ [x], hj2, by simp; omega, rfl, hG3, HN.out⟩
            case measure => simp [intOf]; omega
        · have q92 := u8_ne' (c := c) (n := 92) (z := 92) rfl (by omega) h92
          have hcl := c.toNat_lt
          by_cases h32 : c < 32 ∨ c = 127
          · have HN := Lib.hid (HS.out.trans (show quoS B k acc = none from by rw [HQ.out, if_neg (fun h => h39 h.1), if_neg h39, if_neg h92, if_pos h32]))
            have hd : c.toNat < 32 ∨ (32 ≤ c.toNat ∧ c.toNat = 127) := by
              rcases h32 with h | h
              · exact .inl (UInt8.lt_iff_toNat_lt.1 h)
              · exact .inr (by subst h; decide)
            clear ho h92 h39 h32 hb1
            rcases hd with g1 | ⟨g1, g2⟩
            all_goals
              go_wp2_with fail
              go_ret3
              exact ⟨by rw [HN.out]; rfl, HG.out.ext⟩
          · have HN := Lib.hid (HS.out.trans (show quoS B k acc = quoS B (k + 1) (acc ++ [c]) from by rw [HQ.out, if_neg (fun h => h39 h.1), if_neg h39, if_neg h92, if_neg h32]))
            have g1 : 32 ≤ c.toNat := by
              have : ¬ c < 32 := fun h => h32 (.inl h)
              rw [UInt8.lt_iff_toNat_lt] at this
              have e : (32 : UInt8).toNat = 32 := rfl
              omega
            have q127 := u8_ne' (c := c) (n := 127) (z := 127) rfl (by omega) (fun h => h32 (.inr h))
            clear ho h92 h39 h32 hb1
            go_wp2_with (at_builtin; refine wpList_append_src (P := Tryz.prog) rfl _ _ 68 rfl 5 i1 _ 1 1 Tryz.underlying68 hi1 hz0 hz1 hz2 rfl (by omega) _ rfl _ _ _ rfl acc.length (acc.map u8V) (own_ext HG.out.own ((Ext.refl wr).alloc _)) [.int .u8 (c.toNat : Int)] (El.Src.new _ #[.int .u8 (c.toNat : Int)] _ 1 1 rfl) (u8_one [c]) (by unfold maxLen; omega) (by omega) ?_; intro v3 w3 ho3 hm3 hb3; have hG3 := Lib.hid (GathB.step (G := [c]) HG.out ((Ext.refl wr).alloc _) ho3 hm3 hb3); clear ho3 hm3 hb3)
            go_roundw
            case rel => exact ⟨k + 1, acc ++ [c], hlt, by simp; omega, by go_num, hG3, HN.out⟩
            case measure => simp [intOf]; omega
    · obtain rfl : k = B.length := by omega
      have HN := Lib.hid (HS.out.trans (quoS_end (B := B) (acc := acc) (Nat.le_refl _)))
      clear hb1
      go_wp2_with fail
      go_ret3
      exact ⟨by rw [HN.out]; rfl, HG.out.ext⟩

end Go.Proofs.YtlkpiigdmmhkpaaGreatDoor
