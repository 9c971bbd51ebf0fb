/- Layer 8, the reference: the walks of escape (whole), quoted. -/
import Derived.Test.YtgcdhffeacdegaaGreatDoorG07
import Derived.Test.YtgcdhffeacdegaaGreatDoorG06
import Derived.Test.YtgcdhffeacdegaaGreatDoorG05
import Derived.Test.YtgcdhffeacdegaaGreatDoorG04
import Derived.Test.YtgcdhffeacdegaaGreatDoorG02
import Derived.Laws.BytesArg
import Derived.Laws.IdiomStrings
import Derived.Lib.ConvBytes
import Derived.OwnWalk
namespace Go.Proofs.YtgcdhffeacdegaaGreatDoor
open Go.RowKit Go.El

theorem escS_end {B : List UInt8} {i : Nat} (h : B[i]? = none) : escS B i = none := by unfold escS; rw [h]
theorem escS_self {B : List UInt8} {i : Nat} {c : UInt8} (h : B[i]? = some c) (hc : c = 92 ∨ c = 39) : escS B i = some (c, i + 1) := by unfold escS; rw [h]; simp only; rw [if_pos hc]
theorem escS_n {B : List UInt8} {i : Nat} (h : B[i]? = some 110) : escS B i = some (10, i + 1) := by unfold escS; rw [h]; simp
theorem escS_t {B : List UInt8} {i : Nat} (h : B[i]? = some 116) : escS B i = some (9, i + 1) := by unfold escS; rw [h]; simp
theorem escS_no {B : List UInt8} {i : Nat} {c : UInt8} (h : B[i]? = some c) (h1 : c ≠ 92) (h2 : c ≠ 39) (h3 : c ≠ 110) (h4 : c ≠ 116) (h5 : c ≠ 120) : escS B i = none := by
  unfold escS; rw [h]; simp [h1, h2, h3, h4, h5]
theorem u8_ne' {c : UInt8} {n : Nat} {z : Int} (hz : (n : Int) = z) (hn : n < 256) (h : c ≠ UInt8.ofNat n) : ((c.toNat : Int) == z) = false := by rw [← hz]; exact u8_ne hn h

set_option maxRecDepth 100000 in
set_option maxHeartbeats 2000000 in
theorem rEsc_any (b off cap : Nat) (B : List UInt8) (i : Nat) (w : World) (HC : Hid (∀ j c, B[j]? = some c → w.cell? ⟨b, off + j, none⟩ = some (.int .u8 (c.toNat : Int)))) (hi : i ≤ B.length) (hB : B.length ≤ 70000) :
    Calls Tryz.prog 147 #[.slice (some ⟨b, off, none⟩) B.length cap, .int .i64 (i : Int)] w fun e w' => e = .returned (escV (escS B i)) ∧ w = w' := by
  by_cases hlt : i < B.length
  · have ho : B[i]? = some B[i] := List.getElem?_eq_getElem hlt
    generalize B[i] = c at ho
    by_cases h120 : c = 120
    · subst h120
      exact rEscX_any b off cap B i w HC ho hB
    · have d0 := HC.out i c ho
      have hnl : decide (B.length ≤ i) = false := by simpa using hlt
      by_cases h1 : c = 92
      · subst h1
        have HN := Lib.hid (escS_self ho (.inl rfl))
        clear ho h120
        go_enter Tryz.func147, Tryz.ntmps147
        go_wp2_with fail
        go_ret3
        refine ⟨?_, rfl⟩
        rw [HN.out]
        rfl
      by_cases h2 : c = 39
      · subst h2
        have HN := Lib.hid (escS_self ho (.inr rfl))
        clear ho h120 h1
        go_enter Tryz.func147, Tryz.ntmps147
        go_wp2_with fail
        go_ret3
        refine ⟨?_, rfl⟩
        rw [HN.out]
        rfl
      by_cases h3 : c = 110
      · subst h3
        have HN := Lib.hid (escS_n ho)
        clear ho h120 h1 h2
        go_enter Tryz.func147, Tryz.ntmps147
        go_wp2_with fail
        go_ret3
        refine ⟨?_, rfl⟩
        rw [HN.out]
        rfl
      by_cases h4 : c = 116
      · subst h4
        have HN := Lib.hid (escS_t ho)
        clear ho h120 h1 h2 h3
        go_enter Tryz.func147, Tryz.ntmps147
        go_wp2_with fail
        go_ret3
        refine ⟨?_, rfl⟩
        rw [HN.out]
        rfl
      have HN := Lib.hid (escS_no ho h1 h2 h3 h4 h120)
      have q1 := u8_ne' (c := c) (n := 92) (z := 92) rfl (by omega) h1
      have q2 := u8_ne' (c := c) (n := 39) (z := 39) rfl (by omega) h2
      have q3 := u8_ne' (c := c) (n := 110) (z := 110) rfl (by omega) h3
      have q4 := u8_ne' (c := c) (n := 116) (z := 116) rfl (by omega) h4
      have q5 := u8_ne' (c := c) (n := 120) (z := 120) rfl (by omega) h120
      clear ho h1 h2 h3 h4 h120
      go_enter Tryz.func147, Tryz.ntmps147
      go_wp2_with fail
      go_ret3
      refine ⟨?_, rfl⟩
      rw [HN.out]
      rfl
  · have HN := Lib.hid (escS_end (List.getElem?_eq_none (l := B) (i := i) (by omega)))
    have hnl : decide (B.length ≤ i) = true := by simpa using hlt
    go_enter Tryz.func147, Tryz.ntmps147
    go_wp2_with fail
    go_ret3
    refine ⟨?_, rfl⟩
    rw [HN.out]
    rfl

/-- A quoted name and the place behind it, as the reference hands it back. -/
def quoV : Option (List UInt8 × Nat) → Value
  | none => .tuple #[.string ⟨#[]⟩, .int .i64 0, .bool false]
  | some (s, j) => .tuple #[.string (strB s), .int .i64 (j : Int), .bool true]

set_option maxRecDepth 100000 in
set_option maxHeartbeats 4000000 in
theorem rQuoted_any (b off cap : Nat) (B : List UInt8) (i0 : Nat) (w : World) (h : BytesAt w (some ⟨b, off, none⟩) B) (hi : i0 < B.length) (hB : B.length ≤ 70000) :
    Calls Tryz.prog 109 #[.slice (some ⟨b, off, none⟩) B.length cap, .int .i64 (i0 : Int)] w fun e w' => e = .returned (quoV (quoS B (i0 + 1) [])) ∧ Ext w w' := by
  obtain ⟨i1, hi1, hz0, hz1, hz2⟩ := infoP u8Info
  have H := Lib.hid h
  clear h
  go_enter Tryz.func109, Tryz.ntmps109
  go_wp2_with fail
  go_loopw [7, 8] (fun v i wr => ∃ k : Nat, ∃ acc : List UInt8, k ≤ B.length ∧ acc.length ≤ k ∧ i = .int .i64 k ∧ Hid (GathB w wr v acc) ∧ Hid (quoS B (i0 + 1) [] = quoS B k acc)) (fun _ i _ => B.length - (intOf i).toNat)
  case atStart => exact ⟨i0 + 1, [], hi, Nat.zero_le _, by go_num, GathB.start w, rfl⟩
  case round =>
    obtain ⟨k, acc, hk, hak, rfl, HG, HS⟩ := hrel
    obtain ⟨A1, c1, rfl, hb1⟩ := HG.out.slice
    by_cases hlt : k < B.length
    · have hB1 := H.out.ext HG.out.ext
      have ho : B[k]? = some B[k] := List.getElem?_eq_getElem hlt
      generalize B[k] = c at ho
      obtain ⟨b', off', he, hc⟩ := bytes_at hB1 hlt
      injection he with he
      injection he with he1 he2
      subst he1 he2
      have HC := Lib.hid hc
      have d0 := HC.out k c ho
      have HQ := Lib.hid (quoS_eq (acc := acc) ho)
      clear hc hB1
      by_cases h39 : c = 39
      · subst h39
        by_cases h2 : B[k + 1]? = some 39
        · have d1 := HC.out _ _ h2
          have hk1 : k + 1 < B.length := (List.getElem?_eq_some_iff.1 h2).1
          have HN := Lib.hid (HS.out.trans (show quoS B k acc = quoS B (k + 2) (acc ++ [39]) from by rw [HQ.out, if_pos ⟨rfl, h2⟩]))
          clear h2 ho hb1
          go_wp2_with (at_builtin; refine wpList_append_src (P := Tryz.prog) rfl _ _ 23 rfl 5 i1 _ 1 1 Tryz.underlying23 hi1 hz0 hz1 hz2 rfl (by omega) _ rfl _ _ _ rfl acc.length (acc.map u8V) (own_ext HG.out.own ((Ext.refl wr).alloc _)) [.int .u8 39] (El.Src.new _ #[.int .u8 39] _ 1 1 rfl) (u8_one [39]) (by unfold maxLen; omega) (by omega) ?_; intro v3 w3 ho3 hm3 hb3; have hG3 := Lib.hid (GathB.step (G := [39]) HG.out ((Ext.refl wr).alloc _) ho3 hm3 hb3); clear ho3 hm3 hb3)
          go_roundw
          case rel => exact ⟨k + 2, acc ++ [39], hk1, by simp; omega, by go_num, hG3, HN.out⟩
          case measure => simp [intOf]; omega
        · have HN := Lib.hid (HS.out.trans (show quoS B k acc = some (acc, k + 1) from by rw [HQ.out, if_neg (fun h => h2 h.2), if_pos rfl]))
          have hcv := conv_str c1 hb1
          by_cases hk1 : k + 1 < B.length
          · have ho1 : B[k + 1]? = some B[k + 1] := List.getElem?_eq_getElem hk1
            generalize B[k + 1] = d at ho1
            have d1 := HC.out _ _ ho1
            have q1 := u8_ne' (c := d) (n := 39) (z := 39) rfl (by omega) (fun e => h2 (by rw [ho1, e]; rfl))
            clear h2 ho ho1 hb1
            go_wp2_with fail
            go_ret3
            refine ⟨?_, HG.out.ext⟩
            rw [HN.out]
            show _ = Ending.returned (.tuple #[.string (strB acc), .int .i64 ((k + 1 : Nat) : Int), .bool true])
            go_num
          · clear h2 ho hb1
            go_wp2_with fail
            go_ret3
            refine ⟨?_, HG.out.ext⟩
            rw [HN.out]
            show _ = Ending.returned (.tuple #[.string (strB acc), .int .i64 ((k + 1 : Nat) : Int), .bool true])
            go_num
      · have q39 := u8_ne' (c := c) (n := 39) (z := 39) rfl (by omega) h39
        by_cases h92 : c = 92
        · subst h92
          cases he : escS B (k + 1) with
          | none =>
            have HN := Lib.hid (HS.out.trans (show quoS B k acc = none from by rw [HQ.out, if_neg (fun h => absurd h.1 (by decide)), if_neg (by decide), if_pos rfl, he]))
            have HE := Lib.hid he
            clear ho he hb1 h39
            go_wp2_with (go_at_call 147; refine (rEsc_any b off cap B (k + 1) _ HC (by omega) hB).mono ?_; rw [HE.out]; simp only [escV]; rintro e w' ⟨rfl, rfl⟩)
            go_ret3
            exact ⟨by rw [HN.out]; rfl, HG.out.ext⟩
          | some p =>
            obtain ⟨x, j⟩ := p
            have HN := Lib.hid (HS.out.trans (show quoS B k acc = quoS B j (acc ++ [x]) from by rw [HQ.out, if_neg (fun h => absurd h.1 (by decide)), if_neg (by decide), if_pos rfl, he]))
            have HE := Lib.hid he
            obtain ⟨hj1, hj2⟩ := escS_bd he
            clear ho he hb1 h39
            go_wp2_with (first | (go_at_call 147; refine (rEsc_any b off cap B (k + 1) _ HC (by omega) hB).mono ?_; rw [HE.out]; simp only [escV]; rintro e w' ⟨rfl, rfl⟩) | (at_builtin; refine wpList_append_src (P := Tryz.prog) rfl _ _ 23 rfl 5 i1 _ 1 1 Tryz.underlying23 hi1 hz0 hz1 hz2 rfl (by omega) _ rfl _ _ _ rfl acc.length (acc.map u8V) (own_ext HG.out.own ((Ext.refl wr).alloc _)) [.int .u8 (x.toNat : Int)] (El.Src.new _ #[.int .u8 (x.toNat : Int)] _ 1 1 rfl) (u8_one [x]) (by unfold maxLen; omega) (by omega) ?_; intro v3 w3 ho3 hm3 hb3; have hG3 := Lib.hid (GathB.step (G := [x]) HG.out ((Ext.refl wr).alloc _) ho3 hm3 hb3); clear ho3 hm3 hb3))
            go_roundw
            case rel => exact ⟨j, acc ++ [x], hj2, by simp; omega, rfl, hG3, HN.out⟩
            case measure => simp [intOf]; omega
        · have q92 := u8_ne' (c := c) (n := 92) (z := 92) rfl (by omega) h92
          have hcl := c.toNat_lt
          by_cases h32 : c < 32 ∨ c = 127
          · have HN := Lib.hid (HS.out.trans (show quoS B k acc = none from by rw [HQ.out, if_neg (fun h => h39 h.1), if_neg h39, if_neg h92, if_pos h32]))
            have hd : c.toNat < 32 ∨ (32 ≤ c.toNat ∧ c.toNat = 127) := by
              rcases h32 with h | h
              · exact .inl (UInt8.lt_iff_toNat_lt.1 h)
              · exact .inr (by subst h; decide)
            clear ho h92 h39 h32 hb1
            rcases hd with g1 | ⟨g1, g2⟩
            all_goals
              go_wp2_with fail
              go_ret3
              exact ⟨by rw [HN.out]; rfl, HG.out.ext⟩
          · have HN := Lib.hid (HS.out.trans (show quoS B k acc = quoS B (k + 1) (acc ++ [c]) from by rw [HQ.out, if_neg (fun h => h39 h.1), if_neg h39, if_neg h92, if_neg h32]))
            have g1 : 32 ≤ c.toNat := by
              have : ¬ c < 32 := fun h => h32 (.inl h)
              rw [UInt8.lt_iff_toNat_lt] at this
              have e : (32 : UInt8).toNat = 32 := rfl
              omega
            have q127 := u8_ne' (c := c) (n := 127) (z := 127) rfl (by omega) (fun h => h32 (.inr h))
            clear ho h92 h39 h32 hb1
            go_wp2_with (at_builtin; refine wpList_append_src (P := Tryz.prog) rfl _ _ 23 rfl 5 i1 _ 1 1 Tryz.underlying23 hi1 hz0 hz1 hz2 rfl (by omega) _ rfl _ _ _ rfl acc.length (acc.map u8V) (own_ext HG.out.own ((Ext.refl wr).alloc _)) [.int .u8 (c.toNat : Int)] (El.Src.new _ #[.int .u8 (c.toNat : Int)] _ 1 1 rfl) (u8_one [c]) (by unfold maxLen; omega) (by omega) ?_; intro v3 w3 ho3 hm3 hb3; have hG3 := Lib.hid (GathB.step (G := [c]) HG.out ((Ext.refl wr).alloc _) ho3 hm3 hb3); clear ho3 hm3 hb3)
            go_roundw
            case rel => exact ⟨k + 1, acc ++ [c], hlt, by simp; omega, by go_num, hG3, HN.out⟩
            case measure => simp [intOf]; omega
    · obtain rfl : k = B.length := by omega
      have HN := Lib.hid (HS.out.trans (quoS_end (B := B) (acc := acc) (Nat.le_refl _)))
      clear hb1
      go_wp2_with fail
      go_ret3
      exact ⟨by rw [HN.out]; rfl, HG.out.ext⟩

end Go.Proofs.YtgcdhffeacdegaaGreatDoor

/- Layer 8, the reference: tokens as values; what is known of a byte of each kind. -/
namespace Go.Proofs.YtgcdhffeacdegaaGreatDoor
open Go.RowKit Go.El

def tokV (t : TokV) : Value := .agg #[.int .i64 t.kind, .string t.s, .int .i64 t.n, .int .i64 t.at_, .bool t.lay]
theorem tokV_eq (t : TokV) : tokV t = .agg #[.int .i64 t.kind, .string t.s, .int .i64 t.n, .int .i64 t.at_, .bool t.lay] := rfl
/-- What the reference's 'one' hands back. -/
def oneV (i : Nat) : Except Int (Int × List UInt8 × Int × Nat) → Value
  | .error e => .tuple #[tokV zeroT, .int .i64 (i : Int), .int .i64 e]
  | .ok (k, s, n, e) => .tuple #[tokV ⟨k, strB s, n, i, false⟩, .int .i64 (e : Int), .int .i64 0]
theorem nameS_ok {k : Int} {s : List UInt8} {e : Nat} (h : ¬ 64 < s.length) : nameS k s e = .ok (k, s, 0, e) := by unfold nameS; rw [if_neg h]
theorem nameS_long {k : Int} {s : List UInt8} {e : Nat} (h : 64 < s.length) : nameS k s e = .error 3 := by unfold nameS; rw [if_pos h]

theorem oneS_end {B : List UInt8} {i : Nat} {c : UInt8} (h : endsS B i c = true) : oneS B i c = nameS 6 [c] (i + 1) := by unfold oneS; rw [if_pos h]
theorem oneS_small {B : List UInt8} {i : Nat} {c : UInt8} (h : isSmall c = true) : oneS B i c = nameS 1 (sub B i (rowTo isWord B i)) (rowTo isWord B i) := by
  have h1 : endsS B i c = false := by
    have := all_bytes (p := fun c => (!isSmall c || (c != 46)) = true) (by decide +kernel) c
    unfold endsS
    rw [h] at this
    have h46 : (c == 46) = false := by simpa using this
    rw [h46]; rfl
  unfold oneS; rw [if_neg (by simp [h1]), if_pos h]
theorem oneS_sign {B : List UInt8} {i : Nat} {c : UInt8} (h1 : endsS B i c = false) (h : isSign c = true) : oneS B i c = nameS 1 (sub B i (rowTo isSign B i)) (rowTo isSign B i) := by
  have h2 : isSmall c = false := by
    have := all_bytes (p := fun c => (!isSign c || !isSmall c) = true) (by decide +kernel) c
    rw [h] at this
    simpa using this
  unfold oneS; rw [if_neg (by simp [h1]), if_neg (by simp [h2]), if_pos h]
theorem ends_no {B : List UInt8} {i : Nat} {c : UInt8} (h : c ≠ 46) : endsS B i c = false := by unfold endsS; rw [show (c == 46) = false from by simpa using h]; rfl
theorem oneS_solo {B : List UInt8} {i : Nat} {c : UInt8} (h : c = 33 ∨ c = 59) : oneS B i c = nameS 1 [c] (i + 1) := by
  have h0 : endsS B i c = false := ends_no (by rintro rfl; revert h; decide)
  have h1 : isSmall c = false := by rcases h with rfl | rfl <;> rfl
  have h2 : isSign c = false := by rcases h with rfl | rfl <;> rfl
  unfold oneS; rw [if_neg (by simp [h0]), if_neg (by simp [h1]), if_neg (by simp [h2]), if_pos h]
theorem digit_not (c : UInt8) (h : isDigit c = true) : c ≠ 46 ∧ isSmall c = false ∧ isSign c = false ∧ c ≠ 33 ∧ c ≠ 59 ∧ isWord c = true := by
  have := all_bytes (p := fun c => (!isDigit c || (c != 46 && !isSmall c && !isSign c && c != 33 && c != 59 && isWord c)) = true) (by decide +kernel) c
  rw [h] at this
  simpa [and_assoc] using this
theorem oneS_digit {B : List UInt8} {i : Nat} {c : UInt8} (h : isDigit c = true) : oneS B i c = (if numV (sub B i (rowTo isDigit B i)) ≤ 9007199254740991 then .ok (4, [], numV (sub B i (rowTo isDigit B i)), rowTo isDigit B i) else .error 81) := by
  obtain ⟨g1, g2, g3, g4, g5, _⟩ := digit_not c h
  unfold oneS; rw [if_neg (by simp [ends_no g1]), if_neg (by simp [g2]), if_neg (by simp [g3]), if_neg (by simp [g4, g5]), if_pos h]
/-- A word's byte that begins a variable. -/
def isGreat (c : UInt8) : Bool := isWord c && !isSmall c && !isDigit c
theorem great_not (c : UInt8) (h : isGreat c = true) : c ≠ 46 ∧ isSmall c = false ∧ isSign c = false ∧ c ≠ 33 ∧ c ≠ 59 ∧ isDigit c = false ∧ isWord c = true := by
  have := all_bytes (p := fun c => (!isGreat c || (c != 46 && !isSmall c && !isSign c && c != 33 && c != 59 && !isDigit c && isWord c)) = true) (by decide +kernel) c
  rw [h] at this
  simpa [and_assoc] using this
theorem oneS_great {B : List UInt8} {i : Nat} {c : UInt8} (h : isGreat c = true) : oneS B i c = nameS 3 (sub B i (rowTo isWord B i)) (rowTo isWord B i) := by
  obtain ⟨g1, g2, g3, g4, g5, g6, g7⟩ := great_not c h
  unfold oneS; rw [if_neg (by simp [ends_no g1]), if_neg (by simp [g2]), if_neg (by simp [g3]), if_neg (by simp [g4, g5]), if_neg (by simp [g6]), if_pos g7]
theorem punct_not (c : UInt8) (h : isPunct c = true) : c ≠ 46 ∧ isSmall c = false ∧ isSign c = false ∧ c ≠ 33 ∧ c ≠ 59 ∧ isDigit c = false ∧ isWord c = false := by
  have := all_bytes (p := fun c => (!isPunct c || (c != 46 && !isSmall c && !isSign c && c != 33 && c != 59 && !isDigit c && !isWord c)) = true) (by decide +kernel) c
  rw [h] at this
  simpa [and_assoc] using this
theorem oneS_punct {B : List UInt8} {i : Nat} {c : UInt8} (h : isPunct c = true) : oneS B i c = nameS 5 [c] (i + 1) := by
  obtain ⟨g1, g2, g3, g4, g5, g6, g7⟩ := punct_not c h
  unfold oneS; rw [if_neg (by simp [ends_no g1]), if_neg (by simp [g2]), if_neg (by simp [g3]), if_neg (by simp [g4, g5]), if_neg (by simp [g6]), if_neg (by simp [g7]), if_pos h]
theorem oneS_quote {B : List UInt8} {i : Nat} : oneS B i 39 = match quoS B (i + 1) [] with | none => .error 80 | some (s, e) => nameS 2 s e := by
  unfold oneS; rw [if_neg (by simp [ends_no (B := B) (i := i) (c := 39) (by decide)]), if_neg (by decide), if_neg (by decide), if_neg (by decide), if_neg (by decide), if_neg (by decide), if_neg (by decide), if_pos rfl]
  cases quoS B (i + 1) [] <;> rfl
/-- A byte that begins no token. -/
def isOther (c : UInt8) : Bool := !(c == 46) && !isSmall c && !isSign c && !(c == 33) && !(c == 59) && !isWord c && !isPunct c && !(c == 39)
theorem other_not (c : UInt8) (h : isOther c = true) : c ≠ 46 ∧ isSmall c = false ∧ isSign c = false ∧ c ≠ 33 ∧ c ≠ 59 ∧ isDigit c = false ∧ isWord c = false ∧ isPunct c = false ∧ c ≠ 39 := by
  have := all_bytes (p := fun c => (!isOther c || (c != 46 && !isSmall c && !isSign c && c != 33 && c != 59 && !isDigit c && !isWord c && !isPunct c && c != 39)) = true) (by decide +kernel) c
  rw [h] at this
  simpa [and_assoc] using this
theorem oneS_other {B : List UInt8} {i : Nat} {c : UInt8} (h : isOther c = true) : oneS B i c = .error 80 := by
  obtain ⟨g1, g2, g3, g4, g5, g6, g7, g8, g9⟩ := other_not c h
  unfold oneS; rw [if_neg (by simp [ends_no g1]), if_neg (by simp [g2]), if_neg (by simp [g3]), if_neg (by simp [g4, g5]), if_neg (by simp [g6]), if_neg (by simp [g7]), if_neg (by simp [g8]), if_neg g9]
/-- Each byte is of one kind. -/
theorem byte_kinds (c : UInt8) : c = 46 ∨ isSmall c = true ∨ (c ≠ 46 ∧ isSign c = true) ∨ (c = 33 ∨ c = 59) ∨ isDigit c = true ∨ isGreat c = true ∨ isPunct c = true ∨ c = 39 ∨ isOther c = true := by
  have := all_bytes (p := fun c => (c == 46 || isSmall c || (c != 46 && isSign c) || (c == 33 || c == 59) || isDigit c || isGreat c || isPunct c || c == 39 || isOther c) = true) (by decide +kernel) c
  simpa [or_assoc] using this
theorem sub_one {B : List UInt8} {i : Nat} {c : UInt8} (h : B[i]? = some c) : sub B i (i + 1) = [c] := by
  unfold sub
  rw [drop_cons h]
  simp
theorem sub_row (p : UInt8 → Bool) (B : List UInt8) (i : Nat) : sub B i (rowTo p B i) = (B.drop i).takeWhile p := by
  have h := rowTo_ge p B i
  unfold sub
  have e : rowTo p B i - i = ((B.drop i).takeWhile p).length := by unfold rowTo; omega
  rw [e]
  exact (List.prefix_iff_eq_take.1 (List.takeWhile_prefix p)).symm
theorem takeWhile_all (p : UInt8 → Bool) : ∀ (l : List UInt8), ∀ c ∈ l.takeWhile p, p c = true
  | [], c, h => by simp at h
  | d :: l, c, h => by
    rw [List.takeWhile_cons] at h
    split at h
    · next hd =>
      rcases List.mem_cons.1 h with rfl | h
      · exact hd
      · exact takeWhile_all p l c h
    · simp at h
theorem sub_row_all (p : UInt8 → Bool) (B : List UInt8) (i : Nat) : ∀ c ∈ sub B i (rowTo p B i), p c = true := by
  rw [sub_row]
  intro c hc
  exact takeWhile_all p _ c hc

end Go.Proofs.YtgcdhffeacdegaaGreatDoor

/- Layer 8, the reference: the walk of one, kind by kind of its first byte. -/
namespace Go.Proofs.YtgcdhffeacdegaaGreatDoor
open Go.RowKit Go.El

theorem ext_box (w : World) (o : Obj) : Ext w (w.alloc o) := (Ext.refl w).alloc o
theorem ext_box2 (w : World) (o p : Obj) : Ext w ((w.alloc o).alloc p) := ((Ext.refl w).alloc o).alloc p
/-- What a byte's walk through 'one' stands on. -/
structure OneAt (b off cap : Nat) (B : List UInt8) (i : Nat) (c : UInt8) (w : World) : Prop where
  src : BytesAt w (some ⟨b, off, none⟩) B
  at_ : B[i]? = some c
  len : B.length ≤ 70000
  cap : B.length ≤ cap
theorem OneAt.lt {b off cap : Nat} {B : List UInt8} {i : Nat} {c : UInt8} {w : World} (h : OneAt b off cap B i c w) : i < B.length := (List.getElem?_eq_some_iff.1 h.at_).1
theorem OneAt.cells {b off cap : Nat} {B : List UInt8} {i : Nat} {c : UInt8} {w : World} (h : OneAt b off cap B i c w) : ∀ j c, B[j]? = some c → w.cell? ⟨b, off + j, none⟩ = some (.int .u8 (c.toNat : Int)) := by
  obtain ⟨b', off', he, hc⟩ := bytes_at h.src h.lt
  injection he with he
  injection he with he1 he2
  subst he1 he2
  exact hc
theorem OneAt.conv {b off cap : Nat} {B : List UInt8} {i : Nat} {c : UInt8} {w : World} (h : OneAt b off cap B i c w) (e : Nat) (hge : i ≤ e) (hle : e ≤ B.length) (x p : Obj) :
    (convert 23 9 (.slice (some ⟨b, off + i, none⟩) (e - i) (cap - i))).run Tryz.prog ((w.alloc x).alloc p) = .ok (.string (strB (sub B i e))) ((w.alloc x).alloc p) := by
  have h1 := (bytes_sub h.src i e hge hle).ext (ext_box2 w x p)
  have h2 := conv_str (cap - i) h1
  rw [sub_length hle] at h2
  exact h2
theorem OneAt.row {b off cap : Nat} {B : List UInt8} {i : Nat} {c : UInt8} {w : World} (h : OneAt b off cap B i c w) (kd : Int) (p : UInt8 → Bool) (hkd : kd = 1 ∧ p = isWord ∨ kd = 2 ∧ p = isSign ∨ kd = 3 ∧ p = isDigit) (x y : Obj) :
    Calls Tryz.prog 107 #[.slice (some ⟨b, off, none⟩) B.length cap, .int .i64 (i : Int), .int .i64 kd] ((w.alloc x).alloc y) fun e w' => e = .returned (.int .i64 (rowTo p B i : Nat)) ∧ ((w.alloc x).alloc y) = w' :=
  rRow_any _ cap B i kd p _ (h.src.ext (ext_box2 _ _ _)) (by have := h.lt; omega) h.len hkd

set_option maxRecDepth 100000 in
set_option maxHeartbeats 4000000 in
theorem rOne_small (b off cap : Nat) (B : List UInt8) (i : Nat) (c : UInt8) (w : World) (h : OneAt b off cap B i c w) (hk : isSmall c = true) :
    Calls Tryz.prog 71 #[.slice (some ⟨b, off, none⟩) B.length cap, .int .i64 (i : Int)] w fun e w' => e = .returned (oneV i (oneS B i c)) ∧ Ext w w' := by
  have hlt := h.lt
  have hcap := h.cap
  have hB := h.len
  have d0 := h.cells i c h.at_
  have d1 : ∀ o, (w.alloc o).cell? ⟨b, off + i, none⟩ = some (.int .u8 (c.toNat : Int)) := fun o => (ext_box w o).cell d0
  have hci : ¬ cap = i := by omega
  have hsm : smallN c.toNat = true := by rw [← isSmall_nat]; exact hk
  have q46 := u8_ne' (c := c) (n := 46) (z := 46) rfl (by omega) (by rintro rfl; revert hk; decide)
  have hle : rowTo isWord B i ≤ B.length := rowTo_le (by omega)
  have hge := rowTo_ge isWord B i
  have hsl := sub_length (l := B) (i := i) hle
  have hsz := strB_size (sub B i (rowTo isWord B i))
  rw [hsl] at hsz
  have HS := Lib.hid (oneS_small (B := B) (i := i) hk)
  have HR := fun x y => Lib.hid (h.row 1 isWord (by simp) x y)
  have hcv := fun y => h.conv _ hge hle (.cells #[.int .i64 0, .string ⟨#[]⟩, .int .i64 0, .int .i64 0, .bool false] 55) y
  have hce : rowTo isWord B i ≤ cap := by omega
  have hN1 : 64 < (sub B i (rowTo isWord B i)).length → oneS B i c = .error 3 := fun g => HS.out.trans (nameS_long g)
  have hN2 : ¬ 64 < (sub B i (rowTo isWord B i)).length → oneS B i c = .ok (1, sub B i (rowTo isWord B i), 0, rowTo isWord B i) := fun g => HS.out.trans (nameS_ok g)
  generalize rowTo isWord B i = e at *
  have HL := Lib.hid hsl
  generalize hgs : strB (sub B i e) = s at hsz hcv
  have HGS := Lib.hid hgs
  clear hgs hsl hk
  by_cases hlong : 64 < e - i
  · have HN := Lib.hid (hN1 (by rw [HL.out]; exact hlong))
    clear hN1 hN2 HL HS h
    go_enter Tryz.func71, Tryz.ntmps71
    go_wp2_with (first | (go_at_call 88; refine (rSmall_any _ _).mono ?_; rintro e w' ⟨rfl, rfl⟩) | (go_at_call 90; refine (rSign_any _ _).mono ?_; rintro e w' ⟨rfl, rfl⟩) | (go_at_call 89; refine (rWord_any _ _).mono ?_; rintro e w' ⟨rfl, rfl⟩) | (go_at_call 107; refine (HR _ _).out.mono ?_; rintro e w' ⟨rfl, rfl⟩))
    refine bodyPost_ret (v := oneV i (oneS B i c)) ?_ rfl ⟨rfl, ext_box2 _ _ _⟩
    rw [HN.out]
    simp [results, Tryz.results71, go_sem, oneV, tokV_eq, zeroT]
  · have HN := Lib.hid (hN2 (by rw [HL.out]; exact hlong))
    clear hN1 hN2 HL HS h
    go_enter Tryz.func71, Tryz.ntmps71
    go_wp2_with (first | (go_at_call 88; refine (rSmall_any _ _).mono ?_; rintro e w' ⟨rfl, rfl⟩) | (go_at_call 90; refine (rSign_any _ _).mono ?_; rintro e w' ⟨rfl, rfl⟩) | (go_at_call 89; refine (rWord_any _ _).mono ?_; rintro e w' ⟨rfl, rfl⟩) | (go_at_call 107; refine (HR _ _).out.mono ?_; rintro e w' ⟨rfl, rfl⟩))
    refine bodyPost_ret (v := oneV i (oneS B i c)) ?_ rfl ⟨rfl, ext_box2 _ _ _⟩
    rw [HN.out]
    simp [results, Tryz.results71, go_sem, oneV, tokV_eq, HGS.out]

set_option maxRecDepth 100000 in
set_option maxHeartbeats 4000000 in
theorem rOne_sign (b off cap : Nat) (B : List UInt8) (i : Nat) (c : UInt8) (w : World) (h : OneAt b off cap B i c w) (hk : c ≠ 46 ∧ isSign c = true) :
    Calls Tryz.prog 71 #[.slice (some ⟨b, off, none⟩) B.length cap, .int .i64 (i : Int)] w fun e w' => e = .returned (oneV i (oneS B i c)) ∧ Ext w w' := by
  have hlt := h.lt
  have hcap := h.cap
  have hB := h.len
  have d0 := h.cells i c h.at_
  have d1 : ∀ o, (w.alloc o).cell? ⟨b, off + i, none⟩ = some (.int .u8 (c.toNat : Int)) := fun o => (ext_box w o).cell d0
  have hci : ¬ cap = i := by omega
  have q46 := u8_ne' (c := c) (n := 46) (z := 46) rfl (by omega) (hk.1)
  have hnsm : isSmall c = false := by
    have := all_bytes (p := fun c => (!isSign c || !isSmall c) = true) (by decide +kernel) c
    rw [hk.2] at this
    simpa using this
  have hsm : smallN c.toNat = false := by rw [← isSmall_nat]; exact hnsm
  have hsg : hasB signS c = true := hk.2
  clear hnsm
  have hle : rowTo isSign B i ≤ B.length := rowTo_le (by omega)
  have hge := rowTo_ge isSign B i
  have hsl := sub_length (l := B) (i := i) hle
  have hsz := strB_size (sub B i (rowTo isSign B i))
  rw [hsl] at hsz
  have HS := Lib.hid (oneS_sign (B := B) (i := i) (ends_no hk.1) hk.2)
  have HR := fun x y => Lib.hid (h.row 2 isSign (by simp) x y)
  have hcv := fun y => h.conv _ hge hle (.cells #[.int .i64 0, .string ⟨#[]⟩, .int .i64 0, .int .i64 0, .bool false] 55) y
  have hce : rowTo isSign B i ≤ cap := by omega
  have hN1 : 64 < (sub B i (rowTo isSign B i)).length → oneS B i c = .error 3 := fun g => HS.out.trans (nameS_long g)
  have hN2 : ¬ 64 < (sub B i (rowTo isSign B i)).length → oneS B i c = .ok (1, sub B i (rowTo isSign B i), 0, rowTo isSign B i) := fun g => HS.out.trans (nameS_ok g)
  generalize rowTo isSign B i = e at *
  have HL := Lib.hid hsl
  generalize hgs : strB (sub B i e) = s at hsz hcv
  have HGS := Lib.hid hgs
  clear hgs hsl hk
  by_cases hlong : 64 < e - i
  · have HN := Lib.hid (hN1 (by rw [HL.out]; exact hlong))
    clear hN1 hN2 HL HS h
    go_enter Tryz.func71, Tryz.ntmps71
    go_wp2_with (first | (go_at_call 88; refine (rSmall_any _ _).mono ?_; rintro e w' ⟨rfl, rfl⟩) | (go_at_call 90; refine (rSign_any _ _).mono ?_; rintro e w' ⟨rfl, rfl⟩) | (go_at_call 89; refine (rWord_any _ _).mono ?_; rintro e w' ⟨rfl, rfl⟩) | (go_at_call 107; refine (HR _ _).out.mono ?_; rintro e w' ⟨rfl, rfl⟩))
    refine bodyPost_ret (v := oneV i (oneS B i c)) ?_ rfl ⟨rfl, ext_box2 _ _ _⟩
    rw [HN.out]
    simp [results, Tryz.results71, go_sem, oneV, tokV_eq, zeroT]
  · have HN := Lib.hid (hN2 (by rw [HL.out]; exact hlong))
    clear hN1 hN2 HL HS h
    go_enter Tryz.func71, Tryz.ntmps71
    go_wp2_with (first | (go_at_call 88; refine (rSmall_any _ _).mono ?_; rintro e w' ⟨rfl, rfl⟩) | (go_at_call 90; refine (rSign_any _ _).mono ?_; rintro e w' ⟨rfl, rfl⟩) | (go_at_call 89; refine (rWord_any _ _).mono ?_; rintro e w' ⟨rfl, rfl⟩) | (go_at_call 107; refine (HR _ _).out.mono ?_; rintro e w' ⟨rfl, rfl⟩))
    refine bodyPost_ret (v := oneV i (oneS B i c)) ?_ rfl ⟨rfl, ext_box2 _ _ _⟩
    rw [HN.out]
    simp [results, Tryz.results71, go_sem, oneV, tokV_eq, HGS.out]

end Go.Proofs.YtgcdhffeacdegaaGreatDoor

/- Bytes in memory; strings out of bytes. -/
namespace Go.Proofs.YtgcdhffeacdegaaGreatDoor
open Go.RowKit Go.El

theorem own_heap {w : World} {base : Nat} {e : TypeId} {k : Nat} {v : Value} {n : Nat} {xs : List Value} {g : Nat} {t : TypeId} {cs : Array Value} {m : Nat × Nat} (h : w.ownsRow base e k v n xs) (hg : w.heap[g]? = some (.cells cs t m)) (ht : t ≠ e ∨ m ≠ (0, 0)) : g ∉ ownL v := by
  intro hm
  have hb := mem_ownL hm
  rcases h.2 with ⟨rfl, _⟩ | ⟨g', cap, cur, rfl, _, hc, _⟩
  · simp [Value.ownBlock] at hb
  · have e1 : g' = g := by simpa [Value.ownBlock] using hb
    subst e1
    rw [hg] at hc
    injection hc with hc
    injection hc with h1 h2 h3
    rcases ht with ht | ht
    · exact ht h2
    · exact ht h3
end Go.Proofs.YtgcdhffeacdegaaGreatDoor
