/- Layer 8, the program: the walks of code, escape. -/
import Derived.Test.YtmnnhdegoapfcaaGreatDoorC19
import Derived.Test.YtmnnhdegoapfcaaGreatDoorC20
namespace Go.Proofs.YtmnnhdegoapfcaaGreatDoor
open Go.RowKit Go.El

/-- The byte of hex digits ahead of a backslash, and the place behind. -/
def codeS (B : List UInt8) (j : Nat) : Option (UInt8 × Nat) :=
  if B[rowTo isHex B j]? = some 92 ∧ (rowTo isHex B j = j + 1 ∨ rowTo isHex B j = j + 2) then some (UInt8.ofNat (hexN (sub B j (rowTo isHex B j))), rowTo isHex B j + 1) else none
theorem escS_code {B : List UInt8} {i : Nat} (h : B[i]? = some 120) : escS B i = codeS B (i + 1) := by
  unfold escS codeS
  rw [h]
  simp only [show ¬ ((120 : UInt8) = 92 ∨ (120 : UInt8) = 39) from by decide, show ¬ ((120 : UInt8) = 110) from by decide, show ¬ ((120 : UInt8) = 116) from by decide, if_false, if_true]
  have hge := rowTo_ge isHex B (i + 1)
  have hrow : ∀ j, i + 1 ≤ j → j < rowTo isHex B (i + 1) → ∃ c, B[j]? = some c := fun j h1 h2 => by
    have hl : rowTo isHex B (i + 1) ≤ B.length := rowTo_le (by have := (List.getElem?_eq_some_iff.1 h).1; omega)
    exact ⟨B[j], List.getElem?_eq_getElem (by omega)⟩
  by_cases h92 : B[rowTo isHex B (i + 1)]? = some 92
  · rw [if_pos h92]
    by_cases h2 : rowTo isHex B (i + 1) = i + 2
    · obtain ⟨c, hc⟩ := hrow (i + 1) (Nat.le_refl _) (by omega)
      rw [if_pos h2, if_pos ⟨h92, .inl h2⟩, h2, sub_one hc]
      simp [hexN, List.getD, hc]
    · rw [if_neg h2]
      by_cases h3 : rowTo isHex B (i + 1) = i + 3
      · obtain ⟨c, hc⟩ := hrow (i + 1) (Nat.le_refl _) (by omega)
        obtain ⟨d, hd⟩ := hrow (i + 2) (by omega) (by omega)
        have hs : sub B (i + 1) (i + 3) = [c, d] := by
          unfold sub
          rw [drop_cons hc, drop_cons hd]
          simp
        rw [if_pos h3, if_pos ⟨h92, .inr h3⟩, h3, hs]
        simp [hexN, List.getD, hc, hd]
      · rw [if_neg h3, if_neg (fun g => g.2.elim h2 h3)]
  · rw [if_neg h92, if_neg (fun g => h92 g.1)]

abbrev hexS : ByteArray := ⟨#[48, 49, 50, 51, 52, 53, 54, 55, 56, 57, 97, 98, 99, 100, 101, 102]⟩
theorem hex_has (c : UInt8) : hasB hexS c = isHex c := all_bytes (p := fun c => hasB hexS c = isHex c) (by decide +kernel) c
/-- What the walk asks of a string. -/
theorem str_facts {l : List UInt8} {z : ByteArray} (h : strB l = z) : z.size = l.length ∧ (z.toList == ([] : List UInt8)) = decide (l = []) ∧ z.toList.isEmpty = decide (l = []) := by
  subst h
  refine ⟨strB_size l, ?_, ?_⟩
  · rw [ByteArray.toList_eq, strB_toList, Bool.eq_iff_iff]; simp
  · rw [ByteArray.toList_eq, strB_toList, Bool.eq_iff_iff]; simp
theorem sub_nil {B : List UInt8} {j e : Nat} (he : e ≤ B.length) : (sub B j e = []) ↔ e - j = 0 := by
  rw [← List.length_eq_zero_iff, sub_length he]

theorem parse_any (L : List UInt8) (w : World) (h0 : L ≠ []) (h2 : L.length ≤ 2) (hx : ∀ c ∈ L, isHex c = true) :
    Calls Tryz.prog 248 #[.string (strB L), .int .i64 16, .int .i64 8] w fun e w' => e = .returned (.tuple #[.int .u64 (hexN L : Nat), .nilIface]) ∧ Ext w w' := by
  have H := Lib.hid (parse16_any L w h0 h2 hx)
  go_enter Tryz.func248, Tryz.ntmps248
  go_wp2_with (go_at_call 202; refine H.out.mono ?_; rintro e w' ⟨rfl, hx⟩; have HX := Lib.hid hx; clear hx)
  go_ret2
  exact ⟨rfl, HX.out⟩

set_option maxRecDepth 100000 in
set_option maxHeartbeats 4000000 in
theorem code_no (sb b off cap : Nat) (B : List UInt8) (j : Nat) (w : World) (h : ScAt w sb b off cap B j) (hn : codeS B j = none) :
    Calls Tryz.prog 245 #[.pointer (some ⟨sb, 0, none⟩)] w fun e w' => e = .returned (.tuple #[.int .u8 0, .bool false]) ∧ ∃ k, ScIn w w' sb b off cap B k := by
  have hle : rowTo isHex B j ≤ B.length := rowTo_le h.at_
  have hge := rowTo_ge isHex B j
  have HR := Lib.hid (row_any sb b off cap B j hexS isHex hex_has w h)
  obtain ⟨hz, hz2, hz3⟩ := str_facts (l := sub B j (rowTo isHex B j)) rfl
  rw [sub_length hle] at hz
  have hnil := sub_nil (j := j) hle
  generalize hgs : strB (sub B j (rowTo isHex B j)) = z at hz hz2 hz3 HR
  have hpre := pre1 (B := B) (k := rowTo isHex B j) 92
  unfold codeS at hn
  have hcase : rowTo isHex B j - j = 0 ∨ (rowTo isHex B j - j ≠ 0 ∧ 2 < rowTo isHex B j - j) ∨ (rowTo isHex B j - j ≠ 0 ∧ rowTo isHex B j - j ≤ 2 ∧ ¬ B[rowTo isHex B j]? = some 92) := by
    by_cases g0 : rowTo isHex B j - j = 0
    · exact .inl g0
    · by_cases g2 : 2 < rowTo isHex B j - j
      · exact .inr (.inl ⟨g0, g2⟩)
      · refine .inr (.inr ⟨g0, by omega, fun g => ?_⟩)
        rw [if_pos ⟨g, by omega⟩] at hn
        cases hn
  clear hn hgs h
  generalize rowTo isHex B j = e at *
  generalize sub B j e = l at *
  rcases hcase with g | ⟨g0, g⟩ | ⟨g0, g, g92⟩
  · rw [decide_eq_true (hnil.2 g)] at hz2 hz3
    clear hnil hpre
    go_enter Tryz.func245, Tryz.ntmps245
    go_wp2_with (go_at_call 210; refine HR.out.mono ?_; rintro e1 w' ⟨rfl, hy⟩; have HY := Lib.hid hy; clear hy)
    go_ret2
    exact ⟨rfl, _, HY.out⟩
  · rw [decide_eq_false (fun t => g0 (hnil.1 t))] at hz2 hz3
    clear hnil hpre
    go_enter Tryz.func245, Tryz.ntmps245
    go_wp2_with (go_at_call 210; refine HR.out.mono ?_; rintro e1 w' ⟨rfl, hy⟩; have HY := Lib.hid hy; clear hy)
    go_ret2
    exact ⟨rfl, _, HY.out⟩
  · rw [decide_eq_false (fun t => g0 (hnil.1 t))] at hz2 hz3
    rw [decide_eq_false g92] at hpre
    clear hnil
    have hg2 : ¬ 2 < e - j := by omega
    have HP := Lib.hid hpre
    clear hpre
    go_enter Tryz.func245, Tryz.ntmps245
    go_wp2_with (first | (go_at_call 210; refine HR.out.mono ?_; rintro e1 w' ⟨rfl, hy⟩; have HY := Lib.hid hy; clear hy) | (go_at_call 206; refine (starts_is HY.out.sc [92] false HP.out).mono ?_; rintro e1 w2 ⟨rfl, hu⟩; have HU := Lib.hid (HY.out.go hu); clear hu))
    go_ret2
    exact ⟨rfl, _, HU.out⟩

set_option maxRecDepth 100000 in
set_option maxHeartbeats 4000000 in
theorem code_yes (sb b off cap : Nat) (B : List UInt8) (j : Nat) (w : World) (h : ScAt w sb b off cap B j) (x : UInt8) (j' : Nat) (hn : codeS B j = some (x, j')) :
    Calls Tryz.prog 245 #[.pointer (some ⟨sb, 0, none⟩)] w fun e w' => e = .returned (.tuple #[.int .u8 (x.toNat : Int), .bool true]) ∧ ScIn w w' sb b off cap B j' := by
  have hle : rowTo isHex B j ≤ B.length := rowTo_le h.at_
  have hge := rowTo_ge isHex B j
  have HR := Lib.hid (row_any sb b off cap B j hexS isHex hex_has w h)
  obtain ⟨hz, hz2, hz3⟩ := str_facts (l := sub B j (rowTo isHex B j)) rfl
  have hsl := sub_length (i := j) hle
  rw [hsl] at hz
  have hnil := sub_nil (j := j) hle
  have hpre := pre1 (B := B) (k := rowTo isHex B j) 92
  have hlen := h.len
  have hall := sub_row_all isHex B j
  unfold codeS at hn
  have hg : B[rowTo isHex B j]? = some 92 ∧ (rowTo isHex B j = j + 1 ∨ rowTo isHex B j = j + 2) := by
    by_cases g : B[rowTo isHex B j]? = some 92 ∧ (rowTo isHex B j = j + 1 ∨ rowTo isHex B j = j + 2)
    · exact g
    · rw [if_neg g] at hn; cases hn
  rw [if_pos hg] at hn
  injection hn with hn
  injection hn with hn1 hn2
  subst hn1 hn2
  have hlt : rowTo isHex B j < B.length := (List.getElem?_eq_some_iff.1 hg.1).1
  have g0 : rowTo isHex B j - j ≠ 0 := by omega
  have hg2 : ¬ 2 < rowTo isHex B j - j := by omega
  rw [decide_eq_false (fun t => g0 (hnil.1 t))] at hz2 hz3
  rw [decide_eq_true hg.1] at hpre
  have HP := Lib.hid hpre
  have hpar := fun W => Lib.hid (parse_any (sub B j (rowTo isHex B j)) W (fun t => g0 (hnil.1 t)) (by omega) hall)
  have hv : hexN (sub B j (rowTo isHex B j)) < 256 := by
    have hh : ∀ l : List UInt8, l.length ≤ 2 → (∀ c ∈ l, isHex c = true) → hexN l < 256 := by
      intro l hl ha
      rcases l with _ | ⟨a, _ | ⟨d, _ | ⟨f, l⟩⟩⟩
      · simp [hexN]
      · have := hexV_lt a (ha a (by simp)); simp [hexN]; omega
      · have h1 := hexV_lt a (ha a (by simp))
        have h2 := hexV_lt d (ha d (by simp))
        simp [hexN]; omega
      · simp at hl
    exact hh _ (by omega) hall
  have h8 := nat8 hv
  have H8 := Lib.hid h8
  generalize hgs : strB (sub B j (rowTo isHex B j)) = z at hz hz2 hz3 HR hpar
  generalize hexN (sub B j (rowTo isHex B j)) = m at *
  clear hpre hnil hgs h h8 hall hsl
  obtain ⟨hg92, hg12⟩ := hg
  generalize rowTo isHex B j = e at *
  clear hg92
  go_enter Tryz.func245, Tryz.ntmps245
  go_wp2_with (first | (go_at_call 210; refine HR.out.mono ?_; rintro e1 w' ⟨rfl, hy⟩; have HY := Lib.hid hy; clear hy) | (go_at_call 206; refine (starts_is HY.out.sc [92] true HP.out).mono ?_; rintro e1 w2 ⟨rfl, hu⟩; have HU := Lib.hid (HY.out.go hu); have d2 := HU.out.sc.c1; have f2 := HU.out.sc.frozen; clear hu) | (go_at_call 248; refine (hpar _).out.mono ?_; rintro e1 w3 ⟨rfl, ht⟩; have HT := Lib.hid ((HU.out.to (j := e + 1) (v := (e : Int) + 1) hlt (by omega)).go ht); clear ht))
  go_ret2
  refine ⟨?_, HT.out⟩
  rw [H8.out]
  go_num

end Go.Proofs.YtmnnhdegoapfcaaGreatDoor
