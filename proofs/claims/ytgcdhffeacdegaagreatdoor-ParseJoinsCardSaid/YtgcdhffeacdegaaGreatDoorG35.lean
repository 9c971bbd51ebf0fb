/- Layer 8, the program: the library's ParseUint of one or two hex digits. -/
import Derived.Test.YtgcdhffeacdegaaGreatDoorG04
import Derived.Test.YtgcdhffeacdegaaGreatDoorG18
import Derived.Test.YtgcdhffeacdegaaGreatDoorG08
import Derived.Test.YtgcdhffeacdegaaGreatDoorG34
namespace Go.Proofs.YtgcdhffeacdegaaGreatDoor
open Go.RowKit Go.El

/-- What hex digits say. -/
def hexN (l : List UInt8) : Nat := l.foldl (fun n c => 16 * n + hexV c) 0
theorem hexN_step (l : List UInt8) (c : UInt8) : hexN (l ++ [c]) = 16 * hexN l + hexV c := by simp [hexN, List.foldl_append]
theorem low_same (c : UInt8) (h : 97 ≤ c.toNat ∧ c.toNat ≤ 102) : bits .or .u8 (c.toNat : Int) 32 = (c.toNat : Int) := by
  have := all_bytes (p := fun c => (!decide (97 ≤ c.toNat ∧ c.toNat ≤ 102) || decide (bits .or .u8 (c.toNat : Int) 32 = (c.toNat : Int))) = true) (by decide +kernel) c
  simpa [h] using this
theorem hexV_digit (c : UInt8) (h : 48 ≤ c.toNat ∧ c.toNat ≤ 57) : hexV c = c.toNat - 48 := by
  have := all_bytes (p := fun c => (!decide (48 ≤ c.toNat ∧ c.toNat ≤ 57) || decide (hexV c = c.toNat - 48)) = true) (by decide +kernel) c
  simpa [h] using this
theorem hexV_letter (c : UInt8) (h : 97 ≤ c.toNat ∧ c.toNat ≤ 102) : hexV c = c.toNat - 87 := by
  have := all_bytes (p := fun c => (!decide (97 ≤ c.toNat ∧ c.toNat ≤ 102) || decide (hexV c = c.toNat - 87)) = true) (by decide +kernel) c
  simpa [h] using this
theorem low_any (c : UInt8) (h : 97 ≤ c.toNat ∧ c.toNat ≤ 102) (w : World) : Calls Tryz.prog 210 #[.int .u8 (c.toNat : Int)] w fun e w' => e = .returned (.int .u8 (c.toNat : Int)) ∧ w = w' := by
  have := Tryz.internal_strconv_lower (c.toNat : Int) w
  rw [low_same c h] at this
  refine this.mono ?_
  rintro e w' ⟨rfl, rfl⟩
  exact ⟨rfl, rfl⟩

set_option maxRecDepth 100000 in
set_option maxHeartbeats 4000000 in
theorem parse16_any (L : List UInt8) (w : World) (h0 : L ≠ []) (h2 : L.length ≤ 2) (hx : ∀ c ∈ L, isHex c = true) :
    Calls Tryz.prog 197 #[.string (strB L), .int .i64 16, .int .i64 8] w fun e w' => e = .returned (.tuple #[.int .u64 (hexN L : Nat), .nilIface]) ∧ Ext w w' := by
  have hcv := fun W : World => Lib.run_convert_string_bytes (P := Tryz.prog) W 9 23 5 (strB L) Tryz.underlying9 Tryz.underlying23 Tryz.underlying5
  have hsz := strB_size L
  have hne : ((strB L).toList == ([] : List UInt8)) = false := by
    rw [ByteArray.toList_eq, strB_toList]
    simpa using h0
  have hne2 : (strB L).toList.isEmpty = false := by
    rw [ByteArray.toList_eq, strB_toList]
    simpa using h0
  have hcells : ∀ k c, L[k]? = some c → (Lib.bytesWorld w 5 (strB L)).cell? ⟨w.heap.size, k, none⟩ = some (.int .u8 (c.toNat : Int)) := fun k c hk => by
    have hlt := (List.getElem?_eq_some_iff.1 hk).1
    rw [Lib.bytesWorld_cell w _ _ k (by rw [hsz]; exact hlt), strB_toList]
    simp [List.getD, hk]
  have hxw : Ext w (Lib.bytesWorld w 5 (strB L)) := ext_bytes _ _ _
  generalize hgs : strB L = s at *
  have HX := Lib.hid hx
  have HC := Lib.hid hcells
  have HCV := Lib.hid (hcv w)
  have hcv1 := hcv w
  clear hx hcells hcv hgs h0
  go_enter Tryz.func197, Tryz.ntmps197
  go_wp2_with fail
  go_loop [12, 13, 101] (fun u n i => ∃ k : Nat, k ≤ L.length ∧ u = .bool false ∧ i = .int .i64 k ∧ n = .int .u64 (hexN (L.take k) : Nat) ∧ hexN (L.take k) < 16 ^ k) (fun _ _ i => L.length - (intOf i).toNat)
  case atStart => exact ⟨0, Nat.zero_le _, rfl, rfl, by simp [hexN], by simp [hexN]⟩
  case round =>
    obtain ⟨k, hk, rfl, rfl, rfl, hn⟩ := hrel
    by_cases hlt : k < L.length
    · have ho : L[k]? = some L[k] := List.getElem?_eq_getElem hlt
      have hh := HX.out L[k] (List.getElem_mem hlt)
      generalize L[k] = c at ho hh
      have d0 := HC.out k c ho
      have hst : hexN (L.take (k + 1)) = 16 * hexN (L.take k) + hexV c := by
        rw [List.take_add_one, ho]
        exact hexN_step _ _
      have hn16 : hexN (L.take k) < 16 := Nat.lt_of_lt_of_le hn (by
        have : k = 0 ∨ k = 1 := by omega
        rcases this with rfl | rfl <;> decide)
      have hv16 := hexV_lt c hh
      have hpow : hexN (L.take (k + 1)) < 16 ^ (k + 1) := by rw [hst, Nat.pow_succ]; omega
      have HST := Lib.hid hst
      have HPW := Lib.hid hpow
      have hcd : (48 ≤ c.toNat ∧ c.toNat ≤ 57) ∨ (97 ≤ c.toNat ∧ c.toNat ≤ 102) := by
        have := isHex_nat c
        rw [hh] at this
        simpa using this
      clear hst hpow hn ho hh
      generalize hexN (L.take k) = n at *
      rcases hcd with ⟨h1, h2⟩ | ⟨h1, h2⟩
      · have hv := hexV_digit c ⟨h1, h2⟩
        have q95 := u8_ne' (c := c) (n := 95) (z := 95) rfl (by omega) (by rintro rfl; revert h2; decide)
        have hd1 : ((c.toNat : Int) - 48) = ((hexV c : Nat) : Int) := by omega
        generalize hexV c = d at *
        clear hv
        go_upto_region 46 with fail
        clear h1 h2 hd1 q95
        have hcut : decide ((1152921504606846976 : Int) ≤ (n : Int)) = false := decide_eq_false (by omega)
        have hcut2 : ¬ (1152921504606846976 : Int) ≤ (n : Int) := by omega
        go_wp2_with fail
        go_round
        case rel => exact ⟨k + 1, hlt, rfl, by go_num, by rw [HST.out]; go_num, HPW.out⟩
        case measure => simp [intOf]; omega
      · have hv := hexV_letter c ⟨h1, h2⟩
        have q95 := u8_ne' (c := c) (n := 95) (z := 95) rfl (by omega) (by rintro rfl; revert h1; decide)
        have hd1 : ((c.toNat : Int) - 97 + 10) = ((hexV c : Nat) : Int) := by omega
        have hw1 : IntKind.u8.wrap ((c.toNat : Int) - 97) = (c.toNat : Int) - 97 := IntWalk.u8_in _ (by omega)
        have hw2 : IntKind.u8.wrap ((c.toNat : Int) - 97 + 10) = (c.toNat : Int) - 97 + 10 := IntWalk.u8_in _ (by omega)
        have hlow := fun W => Lib.hid (low_any c ⟨h1, h2⟩ W)
        generalize hexV c = d at *
        clear hv
        have h122 : c.toNat ≤ 122 := by omega
        go_upto_region 46 with (go_at_call 210; refine (hlow _).out.mono ?_; rintro e w' ⟨rfl, rfl⟩)
        clear h122 h1 h2 hd1 hw1 hw2 q95 hlow
        have hcut : decide ((1152921504606846976 : Int) ≤ (n : Int)) = false := decide_eq_false (by omega)
        have hcut2 : ¬ (1152921504606846976 : Int) ≤ (n : Int) := by omega
        go_wp2_with fail
        go_round
        case rel => exact ⟨k + 1, hlt, rfl, by go_num, by rw [HST.out]; go_num, HPW.out⟩
        case measure => simp [intOf]; omega
    · obtain rfl : k = L.length := by omega
      rw [List.take_length] at hn ⊢
      go_wp2_with fail
      go_ret2
      exact ⟨rfl, hxw⟩

end Go.Proofs.YtgcdhffeacdegaaGreatDoor

/- Layer 8, the program: the walks of code, escape. -/
namespace Go.Proofs.YtgcdhffeacdegaaGreatDoor
open Go.RowKit Go.El

/-- The byte of hex digits ahead of a backslash, and the place behind. -/
def codeS (B : List UInt8) (j : Nat) : Option (UInt8 × Nat) :=
  if B[rowTo isHex B j]? = some 92 ∧ (rowTo isHex B j = j + 1 ∨ rowTo isHex B j = j + 2) then some (UInt8.ofNat (hexN (sub B j (rowTo isHex B j))), rowTo isHex B j + 1) else none
theorem escS_code {B : List UInt8} {i : Nat} (h : B[i]? = some 120) : escS B i = codeS B (i + 1) := by
  unfold escS codeS
  rw [h]
  simp only [show ¬ ((120 : UInt8) = 92 ∨ (120 : UInt8) = 39) from by decide, show ¬ ((120 : UInt8) = 110) from by decide, show ¬ ((120 : UInt8) = 116) from by decide, if_false, if_true]
  have hge := rowTo_ge isHex B (i + 1)
  have hrow : ∀ j, i + 1 ≤ j → j < rowTo isHex B (i + 1) → ∃ c, B[j]? = some c := fun j h1 h2 => by
    have hl : rowTo isHex B (i + 1) ≤ B.length := rowTo_le (by have := (List.getElem?_eq_some_iff.1 h).1; omega)
    exact ⟨B[j], List.getElem?_eq_getElem (by omega)⟩
  by_cases h92 : B[rowTo isHex B (i + 1)]? = some 92
  · rw [if_pos h92]
    by_cases h2 : rowTo isHex B (i + 1) = i + 2
    · obtain ⟨c, hc⟩ := hrow (i + 1) (Nat.le_refl _) (by omega)
      rw [if_pos h2, if_pos ⟨h92, .inl h2⟩, h2, sub_one hc]
      simp [hexN, List.getD, hc]
    · rw [if_neg h2]
      by_cases h3 : rowTo isHex B (i + 1) = i + 3
      · obtain ⟨c, hc⟩ := hrow (i + 1) (Nat.le_refl _) (by omega)
        obtain ⟨d, hd⟩ := hrow (i + 2) (by omega) (by omega)
        have hs : sub B (i + 1) (i + 3) = [c, d] := by
          unfold sub
          rw [drop_cons hc, drop_cons hd]
          simp
        rw [if_pos h3, if_pos ⟨h92, .inr h3⟩, h3, hs]
        simp [hexN, List.getD, hc, hd]
      · rw [if_neg h3, if_neg (fun g => g.2.elim h2 h3)]
  · rw [if_neg h92, if_neg (fun g => h92 g.1)]

abbrev hexS : ByteArray := ⟨#[48, 49, 50, 51, 52, 53, 54, 55, 56, 57, 97, 98, 99, 100, 101, 102]⟩
theorem hex_has (c : UInt8) : hasB hexS c = isHex c := all_bytes (p := fun c => hasB hexS c = isHex c) (by decide +kernel) c
/-- What the walk asks of a string. -/
theorem str_facts {l : List UInt8} {z : ByteArray} (h : strB l = z) : z.size = l.length ∧ (z.toList == ([] : List UInt8)) = decide (l = []) ∧ z.toList.isEmpty = decide (l = []) := by
  subst h
  refine ⟨strB_size l, ?_, ?_⟩
  · rw [ByteArray.toList_eq, strB_toList, Bool.eq_iff_iff]; simp
  · rw [ByteArray.toList_eq, strB_toList, Bool.eq_iff_iff]; simp
theorem sub_nil {B : List UInt8} {j e : Nat} (he : e ≤ B.length) : (sub B j e = []) ↔ e - j = 0 := by
  rw [← List.length_eq_zero_iff, sub_length he]

theorem parse_any (L : List UInt8) (w : World) (h0 : L ≠ []) (h2 : L.length ≤ 2) (hx : ∀ c ∈ L, isHex c = true) :
    Calls Tryz.prog 202 #[.string (strB L), .int .i64 16, .int .i64 8] w fun e w' => e = .returned (.tuple #[.int .u64 (hexN L : Nat), .nilIface]) ∧ Ext w w' := by
  have H := Lib.hid (parse16_any L w h0 h2 hx)
  go_enter Tryz.func202, Tryz.ntmps202
  go_wp2_with (go_at_call 197; refine H.out.mono ?_; rintro e w' ⟨rfl, hx⟩; have HX := Lib.hid hx; clear hx)
  go_ret2
  exact ⟨rfl, HX.out⟩

set_option maxRecDepth 100000 in
set_option maxHeartbeats 4000000 in
theorem code_no (sb b off cap : Nat) (B : List UInt8) (j : Nat) (w : World) (h : ScAt w sb b off cap B j) (hn : codeS B j = none) :
    Calls Tryz.prog 186 #[.pointer (some ⟨sb, 0, none⟩)] w fun e w' => e = .returned (.tuple #[.int .u8 0, .bool false]) ∧ ∃ k, ScIn w w' sb b off cap B k := by
  have hle : rowTo isHex B j ≤ B.length := rowTo_le h.at_
  have hge := rowTo_ge isHex B j
  have HR := Lib.hid (row_any sb b off cap B j hexS isHex hex_has w h)
  obtain ⟨hz, hz2, hz3⟩ := str_facts (l := sub B j (rowTo isHex B j)) rfl
  rw [sub_length hle] at hz
  have hnil := sub_nil (j := j) hle
  generalize hgs : strB (sub B j (rowTo isHex B j)) = z at hz hz2 hz3 HR
  have hpre := pre1 (B := B) (k := rowTo isHex B j) 92
  unfold codeS at hn
  have hcase : rowTo isHex B j - j = 0 ∨ (rowTo isHex B j - j ≠ 0 ∧ 2 < rowTo isHex B j - j) ∨ (rowTo isHex B j - j ≠ 0 ∧ rowTo isHex B j - j ≤ 2 ∧ ¬ B[rowTo isHex B j]? = some 92) := by
    by_cases g0 : rowTo isHex B j - j = 0
    · exact .inl g0
    · by_cases g2 : 2 < rowTo isHex B j - j
      · exact .inr (.inl ⟨g0, g2⟩)
      · refine .inr (.inr ⟨g0, by omega, fun g => ?_⟩)
        rw [if_pos ⟨g, by omega⟩] at hn
        cases hn
  clear hn hgs h
  generalize rowTo isHex B j = e at *
  generalize sub B j e = l at *
  rcases hcase with g | ⟨g0, g⟩ | ⟨g0, g, g92⟩
  · rw [decide_eq_true (hnil.2 g)] at hz2 hz3
    clear hnil hpre
    go_enter Tryz.func186, Tryz.ntmps186
    go_wp2_with (go_at_call 133; refine HR.out.mono ?_; rintro e1 w' ⟨rfl, hy⟩; have HY := Lib.hid hy; clear hy)
    go_ret2
    exact ⟨rfl, _, HY.out⟩
  · rw [decide_eq_false (fun t => g0 (hnil.1 t))] at hz2 hz3
    clear hnil hpre
    go_enter Tryz.func186, Tryz.ntmps186
    go_wp2_with (go_at_call 133; refine HR.out.mono ?_; rintro e1 w' ⟨rfl, hy⟩; have HY := Lib.hid hy; clear hy)
    go_ret2
    exact ⟨rfl, _, HY.out⟩
  · rw [decide_eq_false (fun t => g0 (hnil.1 t))] at hz2 hz3
    rw [decide_eq_false g92] at hpre
    clear hnil
    have hg2 : ¬ 2 < e - j := by omega
    have HP := Lib.hid hpre
    clear hpre
    go_enter Tryz.func186, Tryz.ntmps186
    go_wp2_with (first | (go_at_call 133; refine HR.out.mono ?_; rintro e1 w' ⟨rfl, hy⟩; have HY := Lib.hid hy; clear hy) | (go_at_call 129; refine (starts_is HY.out.sc [92] false HP.out).mono ?_; rintro e1 w2 ⟨rfl, hu⟩; have HU := Lib.hid (HY.out.go hu); clear hu))
    go_ret2
    exact ⟨rfl, _, HU.out⟩

set_option maxRecDepth 100000 in
set_option maxHeartbeats 4000000 in
theorem code_yes (sb b off cap : Nat) (B : List UInt8) (j : Nat) (w : World) (h : ScAt w sb b off cap B j) (x : UInt8) (j' : Nat) (hn : codeS B j = some (x, j')) :
    Calls Tryz.prog 186 #[.pointer (some ⟨sb, 0, none⟩)] w fun e w' => e = .returned (.tuple #[.int .u8 (x.toNat : Int), .bool true]) ∧ ScIn w w' sb b off cap B j' := by
  have hle : rowTo isHex B j ≤ B.length := rowTo_le h.at_
  have hge := rowTo_ge isHex B j
  have HR := Lib.hid (row_any sb b off cap B j hexS isHex hex_has w h)
  obtain ⟨hz, hz2, hz3⟩ := str_facts (l := sub B j (rowTo isHex B j)) rfl
  have hsl := sub_length (i := j) hle
  rw [hsl] at hz
  have hnil := sub_nil (j := j) hle
  have hpre := pre1 (B := B) (k := rowTo isHex B j) 92
  have hlen := h.len
  have hall := sub_row_all isHex B j
  unfold codeS at hn
  have hg : B[rowTo isHex B j]? = some 92 ∧ (rowTo isHex B j = j + 1 ∨ rowTo isHex B j = j + 2) := by
    by_cases g : B[rowTo isHex B j]? = some 92 ∧ (rowTo isHex B j = j + 1 ∨ rowTo isHex B j = j + 2)
    · exact g
    · rw [if_neg g] at hn; cases hn
  rw [if_pos hg] at hn
  injection hn with hn
  injection hn with hn1 hn2
  subst hn1 hn2
  have hlt : rowTo isHex B j < B.length := (List.getElem?_eq_some_iff.1 hg.1).1
  have g0 : rowTo isHex B j - j ≠ 0 := by omega
  have hg2 : ¬ 2 < rowTo isHex B j - j := by omega
  rw [decide_eq_false (fun t => g0 (hnil.1 t))] at hz2 hz3
  rw [decide_eq_true hg.1] at hpre
  have HP := Lib.hid hpre
  have hpar := fun W => Lib.hid (parse_any (sub B j (rowTo isHex B j)) W (fun t => g0 (hnil.1 t)) (by omega) hall)
  have hv : hexN (sub B j (rowTo isHex B j)) < 256 := by
    have hh : ∀ l : List UInt8, l.length ≤ 2 → (∀ c ∈ l, isHex c = true) → hexN l < 256 := by
      intro l hl ha
      rcases l with _ | ⟨a, _ | ⟨d, _ | ⟨f, l⟩⟩⟩
      · simp [hexN]
      · have := hexV_lt a (ha a (by simp)); simp [hexN]; omega
      · have h1 := hexV_lt a (ha a (by simp))
        have h2 := hexV_lt d (ha d (by simp))
        simp [hexN]; omega
      · simp at hl
    exact hh _ (by omega) hall
  have h8 := nat8 hv
  have H8 := Lib.hid h8
  generalize hgs : strB (sub B j (rowTo isHex B j)) = z at hz hz2 hz3 HR hpar
  generalize hexN (sub B j (rowTo isHex B j)) = m at *
  clear hpre hnil hgs h h8 hall hsl
  obtain ⟨hg92, hg12⟩ := hg
  generalize rowTo isHex B j = e at *
  clear hg92
  go_enter Tryz.func186, Tryz.ntmps186
  go_wp2_with (first | (go_at_call 133; refine HR.out.mono ?_; rintro e1 w' ⟨rfl, hy⟩; have HY := Lib.hid hy; clear hy) | (go_at_call 129; refine (starts_is HY.out.sc [92] true HP.out).mono ?_; rintro e1 w2 ⟨rfl, hu⟩; have HU := Lib.hid (HY.out.go hu); have d2 := HU.out.sc.c1; have f2 := HU.out.sc.frozen; clear hu) | (go_at_call 202; refine (hpar _).out.mono ?_; rintro e1 w3 ⟨rfl, ht⟩; have HT := Lib.hid ((HU.out.to (j := e + 1) (v := (e : Int) + 1) hlt (by omega)).go ht); clear ht))
  go_ret2
  refine ⟨?_, HT.out⟩
  rw [H8.out]
  go_num

end Go.Proofs.YtgcdhffeacdegaaGreatDoor

/- Layer 8, the program: the walk of escape. -/
namespace Go.Proofs.YtgcdhffeacdegaaGreatDoor
open Go.RowKit Go.El

/-- What escape hands back. -/
def escPV : Option (UInt8 × Nat) → Value
  | none => .tuple #[.int .u8 0, .bool false]
  | some (x, _) => .tuple #[.int .u8 (x.toNat : Int), .bool true]
/-- Where escape leaves the scanner. -/
def EscAt (w w' : World) (sb b off cap : Nat) (B : List UInt8) : Option (UInt8 × Nat) → Prop
  | none => ∃ k, ScIn w w' sb b off cap B k
  | some (_, j) => ScIn w w' sb b off cap B j
theorem code_any (sb b off cap : Nat) (B : List UInt8) (j : Nat) (w : World) (h : ScAt w sb b off cap B j) :
    Calls Tryz.prog 186 #[.pointer (some ⟨sb, 0, none⟩)] w fun e w' => e = .returned (escPV (codeS B j)) ∧ EscAt w w' sb b off cap B (codeS B j) := by
  cases hn : codeS B j with
  | none => exact code_no sb b off cap B j w h hn
  | some p => exact code_yes sb b off cap B j w h p.1 p.2 hn

theorem EscAt.then {w V w' : World} {sb b off cap : Nat} {B : List UInt8} {k : Nat} {r : Option (UInt8 × Nat)} (h : ScIn w V sb b off cap B k) (g : EscAt V w' sb b off cap B r) : EscAt w w' sb b off cap B r := by
  cases r with
  | none => obtain ⟨j, hj⟩ := g; exact ⟨j, h.then hj⟩
  | some p => exact ScIn.then h g

set_option maxRecDepth 100000 in
set_option maxHeartbeats 4000000 in
theorem escape_any (sb b off cap : Nat) (B : List UInt8) (i : Nat) (w : World) (h : ScAt w sb b off cap B i) :
    Calls Tryz.prog 167 #[.pointer (some ⟨sb, 0, none⟩)] w fun e w' => e = .returned (escPV (escS B i)) ∧ EscAt w w' sb b off cap B (escS B i) := by
  have d1 := h.c0
  have d2 := h.c1
  have hat := h.at_
  have hcp := h.cap
  have hlen := h.len
  have HS := Lib.hid (ScIn.start h)
  clear h
  by_cases hlt : i < B.length
  · have ho : B[i]? = some B[i] := List.getElem?_eq_getElem hlt
    generalize B[i] = c at ho
    have d0 := HS.out.sc.cells ho
    have hck : ¬ cap = i := by omega
    have HO := Lib.hid ho
    go_enter Tryz.func167, Tryz.ntmps167
    go_upto_region 1 with fail
    go_quiet (fail)
    go_upto_region 3 with fail
    refine wp_abs (fun V => ScIn w V sb b off cap B i) (HS.out.drewN _) ?_
    clear d0 d1 d2 HS
    rintro V hV
    have d1 := hV.sc.c0
    have d2 := hV.sc.c1
    have d0 := hV.sc.cells ho
    have HS := Lib.hid hV
    clear hV
    go_quiet (fail)
    go_upto_region 4 with fail
    refine wp_abs (fun V => ScIn w V sb b off cap B i) (HS.out.drewN _) ?_
    clear d0 d1 d2 HS
    rintro U hU
    have d1 := hU.sc.c0
    have d2 := hU.sc.c1
    have f2 := hU.sc.frozen
    have HS := Lib.hid (hU.to (j := i + 1) (v := (i : Int) + 1) hlt (by omega))
    clear hU
    by_cases h110 : c = 110
    · have q1 : ((c.toNat : Int) == (110 : Int)) = true := by rw [h110]; rfl
      have HN := Lib.hid (show escS B i = some (10, i + 1) from by subst h110; exact escS_n HO.out)
      clear ho h110
      go_wp2_with fail
      go_ret2
      refine ⟨?_, ?_⟩
      · rw [HN.out]; rfl
      · rw [HN.out]; exact HS.out
    have q1 := u8_ne' (c := c) (n := 110) (z := 110) rfl (by omega) h110
    by_cases h116 : c = 116
    · have q2 : ((c.toNat : Int) == (116 : Int)) = true := by rw [h116]; rfl
      have HN := Lib.hid (show escS B i = some (9, i + 1) from by subst h116; exact escS_t HO.out)
      clear ho h116 h110
      go_wp2_with fail
      go_ret2
      refine ⟨?_, ?_⟩
      · rw [HN.out]; rfl
      · rw [HN.out]; exact HS.out
    have q2 := u8_ne' (c := c) (n := 116) (z := 116) rfl (by omega) h116
    by_cases h120 : c = 120
    · have q3 : ((c.toNat : Int) == (120 : Int)) = true := by rw [h120]; rfl
      have HN := Lib.hid (show escS B i = codeS B (i + 1) from by subst h120; exact escS_code HO.out)
      have HC := Lib.hid (code_any sb b off cap B (i + 1) _ HS.out.sc)
      cases hcd : codeS B (i + 1) with
      | none =>
        rw [hcd] at HN HC
        clear ho h110 h116 h120 hcd
        go_wp2_with (go_at_call 186; refine HC.out.mono ?_; simp only [escPV]; rintro e1 w3 ⟨rfl, ht⟩; have HT := Lib.hid (EscAt.then HS.out ht); clear ht)
        go_ret2
        exact ⟨by rw [HN.out]; rfl, by rw [HN.out]; exact HT.out⟩
      | some p =>
        obtain ⟨x, j⟩ := p
        rw [hcd] at HN HC
        clear ho h110 h116 h120 hcd
        go_wp2_with (go_at_call 186; refine HC.out.mono ?_; simp only [escPV]; rintro e1 w3 ⟨rfl, ht⟩; have HT := Lib.hid (EscAt.then HS.out ht); clear ht)
        go_ret2
        exact ⟨by rw [HN.out]; rfl, by rw [HN.out]; exact HT.out⟩
    have q3 := u8_ne' (c := c) (n := 120) (z := 120) rfl (by omega) h120
    by_cases h92 : c = 92
    · have q4 : ((c.toNat : Int) == (92 : Int)) = true := by rw [h92]; rfl
      have HN := Lib.hid (escS_self HO.out (.inl h92))
      clear ho h116 h110 h120 h92
      go_wp2_with fail
      go_ret2
      refine ⟨?_, ?_⟩
      · rw [HN.out]; rfl
      · rw [HN.out]; exact HS.out
    have q4 := u8_ne' (c := c) (n := 92) (z := 92) rfl (by omega) h92
    by_cases h39 : c = 39
    · have q5 : ((c.toNat : Int) == (39 : Int)) = true := by rw [h39]; rfl
      have HN := Lib.hid (escS_self HO.out (.inr h39))
      clear ho h116 h110 h120 h92 h39
      go_wp2_with fail
      go_ret2
      refine ⟨?_, ?_⟩
      · rw [HN.out]; rfl
      · rw [HN.out]; exact HS.out
    have q5 := u8_ne' (c := c) (n := 39) (z := 39) rfl (by omega) h39
    have HN := Lib.hid (escS_no HO.out h92 h39 h110 h116 h120)
    clear ho h116 h110 h120 h92 h39
    go_wp2_with fail
    go_ret2
    exact ⟨by rw [HN.out]; rfl, by rw [HN.out]; exact ⟨_, HS.out⟩⟩
  · have hi : i = B.length := by omega
    have HN := Lib.hid (escS_end (List.getElem?_eq_none (l := B) (i := i) (by omega)))
    subst hi
    go_enter Tryz.func167, Tryz.ntmps167
    go_upto_region 1 with fail
    go_quiet (fail)
    go_wp2_with fail
    go_ret2
    exact ⟨by rw [HN.out]; rfl, by rw [HN.out]; exact ⟨_, HS.out.drewN _⟩⟩

end Go.Proofs.YtgcdhffeacdegaaGreatDoor
