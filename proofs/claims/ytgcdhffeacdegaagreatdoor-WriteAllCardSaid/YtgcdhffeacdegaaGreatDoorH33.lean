/- Layer 8, the program: the library's ParseUint of one or two hex digits. -/
import Derived.Test.YtgcdhffeacdegaaGreatDoorH04
import Derived.Test.YtgcdhffeacdegaaGreatDoorH13
import Derived.Test.YtgcdhffeacdegaaGreatDoorH05
import Derived.Test.YtgcdhffeacdegaaGreatDoorH32
import Derived.Test.YtgcdhffeacdegaaGreatDoorH06
namespace Go.Proofs.YtgcdhffeacdegaaGreatDoor
open Go.RowKit Go.El
def hexN (l : List UInt8) : Nat := l.foldl (fun n c => 16 * n + hexV c) 0
theorem hexN_step (l : List UInt8) (c : UInt8) : hexN (l ++ [c]) = 16 * hexN l + hexV c := by simp [hexN, List.foldl_append]
theorem low_same (c : UInt8) (h : 97 ≤ c.toNat ∧ c.toNat ≤ 102) : bits .or .u8 (c.toNat : Int) 32 = (c.toNat : Int) := by
 have := all_bytes (p := fun c => (!decide (97 ≤ c.toNat ∧ c.toNat ≤ 102) || decide (bits .or .u8 (c.toNat : Int) 32 = (c.toNat : Int))) = true) (by decide +kernel) c
 simpa [h] using this
theorem hexV_digit (c : UInt8) (h : 48 ≤ c.toNat ∧ c.toNat ≤ 57) : hexV c = c.toNat - 48 := by
 have := all_bytes (p := fun c => (!decide (48 ≤ c.toNat ∧ c.toNat ≤ 57) || decide (hexV c = c.toNat - 48)) = true) (by decide +kernel) c
 simpa [h] using this
theorem hexV_letter (c : UInt8) (h : 97 ≤ c.toNat ∧ c.toNat ≤ 102) : hexV c = c.toNat - 87 := by
 have := all_bytes (p := fun c => (!decide (97 ≤ c.toNat ∧ c.toNat ≤ 102) || decide (hexV c = c.toNat - 87)) = true) (by decide +kernel) c
 simpa [h] using this
theorem low_any (c : UInt8) (h : 97 ≤ c.toNat ∧ c.toNat ≤ 102) (w : World) : Calls Tryz.prog 210 #[.int .u8 (c.toNat : Int)] w fun e w' => e = .returned (.int .u8 (c.toNat : Int)) ∧ w = w' := by
 have := Tryz.internal_strconv_lower (c.toNat : Int) w
 rw [low_same c h] at this
 refine this.mono ?_
 rintro e w' ⟨rfl, rfl⟩
 exact ⟨rfl, rfl⟩
set_option maxRecDepth 100000 in
set_option maxHeartbeats 4000000 in
theorem parse16_any (L : List UInt8) (w : World) (h0 : L ≠ []) (h2 : L.length ≤ 2) (hx : ∀ c ∈ L, isHex c = true) :
  Calls Tryz.prog 197 #[.string (strB L), .int .i64 16, .int .i64 8] w fun e w' => e = .returned (.tuple #[.int .u64 (hexN L : Nat), .nilIface]) ∧ Ext w w' := by
 have hcv := fun W : World => Lib.run_convert_string_bytes (P := Tryz.prog) W 9 23 5 (strB L) Tryz.underlying9 Tryz.underlying23 Tryz.underlying5
 have hsz := strB_size L
 have hne : ((strB L).toList == ([] : List UInt8)) = false := by
  rw [ByteArray.toList_eq, strB_toList]
  simpa using h0
 have hne2 : (strB L).toList.isEmpty = false := by
  rw [ByteArray.toList_eq, strB_toList]
  simpa using h0
 have hcells : ∀ k c, L[k]? = some c → (Lib.bytesWorld w 5 (strB L)).cell? ⟨w.heap.size, k, none⟩ = some (.int .u8 (c.toNat : Int)) := fun k c hk => by
  have hlt := (List.getElem?_eq_some_iff.1 hk).1
  rw [Lib.bytesWorld_cell w _ _ k (by rw [hsz]; exact hlt), strB_toList]
  simp [List.getD, hk]
 have hxw : Ext w (Lib.bytesWorld w 5 (strB L)) := ext_bytes _ _ _
 generalize hgs : strB L = s at *
 have HX := Lib.hid hx
 have HC := Lib.hid hcells
 have HCV := Lib.hid (hcv w)
 have hcv1 := hcv w
 clear hx hcells hcv hgs h0
 go_enter Tryz.func197, Tryz.ntmps197
 go_wp2_with fail
 go_loop [12, 13, 101] (fun u n i => ∃ k : Nat, k ≤ L.length ∧ u = .bool false ∧ i = .int .i64 k ∧ n = .int .u64 (hexN (L.take k) : Nat) ∧ hexN (L.take k) < 16 ^ k) (fun _ _ i => L.length - (intOf i).toNat)
 case atStart => exact ⟨0, Nat.zero_le _, rfl, rfl, by simp [hexN], by simp [hexN]⟩
 case round =>
  obtain ⟨k, hk, rfl, rfl, rfl, hn⟩ := hrel
  by_cases hlt : k < L.length
  ·have ho : L[k]? = some L[k] := List.getElem?_eq_getElem hlt
   have hh := HX.out L[k] (List.getElem_mem hlt)
   generalize L[k] = c at ho hh
   have d0 := HC.out k c ho
   have hst : hexN (L.take (k + 1)) = 16 * hexN (L.take k) + hexV c := by
    rw [List.take_add_one, ho]
    exact hexN_step _ _
   have hn16 : hexN (L.take k) < 16 := Nat.lt_of_lt_of_le hn (by
    have : k = 0 ∨ k = 1 := by omega
    rcases this with rfl | rfl <;> decide)
   have hv16 := hexV_lt c hh
   have hpow : hexN (L.take (k + 1)) < 16 ^ (k + 1) := by rw [hst, Nat.pow_succ]; omega
   have HST := Lib.hid hst
   have HPW := Lib.hid hpow
   have hcd : (48 ≤ c.toNat ∧ c.toNat ≤ 57) ∨ (97 ≤ c.toNat ∧ c.toNat ≤ 102) := by
    have := isHex_nat c
    rw [hh] at this
    simpa using this
   clear hst hpow hn ho hh
   generalize hexN (L.take k) = n at *
   rcases hcd with ⟨h1, h2⟩ | ⟨h1, h2⟩
   ·have hv := hexV_digit c ⟨h1, h2⟩
    have q95 := u8_ne' (c := c) (n := 95) (z := 95) rfl (by omega) (by rintro rfl; revert h2; decide)
    have hd1 : ((c.toNat : Int) - 48) = ((hexV c : Nat) : Int) := by omega
    generalize hexV c = d at *
    clear hv
    go_upto_region 46 with fail
    clear h1 h2 hd1 q95
    have hcut : decide ((1152921504606846976 : Int) ≤ (n : Int)) = false := decide_eq_false (by omega)
    have hcut2 : ¬ (1152921504606846976 : Int) ≤ (n : Int) := by omega
    go_wp2_with fail
    go_round
    case rel => exact ⟨k + 1, hlt, rfl, by go_num, by rw [HST.out]; go_num, HPW.out⟩
    case measure => simp [intOf]; omega
   ·have hv := hexV_letter c ⟨h1, h2⟩
    have q95 := u8_ne' (c := c) (n := 95) (z := 95) rfl (by omega) (by rintro rfl; revert h1; decide)
    have hd1 : ((c.toNat : Int) - 97 + 10) = ((hexV c : Nat) : Int) := by omega
    have hw1 : IntKind.u8.wrap ((c.toNat : Int) - 97) = (c.toNat : Int) - 97 := IntWalk.u8_in _ (by omega)
    have hw2 : IntKind.u8.wrap ((c.toNat : Int) - 97 + 10) = (c.toNat : Int) - 97 + 10 := IntWalk.u8_in _ (by omega)
    have hlow := fun W => Lib.hid (low_any c ⟨h1, h2⟩ W)
    generalize hexV c = d at *
    clear hv
    have h122 : c.toNat ≤ 122 := by omega
    go_upto_region 46 with (go_at_call 210; refine (hlow _).out.mono ?_; rintro e w' ⟨rfl, rfl⟩)
    clear h122 h1 h2 hd1 hw1 hw2 q95 hlow
    have hcut : decide ((1152921504606846976 : Int) ≤ (n : Int)) = false := decide_eq_false (by omega)
    have hcut2 : ¬ (1152921504606846976 : Int) ≤ (n : Int) := by omega
    go_wp2_with fail
    go_round
    case rel => exact ⟨k + 1, hlt, rfl, by go_num, by rw [HST.out]; go_num, HPW.out⟩
    case measure => simp [intOf]; omega
  ·obtain rfl : k = L.length := by omega
   rw [List.take_length] at hn ⊢
   go_wp2_with fail
   go_ret2
   exact ⟨rfl, hxw⟩
end Go.Proofs.YtgcdhffeacdegaaGreatDoor

/- Layer 8, the program: the walks of code, escape. -/
namespace Go.Proofs.YtgcdhffeacdegaaGreatDoor
open Go.RowKit Go.El
def codeS (B : List UInt8) (j : Nat) : Option (UInt8 × Nat) :=
 if B[rowTo isHex B j]? = some 92 ∧ (rowTo isHex B j = j + 1 ∨ rowTo isHex B j = j + 2) then some (UInt8.ofNat (hexN (sub B j (rowTo isHex B j))), rowTo isHex B j + 1) else none
theorem escS_code {B : List UInt8} {i : Nat} (h : B[i]? = some 120) : escS B i = codeS B (i + 1) := by
 unfold escS codeS
 rw [h]
 simp only [show ¬ ((120 : UInt8) = 92 ∨ (120 : UInt8) = 39) from by decide, show ¬ ((120 : UInt8) = 110) from by decide, show ¬ ((120 : UInt8) = 116) from by decide, if_false, if_true]
 have hge := rowTo_ge isHex B (i + 1)
 have hrow : ∀ j, i + 1 ≤ j → j < rowTo isHex B (i + 1) → ∃ c, B[j]? = some c := fun j h1 h2 => by
  have hl : rowTo isHex B (i + 1) ≤ B.length := rowTo_le (by have := (List.getElem?_eq_some_iff.1 h).1; omega)
  exact ⟨B[j], List.getElem?_eq_getElem (by omega)⟩
 by_cases h92 : B[rowTo isHex B (i + 1)]? = some 92
 ·rw [if_pos h92]
  by_cases h2 : rowTo isHex B (i + 1) = i + 2
  ·obtain ⟨c, hc⟩ := hrow (i + 1) (Nat.le_refl _) (by omega)
   rw [if_pos h2, if_pos ⟨h92, .inl h2⟩, h2, sub_one hc]
   simp [hexN, List.getD, hc]
  ·rw [if_neg h2]
   by_cases h3 : rowTo isHex B (i + 1) = i + 3
   ·obtain ⟨c, hc⟩ := hrow (i + 1) (Nat.le_refl _) (by omega)
    obtain ⟨d, hd⟩ := hrow (i + 2) (by omega) (by omega)
    have hs : sub B (i + 1) (i + 3) = [c, d] := by
     unfold sub
     rw [drop_cons hc, drop_cons hd]
     simp
    rw [if_pos h3, if_pos ⟨h92, .inr h3⟩, h3, hs]
    simp [hexN, List.getD, hc, hd]
   ·rw [if_neg h3, if_neg (fun g => g.2.elim h2 h3)]
 ·rw [if_neg h92, if_neg (fun g => h92 g.1)]
abbrev hexS : ByteArray := ⟨#[48, 49, 50, 51, 52, 53, 54, 55, 56, 57, 97, 98, 99, 100, 101, 102]⟩
theorem hex_has (c : UInt8) : hasB hexS c = isHex c := all_bytes (p := fun c => hasB hexS c = isHex c) (by decide +kernel) c
theorem str_facts {l : List UInt8} {z : ByteArray} (h : strB l = z) : z.size = l.length ∧ (z.toList == ([] : List UInt8)) = decide (l = []) ∧ z.toList.isEmpty = decide (l = []) := by
 subst h
 refine ⟨strB_size l, ?_, ?_⟩
 ·rw [ByteArray.toList_eq, strB_toList, Bool.eq_iff_iff]; simp
 ·rw [ByteArray.toList_eq, strB_toList, Bool.eq_iff_iff]; simp
theorem sub_nil {B : List UInt8} {j e : Nat} (he : e ≤ B.length) : (sub B j e = []) ↔ e - j = 0 := by
 rw [← List.length_eq_zero_iff, sub_length he]
theorem parse_any (L : List UInt8) (w : World) (h0 : L ≠ []) (h2 : L.length ≤ 2) (hx : ∀ c ∈ L, isHex c = true) :
  Calls Tryz.prog 202 #[.string (strB L), .int .i64 16, .int .i64 8] w fun e w' => e = .returned (.tuple #[.int .u64 (hexN L : Nat), .nilIface]) ∧ Ext w w' := by
 have H := Lib.hid (parse16_any L w h0 h2 hx)
 go_enter Tryz.func202, Tryz.ntmps202
 go_wp2_with (go_at_call 197; refine H.out.mono ?_; rintro e w' ⟨rfl, hx⟩; have HX := Lib.hid hx; clear hx)
 go_ret2
 exact ⟨rfl, HX.out⟩
set_option maxRecDepth 100000 in
set_option maxHeartbeats 4000000 in
theorem code_no (sb b off cap : Nat) (B : List UInt8) (j : Nat) (w : World) (h : ScAt w sb b off cap B j) (hn : codeS B j = none) :
  Calls Tryz.prog 186 #[.pointer (some ⟨sb, 0, none⟩)] w fun e w' => e = .returned (.tuple #[.int .u8 0, .bool false]) ∧ ∃ k, ScIn w w' sb b off cap B k := by
 have hle : rowTo isHex B j ≤ B.length := rowTo_le h.at_
 have hge := rowTo_ge isHex B j
 have HR := Lib.hid (row_any sb b off cap B j hexS isHex hex_has w h)
 obtain ⟨hz, hz2, hz3⟩ := str_facts (l := sub B j (rowTo isHex B j)) rfl
 rw [sub_length hle] at hz
 have hnil := sub_nil (j := j) hle
 generalize hgs : strB (sub B j (rowTo isHex B j)) = z at hz hz2 hz3 HR
 have hpre := pre1 (B := B) (k := rowTo isHex B j) 92
 unfold codeS at hn
 have hcase : rowTo isHex B j - j = 0 ∨ (rowTo isHex B j - j ≠ 0 ∧ 2 < rowTo isHex B j - j) ∨ (rowTo isHex B j - j ≠ 0 ∧ rowTo isHex B j - j ≤ 2 ∧ ¬ B[rowTo isHex B j]? = some 92) := by
  by_cases g0 : rowTo isHex B j - j = 0
  ·exact .inl g0
  ·by_cases g2 : 2 < rowTo isHex B j - j
   ·exact .inr (.inl ⟨g0, g2⟩)
   ·refine .inr (.inr ⟨g0, by omega, fun g => ?_⟩)
    rw [if_pos ⟨g, by omega⟩] at hn
    cases hn
 clear hn hgs h
 generalize rowTo isHex B j = e at *
 generalize sub B j e = l at *
 rcases hcase with g | ⟨g0, g⟩ | ⟨g0, g, g92⟩
 ·rw [decide_eq_true (hnil.2 g)] at hz2 hz3
  clear hnil hpre
  go_enter Tryz.func186, Tryz.ntmps186
  go_wp2_with (go_at_call 133; refine HR.out.mono ?_; rintro e1 w' ⟨rfl, hy⟩; have HY := Lib.hid hy; clear hy)
  go_ret2
  exact ⟨rfl, _, HY.out⟩
 ·rw [decide_eq_false (fun t => g0 (hnil.1 t))] at hz2 hz3
  clear hnil hpre
  go_enter Tryz.func186, Tryz.ntmps186
  go_wp2_with (go_at_call 133; refine HR.out.mono ?_; rintro e1 w' ⟨rfl, hy⟩; have HY := Lib.hid hy; clear hy)
  go_ret2
  exact ⟨rfl, _, HY.out⟩
 ·rw [decide_eq_false (fun t => g0 (hnil.1 t))] at hz2 hz3
  rw [decide_eq_false g92] at hpre
  clear hnil
  have hg2 : ¬ 2 < e - j := by omega
  have HP := Lib.hid hpre
  clear hpre
  go_enter Tryz.func186, Tryz.ntmps186
  go_wp2_with (first | (go_at_call 133; refine HR.out.mono ?_; rintro e1 w' ⟨rfl, hy⟩; have HY := Lib.hid hy; clear hy) | (go_at_call 129; refine (starts_is HY.out.sc [92] false HP.out).mono ?_; rintro e1 w2 ⟨rfl, hu⟩; have HU := Lib.hid (HY.out.go hu); clear hu))
  go_ret2
  exact ⟨rfl, _, HU.out⟩
set_option maxRecDepth 100000 in
set_option maxHeartbeats 4000000 in
theorem code_yes (sb b off cap : Nat) (B : List UInt8) (j : Nat) (w : World) (h : ScAt w sb b off cap B j) (x : UInt8) (j' : Nat) (hn : codeS B j = some (x, j')) :
  Calls Tryz.prog 186 #[.pointer (some ⟨sb, 0, none⟩)] w fun e w' => e = .returned (.tuple #[.int .u8 (x.toNat : Int), .bool true]) ∧ ScIn w w' sb b off cap B j' := by
 have hle : rowTo isHex B j ≤ B.length := rowTo_le h.at_
 have hge := rowTo_ge isHex B j
 have HR := Lib.hid (row_any sb b off cap B j hexS isHex hex_has w h)
 obtain ⟨hz, hz2, hz3⟩ := str_facts (l := sub B j (rowTo isHex B j)) rfl
 have hsl := sub_length (i := j) hle
 rw [hsl] at hz
 have hnil := sub_nil (j := j) hle
 have hpre := pre1 (B := B) (k := rowTo isHex B j) 92
 have hlen := h.len
 have hall := sub_row_all isHex B j
 unfold codeS at hn
 have hg : B[rowTo isHex B j]? = some 92 ∧ (rowTo isHex B j = j + 1 ∨ rowTo isHex B j = j + 2) := by
  by_cases g : B[rowTo isHex B j]? = some 92 ∧ (rowTo isHex B j = j + 1 ∨ rowTo isHex B j = j + 2)
  ·exact g
  ·rw [if_neg g] at hn; cases hn
 rw [if_pos hg] at hn
 injection hn with hn
 injection hn with hn1 hn2
 subst hn1 hn2
 have hlt : rowTo isHex B j < B.length := (List.getElem?_eq_some_iff.1 hg.1).1
 have g0 : rowTo isHex B j - j ≠ 0 := by omega
 have hg2 : ¬ 2 < rowTo isHex B j - j := by omega
 rw [decide_eq_false (fun t => g0 (hnil.1 t))] at hz2 hz3
 rw [decide_eq_true hg.1] at hpre
 have HP := Lib.hid hpre
 have hpar := fun W => Lib.hid (parse_any (sub B j (rowTo isHex B j)) W (fun t => g0 (hnil.1 t)) (by omega) hall)
 have hv : hexN (sub B j (rowTo isHex B j)) < 256 := by
  have hh : ∀ l : List UInt8, l.length ≤ 2 → (∀ c ∈ l, isHex c = true) → hexN l < 256 := by
   intro l hl ha
   rcases l with _ | ⟨a, _ | ⟨d, _ | ⟨f, l⟩⟩⟩
   ·simp [hexN]
   ·have := hexV_lt a (ha a (by simp)); simp [hexN]; omega
   ·have h1 := hexV_lt a (ha a (by simp))
    have h2 := hexV_lt d (ha d (by simp))
    simp [hexN]; omega
   ·simp at hl
  exact hh _ (by omega) hall
 have h8 := nat8 hv
 have H8 := Lib.hid h8
 generalize hgs : strB (sub B j (rowTo isHex B j)) = z at hz hz2 hz3 HR hpar
 generalize hexN (sub B j (rowTo isHex B j)) = m at *
 clear hpre hnil hgs h h8 hall hsl
 obtain ⟨hg92, hg12⟩ := hg
 generalize rowTo isHex B j = e at *
 clear hg92
 go_enter Tryz.func186, Tryz.ntmps186
 go_wp2_with (first | (go_at_call 133; refine HR.out.mono ?_; rintro e1 w' ⟨rfl, hy⟩; have HY := Lib.hid hy; clear hy) | (go_at_call 129; refine (starts_is HY.out.sc [92] true HP.out).mono ?_; rintro e1 w2 ⟨rfl, hu⟩; have HU := Lib.hid (HY.out.go hu); have d2 := HU.out.sc.c1; have f2 := HU.out.sc.frozen; clear hu) | (go_at_call 202; refine (hpar _).out.mono ?_; rintro e1 w3 ⟨rfl, ht⟩; have HT := Lib.hid ((HU.out.to (j := e + 1) (v := (e : Int) + 1) hlt (by omega)).go ht); clear ht))
 go_ret2
 refine ⟨?_, HT.out⟩
 rw [H8.out]
 go_num
end Go.Proofs.YtgcdhffeacdegaaGreatDoor

/- Layer 8, the program: the walk of escape. -/
namespace Go.Proofs.YtgcdhffeacdegaaGreatDoor
open Go.RowKit Go.El
def escPV : Option (UInt8 × Nat) → Value
 | none => .tuple #[.int .u8 0, .bool false]
 | some (x, _) => .tuple #[.int .u8 (x.toNat : Int), .bool true]
def EscAt (w w' : World) (sb b off cap : Nat) (B : List UInt8) : Option (UInt8 × Nat) → Prop
 | none => ∃ k, ScIn w w' sb b off cap B k
 | some (_, j) => ScIn w w' sb b off cap B j
theorem code_any (sb b off cap : Nat) (B : List UInt8) (j : Nat) (w : World) (h : ScAt w sb b off cap B j) :
  Calls Tryz.prog 186 #[.pointer (some ⟨sb, 0, none⟩)] w fun e w' => e = .returned (escPV (codeS B j)) ∧ EscAt w w' sb b off cap B (codeS B j) := by
 cases hn : codeS B j with
 | none => exact code_no sb b off cap B j w h hn
 | some p => exact code_yes sb b off cap B j w h p.1 p.2 hn
theorem EscAt.then {w V w' : World} {sb b off cap : Nat} {B : List UInt8} {k : Nat} {r : Option (UInt8 × Nat)} (h : ScIn w V sb b off cap B k) (g : EscAt V w' sb b off cap B r) : EscAt w w' sb b off cap B r := by
 cases r with
 | none => obtain ⟨j, hj⟩ := g; exact ⟨j, h.then hj⟩
 | some p => exact ScIn.then h g
set_option maxRecDepth 100000 in
set_option maxHeartbeats 4000000 in
theorem escape_any (sb b off cap : Nat) (B : List UInt8) (i : Nat) (w : World) (h : ScAt w sb b off cap B i) :
  Calls Tryz.prog 167 #[.pointer (some ⟨sb, 0, none⟩)] w fun e w' => e = .returned (escPV (escS B i)) ∧ EscAt w w' sb b off cap B (escS B i) := by
 have d1 := h.c0
 have d2 := h.c1
 have hat := h.at_
 have hcp := h.cap
 have hlen := h.len
 have HS := Lib.hid (ScIn.start h)
 clear h
 by_cases hlt : i < B.length
 ·have ho : B[i]? = some B[i] := List.getElem?_eq_getElem hlt
  generalize B[i] = c at ho
  have d0 := HS.out.sc.cells ho
  have hck : ¬ cap = i := by omega
  have HO := Lib.hid ho
  go_enter Tryz.func167, Tryz.ntmps167
  go_upto_region 1 with fail
  go_quiet (fail)
  go_upto_region 3 with fail
  refine wp_abs (fun V => ScIn w V sb b off cap B i) (HS.out.drewN _) ?_
  clear d0 d1 d2 HS
  rintro V hV
  have d1 := hV.sc.c0
  have d2 := hV.sc.c1
  have d0 := hV.sc.cells ho
  have HS := Lib.hid hV
  clear hV
  go_quiet (fail)
  go_upto_region 4 with fail
  refine wp_abs (fun V => ScIn w V sb b off cap B i) (HS.out.drewN _) ?_
  clear d0 d1 d2 HS
  rintro U hU
  have d1 := hU.sc.c0
  have d2 := hU.sc.c1
  have f2 := hU.sc.frozen
  have HS := Lib.hid (hU.to (j := i + 1) (v := (i : Int) + 1) hlt (by omega))
  clear hU
  by_cases h110 : c = 110
  ·have q1 : ((c.toNat : Int) == (110 : Int)) = true := by rw [h110]; rfl
   have HN := Lib.hid (show escS B i = some (10, i + 1) from by subst h110; exact escS_n HO.out)
   clear ho h110
   go_wp2_with fail
   go_ret2
   refine ⟨?_, ?_⟩
   ·rw [HN.out]; rfl
   ·rw [HN.out]; exact HS.out
  have q1 := u8_ne' (c := c) (n := 110) (z := 110) rfl (by omega) h110
  by_cases h116 : c = 116
  ·have q2 : ((c.toNat : Int) == (116 : Int)) = true := by rw [h116]; rfl
   have HN := Lib.hid (show escS B i = some (9, i + 1) from by subst h116; exact escS_t HO.out)
   clear ho h116 h110
   go_wp2_with fail
   go_ret2
   refine ⟨?_, ?_⟩
   ·rw [HN.out]; rfl
   ·rw [HN.out]; exact HS.out
  have q2 := u8_ne' (c := c) (n := 116) (z := 116) rfl (by omega) h116
  by_cases h120 : c = 120
  ·have q3 : ((c.toNat : Int) == (120 : Int)) = true := by rw [h120]; rfl
   have HN := Lib.hid (show escS B i = codeS B (i + 1) from by subst h120; exact escS_code HO.out)
   have HC := Lib.hid (code_any sb b off cap B (i + 1) _ HS.out.sc)
   cases hcd : codeS B (i + 1) with
   | none =>
    rw [hcd] at HN HC
    clear ho h110 h116 h120 hcd
    go_wp2_with (go_at_call 186; refine HC.out.mono ?_; simp only [escPV]; rintro e1 w3 ⟨rfl, ht⟩; have HT := Lib.hid (EscAt.then HS.out ht); clear ht)
    go_ret2
    exact ⟨by rw [HN.out]; rfl, by rw [HN.out]; exact HT.out⟩
   | some p =>
    obtain ⟨x, j⟩ := p
    rw [hcd] at HN HC
    clear ho h110 h116 h120 hcd
    go_wp2_with (go_at_call 186; refine HC.out.mono ?_; simp only [escPV]; rintro e1 w3 ⟨rfl, ht⟩; have HT := Lib.hid (EscAt.then HS.out ht); clear ht)
    go_ret2
    exact ⟨by rw [HN.out]; rfl, by rw [HN.out]; exact HT.out⟩
  have q3 := u8_ne' (c := c) (n := 120) (z := 120) rfl (by omega) h120
  by_cases h92 : c = 92
  ·have q4 : ((c.toNat : Int) == (92 : Int)) = true := by rw [h92]; rfl
   have HN := Lib.hid (escS_self HO.out (.inl h92))
   clear ho h116 h110 h120 h92
   go_wp2_with fail
   go_ret2
   refine ⟨?_, ?_⟩
   ·rw [HN.out]; rfl
   ·rw [HN.out]; exact HS.out
  have q4 := u8_ne' (c := c) (n := 92) (z := 92) rfl (by omega) h92
  by_cases h39 : c = 39
  ·have q5 : ((c.toNat : Int) == (39 : Int)) = true := by rw [h39]; rfl
   have HN := Lib.hid (escS_self HO.out (.inr h39))
   clear ho h116 h110 h120 h92 h39
   go_wp2_with fail
   go_ret2
   refine ⟨?_, ?_⟩
   ·rw [HN.out]; rfl
   ·rw [HN.out]; exact HS.out
  have q5 := u8_ne' (c := c) (n := 39) (z := 39) rfl (by omega) h39
  have HN := Lib.hid (escS_no HO.out h92 h39 h110 h116 h120)
  clear ho h116 h110 h120 h92 h39
  go_wp2_with fail
  go_ret2
  exact ⟨by rw [HN.out]; rfl, by rw [HN.out]; exact ⟨_, HS.out⟩⟩
 ·have hi : i = B.length := by omega
  have HN := Lib.hid (escS_end (List.getElem?_eq_none (l := B) (i := i) (by omega)))
  subst hi
  go_enter Tryz.func167, Tryz.ntmps167
  go_upto_region 1 with fail
  go_quiet (fail)
  go_wp2_with fail
  go_ret2
  exact ⟨by rw [HN.out]; rfl, by rw [HN.out]; exact ⟨_, HS.out.drewN _⟩⟩
end Go.Proofs.YtgcdhffeacdegaaGreatDoor

/- Layer 8, the program: the walk of quoted. -/
namespace Go.Proofs.YtgcdhffeacdegaaGreatDoor
open Go.RowKit Go.El
structure QuAt (w wr : World) (sb b off cap : Nat) (B : List UInt8) (k : Nat) (v : Value) (F : List UInt8) : Prop where
 sc : ScIn w wr sb b off cap B k
 own : wr.ownsRow 0 5 1 v F.length (F.map u8V)
 far : ∀ x, v.ownBlock = some x → w.heap.size ≤ x
 ls : sb < w.heap.size
 lb : b < w.heap.size
 lm : 1 < w.heap.size
 le : 4 < w.heap.size
theorem QuAt.start {w wr : World} {sb b off cap : Nat} {B : List UInt8} {k : Nat} (h : ScIn w wr sb b off cap B k) (ls : sb < w.heap.size) (lb : b < w.heap.size) (lm : 1 < w.heap.size) (le : 4 < w.heap.size) : QuAt w wr sb b off cap B k (.slice none 0 0) [] :=
 ⟨h, World.ownsRow_nil _ _ _ _, fun x hx => by simp [Value.ownBlock] at hx, ls, lb, lm, le⟩
theorem QuAt.go {w wr V : World} {sb b off cap : Nat} {B : List UInt8} {k : Nat} {v : Value} {F : List UInt8} (h : QuAt w wr sb b off cap B k v F) (x : Ext wr V) : QuAt w V sb b off cap B k v F :=
 ⟨h.sc.go x, own_ext h.own x, h.far, h.ls, h.lb, h.lm, h.le⟩
theorem QuAt.in_ {w wr V : World} {sb b off cap : Nat} {B : List UInt8} {k j : Nat} {v : Value} {F : List UInt8} (h : QuAt w wr sb b off cap B k v F) (g : ScIn wr V sb b off cap B j) : QuAt w V sb b off cap B j v F :=
 ⟨h.sc.then g, own_mods h.own g.mods (fun x hx hm => by
  rw [List.mem_singleton] at hm
  have := h.far x hx
  have := h.ls
  omega), h.far, h.ls, h.lb, h.lm, h.le⟩
theorem QuAt.to {w wr : World} {sb b off cap : Nat} {B : List UInt8} {k : Nat} {v : Value} {F : List UInt8} (h : QuAt w wr sb b off cap B k v F) {j : Nat} {n : Int} (hj : j ≤ B.length) (hv : n = (j : Int)) : QuAt w (wr.setCell ⟨sb, 1, none⟩ (.int .i64 n)) sb b off cap B j v F :=
 h.in_ ((ScIn.start h.sc.sc).to hj hv)
theorem ScAt.far {w w' : World} {sb b off cap : Nat} {B : List UInt8} {i : Nat} {S : List Nat} (h : ScAt w sb b off cap B i) (hm : Mods S w w') (h1 : sb ∉ S) (h2 : b ∉ S) (h3 : 1 ∉ S) (h4 : 4 ∉ S) : ScAt w' sb b off cap B i :=
 ⟨h.blk.mods hm h1, El.Src.mods h.src hm (fun a ha => by injection ha with ha; subst ha; exact h2), h.ne, h.len, h.cap, h.at_, h.glob.mods hm h3 h4, h.n1, h.n2⟩
theorem QuAt.step {w wr V w' : World} {sb b off cap : Nat} {B : List UInt8} {k : Nat} {v v' : Value} {F : List UInt8} {G : List UInt8} (h : QuAt w wr sb b off cap B k v F) (x : Ext wr V) (ho : w'.ownsRow 0 5 1 v' (F.length + G.length) (F.map u8V ++ G.map u8V)) (hm : Mods (ownL v) V w') (hb : v'.ownBlock = v.ownBlock ∨ v'.ownBlock = some V.heap.size) : QuAt w w' sb b off cap B k v' (F ++ G) := by
 have hg := h.go x
 have hno : ∀ y, y < w.heap.size → y ∉ ownL v := fun y hy hm => by have := h.far y (mem_ownL hm); omega
 have hwV : w.heap.size ≤ V.heap.size := hg.sc.mods.size
 refine ⟨⟨hg.sc.sc.far hm (hno _ h.ls) (hno _ h.lb) (hno _ h.lm) (hno _ h.le), Mods.step hg.sc.mods hm (fun y hy => .inr (h.far y (mem_ownL hy)))⟩, ?_, fun y hy => ?_, h.ls, h.lb, h.lm, h.le⟩
 ·rw [List.map_append, List.length_append]
  exact ho
 ·rcases hb with e | e
  ·exact h.far y (e.symm.trans hy)
  ·rw [e] at hy
   injection hy with hy
   omega
theorem QuAt.slice {w wr : World} {sb b off cap : Nat} {B : List UInt8} {k : Nat} {v : Value} {F : List UInt8} (h : QuAt w wr sb b off cap B k v F) : ∃ A c, v = .slice A F.length c ∧ BytesAt wr A F := by
 obtain ⟨A, c, rfl⟩ := own_value h.own
 exact ⟨A, c, rfl, El.Src.of_own h.own⟩
def quoPV : Option (List UInt8 × Nat) → Value
 | none => .tuple #[.string ⟨#[]⟩, .bool false]
 | some (s, _) => .tuple #[.string (strB s), .bool true]
def QuoIn (w w' : World) (sb b off cap : Nat) (B : List UInt8) : Option (List UInt8 × Nat) → Prop
 | none => ∃ k, ScIn w w' sb b off cap B k
 | some (_, j) => ScIn w w' sb b off cap B j
theorem esc_no {sb b off cap : Nat} {B : List UInt8} {i : Nat} {w : World} (h : ScAt w sb b off cap B i) (hn : escS B i = none) :
  Calls Tryz.prog 167 #[.pointer (some ⟨sb, 0, none⟩)] w fun e w' => e = .returned (.tuple #[.int .u8 0, .bool false]) ∧ ∃ k, ScIn w w' sb b off cap B k := by
 have := escape_any sb b off cap B i w h
 rw [hn] at this
 exact this
theorem esc_yes {sb b off cap : Nat} {B : List UInt8} {i : Nat} {w : World} (h : ScAt w sb b off cap B i) {x : UInt8} {j : Nat} (hn : escS B i = some (x, j)) :
  Calls Tryz.prog 167 #[.pointer (some ⟨sb, 0, none⟩)] w fun e w' => e = .returned (.tuple #[.int .u8 (x.toNat : Int), .bool true]) ∧ ScIn w w' sb b off cap B j := by
 have := escape_any sb b off cap B i w h
 rw [hn] at this
 exact this
set_option maxRecDepth 100000 in
set_option maxHeartbeats 8000000 in
theorem quoted_any (sb b off cap : Nat) (B : List UInt8) (i0 : Nat) (w : World) (h : ScAt w sb b off cap B i0) (hi : i0 < B.length) (ls : sb < w.heap.size) (lb : b < w.heap.size) (lm : 1 < w.heap.size) (le : 4 < w.heap.size) :
  Calls Tryz.prog 135 #[.pointer (some ⟨sb, 0, none⟩)] w fun e w' => e = .returned (quoPV (quoS B (i0 + 1) [])) ∧ QuoIn w w' sb b off cap B (quoS B (i0 + 1) []) := by
 obtain ⟨i1, hi1, hz0, hz1, hz2⟩ := infoP u8Info
 have d1 := h.c0
 have d2 := h.c1
 have f2 := h.frozen
 have hcp := h.cap
 have hlen := h.len
 have H0 := Lib.hid (QuAt.start ((ScIn.start h).to (j := i0 + 1) (v := (i0 : Int) + 1) hi (by omega)) ls lb lm le)
 clear h ls lb lm le
 go_enter Tryz.func135, Tryz.ntmps135
 go_wp2_with fail
 go_loopw [4] (fun v wr => ∃ k : Nat, ∃ acc : List UInt8, acc.length ≤ k ∧ Hid (QuAt w wr sb b off cap B k v acc) ∧ Hid (quoS B (i0 + 1) [] = quoS B k acc)) (fun _ wr => B.length - placeOf wr sb)
 case atStart => exact ⟨i0 + 1, [], Nat.zero_le _, H0.out, rfl⟩
 case round =>
  obtain ⟨k, acc, hak, HG, HS⟩ := hrel
  obtain ⟨A1, c1, rfl, _⟩ := HG.out.slice
  clear d1 d2 f2
  have d1 := HG.out.sc.sc.c0
  have d2 := HG.out.sc.sc.c1
  have hkl := HG.out.sc.sc.at_
  have hplace := place_at HG.out.sc.sc
  by_cases hlt : k < B.length
  ·have ho : B[k]? = some B[k] := List.getElem?_eq_getElem hlt
   generalize B[k] = c at ho
   have d0 := HG.out.sc.sc.cells ho
   have hck : ¬ cap = k := by omega
   have HQ := Lib.hid (quoS_eq (acc := acc) ho)
   go_upto_region 3 with fail
   go_quiet (fail)
   go_upto_region 4 with fail
   refine wp_abs (fun V => QuAt w V sb b off cap B k (.slice A1 acc.length c1) acc) (HG.out.go ((Ext.refl _).drewN _)) ?_
   clear d0 d1 d2 HG
   rintro V hV
   have d1 := hV.sc.sc.c0
   have d2 := hV.sc.sc.c1
   have d0 := hV.sc.sc.cells ho
   have HG := Lib.hid hV
   clear hV
   go_quiet (fail)
   go_upto_region 5 with fail
   refine wp_abs (fun V => QuAt w V sb b off cap B k (.slice A1 acc.length c1) acc) (HG.out.go ((Ext.refl _).drewN _)) ?_
   clear d0 d1 d2 HG
   rintro U hU
   have d1 := hU.sc.sc.c0
   have d2 := hU.sc.sc.c1
   have f2 := hU.sc.sc.frozen
   have HU := Lib.hid (hU.to (j := k + 1) (n := (k : Int) + 1) hlt (by omega))
   clear hU
   by_cases h39 : c = 39
   ·have q39 : ((c.toNat : Int) == (39 : Int)) = true := by rw [h39]; rfl
    subst h39
    have hpre := pre1 (B := B) (k := k + 1) 39
    go_upto_region 6 with fail
    refine wp_abs (fun V => QuAt w V sb b off cap B (k + 1) (.slice A1 acc.length c1) acc) HU.out ?_
    clear d1 d2 f2 HU
    rintro Y hY
    have HY := Lib.hid hY
    clear hY
    by_cases h2 : B[k + 1]? = some 39
    ·have hk1 : k + 1 < B.length := (List.getElem?_eq_some_iff.1 h2).1
     rw [decide_eq_true h2] at hpre
     have HP := Lib.hid hpre
     have HN := Lib.hid (HS.out.trans (show quoS B k acc = quoS B (k + 2) (acc ++ [39]) from by rw [HQ.out, if_pos ⟨rfl, h2⟩]))
     clear h2 ho hpre
     go_upto_region 7 with (go_at_call 129; refine (starts_is HY.out.sc.sc [39] true HP.out).mono ?_; rintro e1 w2 ⟨rfl, hu⟩; have HU := Lib.hid (HY.out.go hu); clear hu)
     have d1 := HU.out.sc.sc.c0
     have d2 := HU.out.sc.sc.c1
     have f2 := HU.out.sc.sc.frozen
     have HT := Lib.hid (HU.out.to (j := k + 2) (n := (k : Int) + 1 + 1) hk1 (by omega))
     go_upto_region 17 with fail
     refine wp_abs (fun V => QuAt w V sb b off cap B (k + 2) (.slice A1 acc.length c1) acc) HT.out ?_
     clear d1 d2 f2 HT HU
     rintro Z hZ
     have HZ := Lib.hid hZ
     clear hZ
     go_wp2_with (at_builtin; refine wpList_append_src (P := Tryz.prog) rfl _ _ 23 rfl 5 i1 _ 1 1 Tryz.underlying23 hi1 hz0 hz1 hz2 rfl (by omega) _ rfl _ _ _ rfl acc.length (acc.map u8V) (own_ext HZ.out.own ((Ext.refl Z).alloc _)) [.int .u8 39] (El.Src.new _ #[.int .u8 39] _ 1 1 rfl) (u8_one [39]) (by unfold maxLen; omega) (by omega) ?_; intro v3 w3 ho3 hm3 hb3; have hG3 := Lib.hid (QuAt.step (G := [39]) HZ.out ((Ext.refl Z).alloc _) ho3 hm3 hb3); clear ho3 hm3 hb3)
     go_roundw
     case rel => exact ⟨k + 2, acc ++ [39], by simp; omega, hG3, HN.out⟩
     case measure =>
      have h2 := place_at hG3.out.sc.sc
      rw [h2, hplace]
      omega
    ·rw [decide_eq_false h2] at hpre
     have HP := Lib.hid hpre
     have HN := Lib.hid (HS.out.trans (show quoS B k acc = some (acc, k + 1) from by rw [HQ.out, if_neg (fun h => h2 h.2), if_pos rfl]))
     clear h2 ho hpre
     go_upto_region 9 with (go_at_call 129; refine (starts_is HY.out.sc.sc [39] false HP.out).mono ?_; rintro e1 w2 ⟨rfl, hu⟩; have HU := Lib.hid (HY.out.go hu); clear hu)
     have hcv := conv_str c1 (El.Src.of_own HU.out.own)
     go_wp2_with fail
     go_ret2
     exact ⟨by rw [HN.out]; rfl, by rw [HN.out]; exact HU.out.sc⟩
   ·have q39 := u8_ne' (c := c) (n := 39) (z := 39) rfl (by omega) h39
    by_cases h92 : c = 92
    ·have q92 : ((c.toNat : Int) == (92 : Int)) = true := by rw [h92]; rfl
     subst h92
     go_upto_region 11 with fail
     refine wp_abs (fun V => QuAt w V sb b off cap B (k + 1) (.slice A1 acc.length c1) acc) HU.out ?_
     clear d1 d2 f2 HU
     rintro Y hY
     have HY := Lib.hid hY
     clear hY
     cases he : escS B (k + 1) with
     | none =>
      have HN := Lib.hid (HS.out.trans (show quoS B k acc = none from by rw [HQ.out, if_neg (fun h => absurd h.1 (by decide)), if_neg (by decide), if_pos rfl, he]))
      have HE := Lib.hid (esc_no HY.out.sc.sc he)
      clear ho he h39
      go_wp2_with (go_at_call 167; refine HE.out.mono ?_; rintro e w' ⟨rfl, j, hj⟩; have HJ := Lib.hid (HY.out.sc.then hj); clear hj)
      go_ret2
      exact ⟨by rw [HN.out]; rfl, by rw [HN.out]; exact ⟨_, HJ.out⟩⟩
     | some p =>
      obtain ⟨x, j⟩ := p
      have HN := Lib.hid (HS.out.trans (show quoS B k acc = quoS B j (acc ++ [x]) from by rw [HQ.out, if_neg (fun h => absurd h.1 (by decide)), if_neg (by decide), if_pos rfl, he]))
      have HE := Lib.hid (esc_yes HY.out.sc.sc he)
      obtain ⟨hj1, hj2⟩ := escS_bd he
      clear ho he h39
      go_upto_region 17 with (go_at_call 167; refine HE.out.mono ?_; rintro e w' ⟨rfl, hj⟩; have HJ := Lib.hid (HY.out.in_ hj); clear hj)
      refine wp_abs (fun V => QuAt w V sb b off cap B j (.slice A1 acc.length c1) acc) HJ.out ?_
      clear HJ
      rintro Z hZ
      have HZ := Lib.hid hZ
      clear hZ
      go_wp2_with (at_builtin; refine wpList_append_src (P := Tryz.prog) rfl _ _ 23 rfl 5 i1 _ 1 1 Tryz.underlying23 hi1 hz0 hz1 hz2 rfl (by omega) _ rfl _ _ _ rfl acc.length (acc.map u8V) (own_ext HZ.out.own ((Ext.refl Z).alloc _)) [.int .u8 (x.toNat : Int)] (El.Src.new _ #[.int .u8 (x.toNat : Int)] _ 1 1 rfl) (u8_one [x]) (by unfold maxLen; omega) (by omega) ?_; intro v3 w3 ho3 hm3 hb3; have hG3 := Lib.hid (QuAt.step (G := [x]) HZ.out ((Ext.refl Z).alloc _) ho3 hm3 hb3); clear ho3 hm3 hb3)
      go_roundw
      case rel => exact ⟨j, acc ++ [x], by simp; omega, hG3, HN.out⟩
      case measure =>
       have h2 := place_at hG3.out.sc.sc
       rw [h2, hplace]
       omega
    ·have q92 := u8_ne' (c := c) (n := 92) (z := 92) rfl (by omega) h92
     have hcl := c.toNat_lt
     by_cases h32 : c < 32 ∨ c = 127
     ·have HN := Lib.hid (HS.out.trans (show quoS B k acc = none from by rw [HQ.out, if_neg (fun h => h39 h.1), if_neg h39, if_neg h92, if_pos h32]))
      have hd : c.toNat < 32 ∨ (32 ≤ c.toNat ∧ c.toNat = 127) := by
       rcases h32 with h | h
       ·exact .inl (UInt8.lt_iff_toNat_lt.1 h)
       ·exact .inr (by subst h; decide)
      clear ho h92 h39 h32
      rcases hd with g1 | ⟨g1, g2⟩
      all_goals
       go_wp2_with fail
       go_ret2
       exact ⟨by rw [HN.out]; rfl, by rw [HN.out]; exact ⟨_, HU.out.sc⟩⟩
     ·have HN := Lib.hid (HS.out.trans (show quoS B k acc = quoS B (k + 1) (acc ++ [c]) from by rw [HQ.out, if_neg (fun h => h39 h.1), if_neg h39, if_neg h92, if_neg h32]))
      have g1 : 32 ≤ c.toNat := by
       have : ¬ c < 32 := fun h => h32 (.inl h)
       rw [UInt8.lt_iff_toNat_lt] at this
       have e : (32 : UInt8).toNat = 32 := rfl
       omega
      have q127 := u8_ne' (c := c) (n := 127) (z := 127) rfl (by omega) (fun h => h32 (.inr h))
      clear ho h92 h39 h32
      go_upto_region 17 with fail
      refine wp_abs (fun V => QuAt w V sb b off cap B (k + 1) (.slice A1 acc.length c1) acc) HU.out ?_
      clear d1 d2 f2 HU
      rintro Z hZ
      have HZ := Lib.hid hZ
      clear hZ
      go_wp2_with (at_builtin; refine wpList_append_src (P := Tryz.prog) rfl _ _ 23 rfl 5 i1 _ 1 1 Tryz.underlying23 hi1 hz0 hz1 hz2 rfl (by omega) _ rfl _ _ _ rfl acc.length (acc.map u8V) (own_ext HZ.out.own ((Ext.refl Z).alloc _)) [.int .u8 (c.toNat : Int)] (El.Src.new _ #[.int .u8 (c.toNat : Int)] _ 1 1 rfl) (u8_one [c]) (by unfold maxLen; omega) (by omega) ?_; intro v3 w3 ho3 hm3 hb3; have hG3 := Lib.hid (QuAt.step (G := [c]) HZ.out ((Ext.refl Z).alloc _) ho3 hm3 hb3); clear ho3 hm3 hb3)
      go_roundw
      case rel => exact ⟨k + 1, acc ++ [c], by simp; omega, hG3, HN.out⟩
      case measure =>
       have h2 := place_at hG3.out.sc.sc
       rw [h2, hplace]
       omega
  ·obtain rfl : k = B.length := by omega
   have HN := Lib.hid (HS.out.trans (quoS_end (B := B) (acc := acc) (Nat.le_refl _)))
   go_upto_region 3 with fail
   go_quiet (fail)
   go_wp2_with fail
   go_ret2
   exact ⟨by rw [HN.out]; rfl, by rw [HN.out]; exact ⟨_, HG.out.sc.drewN _⟩⟩
end Go.Proofs.YtgcdhffeacdegaaGreatDoor

/- Layer 8, the program: the walks of alone, ends, integer. -/
namespace Go.Proofs.YtgcdhffeacdegaaGreatDoor
open Go.RowKit Go.El
structure Old (w : World) (sb b : Nat) : Prop where
 ls : sb < w.heap.size
 lb : b < w.heap.size
 lm : 1 < w.heap.size
 le : 4 < w.heap.size
theorem ScIn.set {w wr : World} {sb b off cap : Nat} {B : List UInt8} {k : Nat} (h : ScIn w wr sb b off cap B k) (o : Old w sb b) {p : Addr} (hp : w.heap.size ≤ p.block) (v : Value) : ScIn w (wr.setCell p v) sb b off cap B k := by
 have hm : Mods [p.block] wr (wr.setCell p v) := (Mods.refl _ wr).setCell (.inl (by simp)) v
 have hno : ∀ y, y < w.heap.size → y ∉ [p.block] := fun y hy hm => by rw [List.mem_singleton] at hm; omega
 exact ⟨h.sc.far hm (hno _ o.ls) (hno _ o.lb) (hno _ o.lm) (hno _ o.le), Mods.step h.mods hm (fun y hy => .inr (by rw [List.mem_singleton] at hy; omega))⟩
theorem ScIn.set5 {w wr : World} {sb b off cap : Nat} {B : List UInt8} {k : Nat} (h : ScIn w wr sb b off cap B k) (o : Old w sb b) {g : Nat} (hg : w.heap.size ≤ g) (a' b' c' d' e' : Value) : ScIn w (((((wr.setCell ⟨g, 0, none⟩ a').setCell ⟨g, 1, none⟩ b').setCell ⟨g, 2, none⟩ c').setCell ⟨g, 3, none⟩ d').setCell ⟨g, 4, none⟩ e') sb b off cap B k :=
 ((((h.set o (p := ⟨g, 0, none⟩) hg a').set o (p := ⟨g, 1, none⟩) hg b').set o (p := ⟨g, 2, none⟩) hg c').set o (p := ⟨g, 3, none⟩) hg d').set o (p := ⟨g, 4, none⟩) hg e'
theorem zero_in {w w' : World} {sb : Nat} (hs : sb < w.heap.size) (hm : Mods [sb] (w.alloc (.cells #[.int .i64 0, .string ⟨#[]⟩, .int .i64 0, .int .i64 0, .bool false] 55)) w') : Blk w' w.heap.size 55 #[.int .i64 0, .string ⟨#[]⟩, .int .i64 0, .int .i64 0, .bool false] :=
 (Blk.new w 55 _).mods hm (by simp; omega)
set_option maxRecDepth 100000 in
set_option maxHeartbeats 4000000 in
theorem alone_any (sb b off cap : Nat) (B : List UInt8) (i : Nat) (c : UInt8) (w : World) (h : ScAt w sb b off cap B i) (ho : B[i]? = some c) :
  Calls Tryz.prog 132 #[.pointer (some ⟨sb, 0, none⟩)] w fun e w' => e = .returned (.string (strB [c])) ∧ ScIn w w' sb b off cap B (i + 1) := by
 have d1 := h.c0
 have d2 := h.c1
 have f2 := h.frozen
 have hlt : i < B.length := (List.getElem?_eq_some_iff.1 ho).1
 have hcp := h.cap
 have hlen := h.len
 have HS := Lib.hid ((ScIn.start h).to (j := i + 1) (v := (i : Int) + 1) hlt (by omega))
 have HO := Lib.hid ho
 clear h ho
 go_enter Tryz.func132, Tryz.ntmps132
 go_upto_region 2 with fail
 refine wp_abs (fun V => ScIn w V sb b off cap B (i + 1)) HS.out ?_
 clear d1 d2 f2 HS
 rintro V hV
 have d1 := hV.sc.c0
 have d2 := hV.sc.c1
 have hcv := fun n => (hV.drewN n).sc.conv i (i + 1) (by omega) hlt
 rw [sub_one HO.out] at hcv
 have e1 : i + 1 - i = 1 := by omega
 rw [e1] at hcv
 have hci : ¬ cap = i := by omega
 have hm1 : ((i + 1 : Nat) : Int) - 1 = (i : Int) := by omega
 have hm2 : (i : Int) + 1 - 1 = (i : Int) := by omega
 have hw1 : IntKind.i64.wrap (i : Int) = (i : Int) := IntWalk.i64_in _ (by omega)
 have hce : i + 1 ≤ cap := by omega
 generalize hgs : strB [c] = z at hcv
 have HZ := Lib.hid hgs
 have HV := Lib.hid hV
 clear hgs hV
 go_quiet (fail)
 go_wp2_with fail
 go_ret
 exact ⟨by rw [HZ.out]; rfl, HV.out.drewN _⟩
end Go.Proofs.YtgcdhffeacdegaaGreatDoor
