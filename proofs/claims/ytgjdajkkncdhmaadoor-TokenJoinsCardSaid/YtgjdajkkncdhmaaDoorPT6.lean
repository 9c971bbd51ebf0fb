/- Layer 8, the program: the library's ParseUint of one or two hex digits. -/
import Derived.Test.YtgjdajkkncdhmaaDoorLayB
import Derived.Test.YtgjdajkkncdhmaaDoorPT3
import Derived.Test.YtgjdajkkncdhmaaDoorRT5
namespace Go.Proofs.YtgjdajkkncdhmaaDoor
open Go.RowKit Go.El

/-- What hex digits say. -/
def hexN (l : List UInt8) : Nat := l.foldl (fun n c => 16 * n + hexV c) 0
theorem hexN_step (l : List UInt8) (c : UInt8) : hexN (l ++ [c]) = 16 * hexN l + hexV c := by simp [hexN, List.foldl_append]
theorem low_same (c : UInt8) (h : 97 ≤ c.toNat ∧ c.toNat ≤ 102) : bits .or .u8 (c.toNat : Int) 32 = (c.toNat : Int) := by
  have := all_bytes (p := fun c => (!decide (97 ≤ c.toNat ∧ c.toNat ≤ 102) || decide (bits .or .u8 (c.toNat : Int) 32 = (c.toNat : Int))) = true) (by decide +kernel) c
  simpa [h] using this
theorem hexV_digit (c : UInt8) (h : 48 ≤ c.toNat ∧ c.toNat ≤ 57) : hexV c = c.toNat - 48 := by
  have := all_bytes (p := fun c => (!decide (48 ≤ c.toNat ∧ c.toNat ≤ 57) || decide (hexV c = c.toNat - 48)) = true) (by decide +kernel) c
  simpa [h] using this
theorem hexV_letter (c : UInt8) (h : 97 ≤ c.toNat ∧ c.toNat ≤ 102) : hexV c = c.toNat - 87 := by
  have := all_bytes (p := fun c => (!decide (97 ≤ c.toNat ∧ c.toNat ≤ 102) || decide (hexV c = c.toNat - 87)) = true) (by decide +kernel) c
  simpa [h] using this
theorem low_any (c : UInt8) (h : 97 ≤ c.toNat ∧ c.toNat ≤ 102) (w : World) : Calls Tryd.prog 83 #[.int .u8 (c.toNat : Int)] w fun e w' => e = .returned (.int .u8 (c.toNat : Int)) ∧ w = w' := by
  have := Tryd.internal_strconv_lower (c.toNat : Int) w
  rw [low_same c h] at this
  refine this.mono ?_
  rintro e w' ⟨rfl, rfl⟩
  exact ⟨rfl, rfl⟩

set_option maxRecDepth 100000 in
set_option maxHeartbeats 4000000 in
theorem parse16_any (L : List UInt8) (w : World) (h0 : L ≠ []) (h2 : L.length ≤ 2) (hx : ∀ c ∈ L, isHex c = true) :
    Calls Tryd.prog 75 #[.string (strB L), .int .i64 16, .int .i64 8] w fun e w' => e = .returned (.tuple #[.int .u64 (hexN L : Nat), .nilIface]) ∧ Ext w w' := by
  have hcv := fun W : World => Lib.run_convert_string_bytes (P := Tryd.prog) W 9 22 5 (strB L) Tryd.underlying9 Tryd.underlying22 Tryd.underlying5
  have hsz := strB_size L
  have hne : ((strB L).toList == ([] : List UInt8)) = false := by
    rw [ByteArray.toList_eq, strB_toList]
    simpa using h0
  have hne2 : (strB L).toList.isEmpty = false := by
    rw [ByteArray.toList_eq, strB_toList]
    simpa using h0
  have hcells : ∀ k c, L[k]? = some c → (Lib.bytesWorld w 5 (strB L)).cell? ⟨w.heap.size, k, none⟩ = some (.int .u8 (c.toNat : Int)) := fun k c hk => by
    have hlt := (List.getElem?_eq_some_iff.1 hk).1
    rw [Lib.bytesWorld_cell w _ _ k (by rw [hsz]; exact hlt), strB_toList]
    simp [List.getD, hk]
  have hxw : Ext w (Lib.bytesWorld w 5 (strB L)) := ext_bytes _ _ _
  generalize hgs : strB L = s at *
  have HX := Lib.hid hx
  have HC := Lib.hid hcells
  have HCV := Lib.hid (hcv w)
  have hcv1 := hcv w
  clear hx hcells hcv hgs h0
  go_enter Tryd.func75, Tryd.ntmps75
  go_wp2_with fail
  go_loop [12, 13, 101] (fun u n i => ∃ k : Nat, k ≤ L.length ∧ u = .bool false ∧ i = .int .i64 k ∧ n = .int .u64 (hexN (L.take k) : Nat) ∧ hexN (L.take k) < 16 ^ k) (fun _ _ i => L.length - (intOf i).toNat)
  case atStart => exact ⟨0, Nat.zero_le _, rfl, rfl, by simp [hexN], by simp [hexN]⟩
  case round =>
    obtain ⟨k, hk, rfl, rfl, rfl, hn⟩ := hrel
    by_cases hlt : k < L.length
    · have ho : L[k]? = some L[k] := List.getElem?_eq_getElem hlt
      have hh := HX.out L[k] (List.getElem_mem hlt)
      generalize L[k] = c at ho hh
      have d0 := HC.out k c ho
      have hst : hexN (L.take (k + 1)) = 16 * hexN (L.take k) + hexV c := by
        rw [List.take_add_one, ho]
        exact hexN_step _ _
      have hn16 : hexN (L.take k) < 16 := Nat.lt_of_lt_of_le hn (by
        have : k = 0 ∨ k = 1 := by omega
        rcases this with rfl | rfl <;> decide)
      have hv16 := hexV_lt c hh
      have hpow : hexN (L.take (k + 1)) < 16 ^ (k + 1) := by rw [hst, Nat.pow_succ]; omega
      have HST := Lib.hid hst
      have HPW := Lib.hid hpow
      have hcd : (48 ≤ c.toNat ∧ c.toNat ≤ 57) ∨ (97 ≤ c.toNat ∧ c.toNat ≤ 102) := by
        have := isHex_nat c
        rw [hh] at this
        simpa using this
      clear hst hpow hn ho hh
      generalize hexN (L.take k) = n at *
      rcases hcd with ⟨h1, h2⟩ | ⟨h1, h2⟩
      · have hv := hexV_digit c ⟨h1, h2⟩
        have q95 := u8_ne' (c := c) (n := 95) (z := 95) rfl (by omega) (by rintro rfl; revert h2; decide)
        have hd1 : ((c.toNat : Int) - 48) = ((hexV c : Nat) : Int) := by omega
        generalize hexV c = d at *
        clear hv
        go_upto_region 46 with fail
        clear h1 h2 hd1 q95
        have hcut : decide ((1152921504606846976 : Int) ≤ (n : Int)) = false := decide_eq_false (by omega)
        have hcut2 : ¬ (1152921504606846976 : Int) ≤ (n : Int) := by omega
        go_wp2_with fail
        go_round
        case rel => exact ⟨k + 1, hlt, rfl, by go_num, by rw [HST.out]; go_num, HPW.out⟩
        case measure => simp [intOf]; omega
      · have hv := hexV_letter c ⟨h1, h2⟩
        have q95 := u8_ne' (c := c) (n := 95) (z := 95) rfl (by omega) (by rintro rfl; revert h1; decide)
        have hd1 : ((c.toNat : Int) - 97 + 10) = ((hexV c : Nat) : Int) := by omega
        have hw1 : IntKind.u8.wrap ((c.toNat : Int) - 97) = (c.toNat : Int) - 97 := IntWalk.u8_in _ (by omega)
        have hw2 : IntKind.u8.wrap ((c.toNat : Int) - 97 + 10) = (c.toNat : Int) - 97 + 10 := IntWalk.u8_in _ (by omega)
        have hlow := fun W => Lib.hid (low_any c ⟨h1, h2⟩ W)
        generalize hexV c = d at *
        clear hv
        have h122 : c.toNat ≤ 122 := by omega
        go_upto_region 46 with (go_at_call 83; refine (hlow _).out.mono ?_; rintro e w' ⟨rfl, rfl⟩)
        clear h122 h1 h2 hd1 hw1 hw2 q95 hlow
        have hcut : decide ((1152921504606846976 : Int) ≤ (n : Int)) = false := decide_eq_false (by omega)
        have hcut2 : ¬ (1152921504606846976 : Int) ≤ (n : Int) := by omega
        go_wp2_with fail
        go_round
        case rel => exact ⟨k + 1, hlt, rfl, by go_num, by rw [HST.out]; go_num, HPW.out⟩
        case measure => simp [intOf]; omega
    · obtain rfl : k = L.length := by omega
      rw [List.take_length] at hn ⊢
      go_wp2_with fail
      go_ret2
      exact ⟨rfl, hxw⟩

end Go.Proofs.YtgjdajkkncdhmaaDoor
