/- The reference of layers 1 and 16: the walks of Digits, names, Name, form, has. -/
import Derived.Test.YtmnnhdegoapfcaaGreatDoorQ07
import Derived.IntWalk
namespace Go.Proofs.YtmnnhdegoapfcaaGreatDoor
open Go.RowKit Go.El
theorem dig_slice {d : Nat} (h : d < 10) : (⟨#[48, 49, 50, 51, 52, 53, 54, 55, 56, 57]⟩ : ByteArray).extract d (d + 1) = strB [UInt8.ofNat (48 + d)] := by
 have key : ∀ k : Fin 10, (⟨#[48, 49, 50, 51, 52, 53, 54, 55, 56, 57]⟩ : ByteArray).extract k.val (k.val + 1) = strB [UInt8.ofNat (48 + k.val)] := by decide +kernel
 exact key ⟨d, h⟩
theorem decR_small {k : Nat} (h : k < 10) : Lib.decDigits k = [UInt8.ofNat (48 + k)] := by rw [Lib.decDigits, dif_pos h]
theorem decR_big {k : Nat} (h : ¬ k < 10) : Lib.decDigits k = Lib.decDigits (k / 10) ++ [UInt8.ofNat (48 + k % 10)] := by rw [Lib.decDigits, dif_neg h]
theorem strB_app (a b : List UInt8) : strB a ++ strB b = strB (a ++ b) := by
 unfold strB
 apply ByteArray.ext
 simp
theorem ret_str {s s' : ByteArray} (h : s = s') : Ending.returned (.string s) = .returned (.string s') := by rw [h]
set_option maxRecDepth 100000 in
set_option maxHeartbeats 2000000 in
theorem refDigits_any (n : Int) (h0 : -9223372036854775808 ≤ n) (h1 : n ≤ 9223372036854775807) (w : World) :
  Calls Tryz.prog 75 #[.int .i64 n] w fun e w' => e = .returned (.string (strB (Lib.itoa n))) ∧ w = w' := by
 have hK : ∃ K : Nat, K = n.natAbs := ⟨_, rfl⟩
 obtain ⟨K, hK⟩ := hK
 have hKb : K ≤ 9223372036854775808 := by omega
 have hll : (Lib.decDigits K).length ≤ 30 := by
  have h := Lib.itoa_length_le (-(K : Int)) (by omega) (by omega)
  unfold Lib.itoa at h
  split at h
  ·simp at h
   omega
  ·rename_i h2
   have : K = 0 := by omega
   subst this
   decide +kernel
 by_cases hn : n < 0
 case' pos =>
  have hw1 : IntKind.u64.wrap n = n + 18446744073709551616 := by simp [IntKind.wrap, IntKind.bits, IntKind.signed]; omega
  obtain ⟨c, hc⟩ : ∃ c : Int, c = n + 18446744073709551616 := ⟨_, rfl⟩
  have hw2 : IntKind.u64.wrap (-c) = (K : Int) := by simp [IntKind.wrap, IntKind.bits, IntKind.signed]; omega
  rw [← hc] at hw1
  have hit : Lib.itoa n = 45 :: Lib.decDigits K := by unfold Lib.itoa; rw [if_pos hn, hK]
  have HIT := Lib.hid hit
  have HKB := Lib.hid hKb
  clear hc hit hK h0 h1 hKb
  go_enter Tryz.func75, Tryz.ntmps75
  go_upto_region 5 with fail
 case' neg =>
  have hw1 : IntKind.u64.wrap n = (K : Int) := by simp [IntKind.wrap, IntKind.bits, IntKind.signed]; omega
  have hit : Lib.itoa n = Lib.decDigits K := by unfold Lib.itoa; rw [if_neg hn, hK]; congr 1; omega
  have HIT := Lib.hid hit
  have HKB := Lib.hid hKb
  clear hit hK h0 h1 hKb
  go_enter Tryz.func75, Tryz.ntmps75
  go_upto_region 5 with fail
 all_goals
  clear hw1
  go_loop [3, 4] (fun out u => ∃ (k : Nat) (acc : List UInt8), out = .string (strB acc) ∧ u = .int .u64 k ∧ Hid (k ≤ 9223372036854775808) ∧ Hid (Lib.decDigits k ++ acc = Lib.decDigits K)) (fun _ u => (intOf u).toNat)
  case atStart => exact ⟨K, [], rfl, rfl, HKB, Lib.hid (by simp)⟩
  case round =>
   obtain ⟨k, acc, rfl, rfl, HK, HD⟩ := hrel
   have hkb : (k : Int) ≤ 9223372036854775808 := by have := HK.out; omega
   have hal : acc.length ≤ 30 := by
    have := congrArg List.length HD.out
    rw [List.length_append] at this
    omega
   have hsz := strB_size acc
   have hd : k % 10 < 10 := Nat.mod_lt _ (by omega)
   have hr : ((k : Int) % 10) = ((k % 10 : Nat) : Int) := by omega
   have hq : ((k : Int) / 10) = ((k / 10 : Nat) : Int) := by omega
   obtain ⟨x, hx⟩ : ∃ x : UInt8, x = UInt8.ofNat (48 + k % 10) := ⟨_, rfl⟩
   have hs := dig_slice hd
   rw [← hx] at hs
   have hz : (strB [x]).size = 1 := strB_size [x]
   have ha : strB [x] ++ strB acc = strB (x :: acc) := strB_app [x] acc
   have hbig : ¬ 9223372036854775807 < 1 + acc.length := by omega
   have hz2 : (strB (x :: acc)).size = acc.length + 1 := strB_size (x :: acc)
   have hbig2 : ¬ 9223372036854775807 < 1 + (acc.length + 1) := by omega
   have HX := Lib.hid hx
   clear hx
   by_cases hk : k < 10
   ·have e1 : k % 10 = k := Nat.mod_eq_of_lt hk
    have e2 : k / 10 = 0 := by omega
    rw [e1] at hr hd hs HX
    rw [e2] at hq
    have HF : Hid (Lib.decDigits K = x :: acc) := by
     rw [← HD.out, decR_small hk, HX.out]
     rfl
    clear e1 e2 hkb
    go_wp2_with fail
    go_ret
    exact ⟨ret_str (by first | (rw [HIT.out, HF.out]; done) | (rw [HIT.out, HF.out]; exact strB_app [45] _)), rfl⟩
   ·have hd2 := decR_big hk
    have HF : Hid (Lib.decDigits (k / 10) ++ (x :: acc) = Lib.decDigits K) := by
     rw [← HD.out, hd2, HX.out, List.append_assoc]
     rfl
    have hkq : k / 10 < k := by omega
    have hk0 : k / 10 ≠ 0 := by omega
    generalize k / 10 = q at *
    generalize k % 10 = d at *
    have hq0 : ((q : Int) == 0) = false := by simpa using hk0
    have hq1 : ¬ (q : Int) = 0 := by omega
    have HQ : Hid (q ≤ 9223372036854775808) := by have := HK.out; exact Lib.hid (by omega)
    clear hd2 hk0
    go_wp2_with fail
    go_round
    case rel => exact ⟨q, x :: acc, rfl, rfl, HQ, HF⟩
    case measure => simp [intOf]; omega
def formTab : List (List UInt8) := [[], [118, 97], [118, 97], [115, 97], [110, 97], [102, 97], [118], [118], [115], [110], [118, 97], [118, 97], [115, 97], [110, 97], [102, 97], [118], [118], [115], [110], [101], [], [112, 108], [112], [108], [], [], [118], [118], [], [118], []]
def formL (o : Int) : List UInt8 := if o < 1 ∨ 31 ≤ o then [] else formTab.getD o.toNat []
noncomputable def nameCells : Array Value := #[.string ⟨#[]⟩, .string ⟨#[103, 101, 116, 95, 118, 97, 114]⟩, .string ⟨#[103, 101, 116, 95, 118, 97, 108]⟩, .string ⟨#[103, 101, 116, 95, 97, 116, 111, 109]⟩, .string ⟨#[103, 101, 116, 95, 105, 110, 116]⟩, .string ⟨#[103, 101, 116, 95, 115, 116, 114]⟩, .string ⟨#[117, 110, 105, 95, 118, 97, 114]⟩, .string ⟨#[117, 110, 105, 95, 118, 97, 108]⟩, .string ⟨#[117, 110, 105, 95, 97, 116, 111, 109]⟩, .string ⟨#[117, 110, 105, 95, 105, 110, 116]⟩, .string ⟨#[112, 117, 116, 95, 118, 97, 114]⟩, .string ⟨#[112, 117, 116, 95, 118, 97, 108]⟩, .string ⟨#[112, 117, 116, 95, 97, 116, 111, 109]⟩, .string ⟨#[112, 117, 116, 95, 105, 110, 116]⟩, .string ⟨#[112, 117, 116, 95, 115, 116, 114]⟩, .string ⟨#[115, 101, 116, 95, 118, 97, 114]⟩, .string ⟨#[115, 101, 116, 95, 118, 97, 108]⟩, .string ⟨#[115, 101, 116, 95, 97, 116, 111, 109]⟩, .string ⟨#[115, 101, 116, 95, 105, 110, 116]⟩, .string ⟨#[97, 108, 108, 111, 99]⟩, .string ⟨#[100, 101, 97, 108, 108, 111, 99]⟩, .string ⟨#[99, 97, 108, 108]⟩, .string ⟨#[101, 120, 101, 99]⟩, .string ⟨#[98, 111, 100, 121]⟩, .string ⟨#[103, 111, 97, 108]⟩, .string ⟨#[112, 114, 111, 99, 101, 101, 100]⟩, .string ⟨#[108, 101, 118, 101, 108]⟩, .string ⟨#[104, 101, 114, 101]⟩, .string ⟨#[110, 101, 99, 107]⟩, .string ⟨#[99, 117, 116]⟩, .string ⟨#[102, 97, 105, 108]⟩]
theorem nameCells_list : nameCells.toList = (List.range 31).map (fun k => Value.string (mkB (nameAt k))) := rfl
theorem nameCells_at {k : Nat} (hk : k < 31) : nameCells[k]? = some (.string (mkB (nameAt k))) := by
 rw [← Array.getElem?_toList, nameCells_list, List.getElem?_map, List.getElem?_range hk]
 rfl
set_option maxRecDepth 100000 in
theorem rNames_any (w : World) : Calls Tryz.prog 47 #[] w fun e w' => e = .returned (.slice (some ⟨w.heap.size, 0, none⟩) 31 31) ∧ w' = w.alloc (.cells nameCells 9) := by
 go_enter Tryz.func47, Tryz.ntmps47
 go_wp2_with fail
 go_ret
 exact ⟨rfl, rfl⟩
set_option maxRecDepth 100000 in
theorem rName_any (o : Int) (w : World) : Calls Tryz.prog 14 #[.int .i64 o] w fun e w' => e = .returned (.string (mkB (nameF o))) ∧ Ext w w' := by
 have HX := Lib.hid ((Ext.refl w).alloc (.cells nameCells 9))
 have HN := Lib.hid (rNames_any w)
 by_cases h0 : o < 1
 ·have hr : nameF o = [] := by
   unfold nameF
   split
   ·rfl
   ·have : o = 0 := by omega
    subst this
    rfl
  rw [hr]
  go_enter Tryz.func14, Tryz.ntmps14
  go_wp2_with (go_at_call 47; refine HN.out.mono ?_; rintro e W1 ⟨rfl, rfl⟩)
  go_ret
  exact ⟨rfl, HX.out⟩
 ·by_cases h3 : 31 ≤ o
  ·rw [show nameF o = [] from if_pos (.inr h3)]
   go_enter Tryz.func14, Tryz.ntmps14
   go_wp2_with (go_at_call 47; refine HN.out.mono ?_; rintro e W1 ⟨rfl, rfl⟩)
   go_ret
   exact ⟨rfl, HX.out⟩
  ·rw [show nameF o = nameAt o.toNat from if_neg (by omega)]
   obtain ⟨k, rfl⟩ : ∃ k : Nat, o = k := ⟨o.toNat, by omega⟩
   have hk : k < 31 := by omega
   have c := ((Blk.new w 9 nameCells).cell k).trans (nameCells_at hk)
   have hk2 : (k : Int) < 31 := by omega
   rw [Int.toNat_natCast]
   generalize mkB (nameAt k) = nm at *
   generalize nameCells = nc at *
   go_enter Tryz.func14, Tryz.ntmps14
   go_wp2_with (go_at_call 47; refine HN.out.mono ?_; rintro e W1 ⟨rfl, rfl⟩)
   go_ret
   exact ⟨rfl, HX.out⟩
theorem eqS (a b : List UInt8) (x : Bool) (h : (a == b) = x) : ((mkB a).toList == (mkB b).toList) = x := by
 rw [ByteArray.toList_eq, ByteArray.toList_eq, mkB_list, mkB_list, h]
set_option maxRecDepth 100000 in
theorem form_0 (w : World) : Calls Tryz.prog 73 #[.int .i64 0] w fun e w' => e = .returned (.string ⟨#[]⟩) ∧ Ext w w' := by
 have HN : Hid (Calls Tryz.prog 14 #[.int .i64 0] w fun e w' => e = .returned (.string ⟨#[]⟩) ∧ Ext w w') := Lib.hid (rName_any 0 w)
 have c_get_var : ((⟨#[]⟩ : ByteArray).toList == (⟨#[103, 101, 116, 95, 118, 97, 114]⟩ : ByteArray).toList) = false := eqS [] [103, 101, 116, 95, 118, 97, 114] _ (by decide +kernel)
 have c_get_val : ((⟨#[]⟩ : ByteArray).toList == (⟨#[103, 101, 116, 95, 118, 97, 108]⟩ : ByteArray).toList) = false := eqS [] [103, 101, 116, 95, 118, 97, 108] _ (by decide +kernel)
 have c_put_var : ((⟨#[]⟩ : ByteArray).toList == (⟨#[112, 117, 116, 95, 118, 97, 114]⟩ : ByteArray).toList) = false := eqS [] [112, 117, 116, 95, 118, 97, 114] _ (by decide +kernel)
 have c_put_val : ((⟨#[]⟩ : ByteArray).toList == (⟨#[112, 117, 116, 95, 118, 97, 108]⟩ : ByteArray).toList) = false := eqS [] [112, 117, 116, 95, 118, 97, 108] _ (by decide +kernel)
 have c_get_atom : ((⟨#[]⟩ : ByteArray).toList == (⟨#[103, 101, 116, 95, 97, 116, 111, 109]⟩ : ByteArray).toList) = false := eqS [] [103, 101, 116, 95, 97, 116, 111, 109] _ (by decide +kernel)
 have c_put_atom : ((⟨#[]⟩ : ByteArray).toList == (⟨#[112, 117, 116, 95, 97, 116, 111, 109]⟩ : ByteArray).toList) = false := eqS [] [112, 117, 116, 95, 97, 116, 111, 109] _ (by decide +kernel)
 have c_get_int : ((⟨#[]⟩ : ByteArray).toList == (⟨#[103, 101, 116, 95, 105, 110, 116]⟩ : ByteArray).toList) = false := eqS [] [103, 101, 116, 95, 105, 110, 116] _ (by decide +kernel)
 have c_put_int : ((⟨#[]⟩ : ByteArray).toList == (⟨#[112, 117, 116, 95, 105, 110, 116]⟩ : ByteArray).toList) = false := eqS [] [112, 117, 116, 95, 105, 110, 116] _ (by decide +kernel)
 have c_get_str : ((⟨#[]⟩ : ByteArray).toList == (⟨#[103, 101, 116, 95, 115, 116, 114]⟩ : ByteArray).toList) = false := eqS [] [103, 101, 116, 95, 115, 116, 114] _ (by decide +kernel)
 have c_put_str : ((⟨#[]⟩ : ByteArray).toList == (⟨#[112, 117, 116, 95, 115, 116, 114]⟩ : ByteArray).toList) = false := eqS [] [112, 117, 116, 95, 115, 116, 114] _ (by decide +kernel)
 have c_uni_var : ((⟨#[]⟩ : ByteArray).toList == (⟨#[117, 110, 105, 95, 118, 97, 114]⟩ : ByteArray).toList) = false := eqS [] [117, 110, 105, 95, 118, 97, 114] _ (by decide +kernel)
 have c_uni_val : ((⟨#[]⟩ : ByteArray).toList == (⟨#[117, 110, 105, 95, 118, 97, 108]⟩ : ByteArray).toList) = false := eqS [] [117, 110, 105, 95, 118, 97, 108] _ (by decide +kernel)
 have c_set_var : ((⟨#[]⟩ : ByteArray).toList == (⟨#[115, 101, 116, 95, 118, 97, 114]⟩ : ByteArray).toList) = false := eqS [] [115, 101, 116, 95, 118, 97, 114] _ (by decide +kernel)
 have c_set_val : ((⟨#[]⟩ : ByteArray).toList == (⟨#[115, 101, 116, 95, 118, 97, 108]⟩ : ByteArray).toList) = false := eqS [] [115, 101, 116, 95, 118, 97, 108] _ (by decide +kernel)
 have c_level : ((⟨#[]⟩ : ByteArray).toList == (⟨#[108, 101, 118, 101, 108]⟩ : ByteArray).toList) = false := eqS [] [108, 101, 118, 101, 108] _ (by decide +kernel)
 have c_here : ((⟨#[]⟩ : ByteArray).toList == (⟨#[104, 101, 114, 101]⟩ : ByteArray).toList) = false := eqS [] [104, 101, 114, 101] _ (by decide +kernel)
 have c_cut : ((⟨#[]⟩ : ByteArray).toList == (⟨#[99, 117, 116]⟩ : ByteArray).toList) = false := eqS [] [99, 117, 116] _ (by decide +kernel)
 have c_uni_atom : ((⟨#[]⟩ : ByteArray).toList == (⟨#[117, 110, 105, 95, 97, 116, 111, 109]⟩ : ByteArray).toList) = false := eqS [] [117, 110, 105, 95, 97, 116, 111, 109] _ (by decide +kernel)
 have c_set_atom : ((⟨#[]⟩ : ByteArray).toList == (⟨#[115, 101, 116, 95, 97, 116, 111, 109]⟩ : ByteArray).toList) = false := eqS [] [115, 101, 116, 95, 97, 116, 111, 109] _ (by decide +kernel)
 have c_uni_int : ((⟨#[]⟩ : ByteArray).toList == (⟨#[117, 110, 105, 95, 105, 110, 116]⟩ : ByteArray).toList) = false := eqS [] [117, 110, 105, 95, 105, 110, 116] _ (by decide +kernel)
 have c_set_int : ((⟨#[]⟩ : ByteArray).toList == (⟨#[115, 101, 116, 95, 105, 110, 116]⟩ : ByteArray).toList) = false := eqS [] [115, 101, 116, 95, 105, 110, 116] _ (by decide +kernel)
 have c_alloc : ((⟨#[]⟩ : ByteArray).toList == (⟨#[97, 108, 108, 111, 99]⟩ : ByteArray).toList) = false := eqS [] [97, 108, 108, 111, 99] _ (by decide +kernel)
 have c_call : ((⟨#[]⟩ : ByteArray).toList == (⟨#[99, 97, 108, 108]⟩ : ByteArray).toList) = false := eqS [] [99, 97, 108, 108] _ (by decide +kernel)
 have c_exec : ((⟨#[]⟩ : ByteArray).toList == (⟨#[101, 120, 101, 99]⟩ : ByteArray).toList) = false := eqS [] [101, 120, 101, 99] _ (by decide +kernel)
 have c_body : ((⟨#[]⟩ : ByteArray).toList == (⟨#[98, 111, 100, 121]⟩ : ByteArray).toList) = false := eqS [] [98, 111, 100, 121] _ (by decide +kernel)
 go_enter Tryz.func73, Tryz.ntmps73
 go_wp2_with (go_at_call 14; refine HN.out.mono ?_; rintro e W1 ⟨rfl, hx⟩)
 go_ret
 exact ⟨rfl, hx⟩
set_option maxRecDepth 100000 in
theorem form_1 (w : World) : Calls Tryz.prog 73 #[.int .i64 1] w fun e w' => e = .returned (.string ⟨#[118, 97]⟩) ∧ Ext w w' := by
 have HN : Hid (Calls Tryz.prog 14 #[.int .i64 1] w fun e w' => e = .returned (.string ⟨#[103, 101, 116, 95, 118, 97, 114]⟩) ∧ Ext w w') := Lib.hid (rName_any 1 w)
 have c_get_var : ((⟨#[103, 101, 116, 95, 118, 97, 114]⟩ : ByteArray).toList == (⟨#[103, 101, 116, 95, 118, 97, 114]⟩ : ByteArray).toList) = true := eqS [103, 101, 116, 95, 118, 97, 114] [103, 101, 116, 95, 118, 97, 114] _ (by decide +kernel)
 go_enter Tryz.func73, Tryz.ntmps73
 go_wp2_with (go_at_call 14; refine HN.out.mono ?_; rintro e W1 ⟨rfl, hx⟩)
 go_ret
 exact ⟨rfl, hx⟩
set_option maxRecDepth 100000 in
theorem form_2 (w : World) : Calls Tryz.prog 73 #[.int .i64 2] w fun e w' => e = .returned (.string ⟨#[118, 97]⟩) ∧ Ext w w' := by
 have HN : Hid (Calls Tryz.prog 14 #[.int .i64 2] w fun e w' => e = .returned (.string ⟨#[103, 101, 116, 95, 118, 97, 108]⟩) ∧ Ext w w') := Lib.hid (rName_any 2 w)
 have c_get_var : ((⟨#[103, 101, 116, 95, 118, 97, 108]⟩ : ByteArray).toList == (⟨#[103, 101, 116, 95, 118, 97, 114]⟩ : ByteArray).toList) = false := eqS [103, 101, 116, 95, 118, 97, 108] [103, 101, 116, 95, 118, 97, 114] _ (by decide +kernel)
 have c_get_val : ((⟨#[103, 101, 116, 95, 118, 97, 108]⟩ : ByteArray).toList == (⟨#[103, 101, 116, 95, 118, 97, 108]⟩ : ByteArray).toList) = true := eqS [103, 101, 116, 95, 118, 97, 108] [103, 101, 116, 95, 118, 97, 108] _ (by decide +kernel)
 go_enter Tryz.func73, Tryz.ntmps73
 go_wp2_with (go_at_call 14; refine HN.out.mono ?_; rintro e W1 ⟨rfl, hx⟩)
 go_ret
 exact ⟨rfl, hx⟩
set_option maxRecDepth 100000 in
theorem form_3 (w : World) : Calls Tryz.prog 73 #[.int .i64 3] w fun e w' => e = .returned (.string ⟨#[115, 97]⟩) ∧ Ext w w' := by
 have HN : Hid (Calls Tryz.prog 14 #[.int .i64 3] w fun e w' => e = .returned (.string ⟨#[103, 101, 116, 95, 97, 116, 111, 109]⟩) ∧ Ext w w') := Lib.hid (rName_any 3 w)
 have c_get_var : ((⟨#[103, 101, 116, 95, 97, 116, 111, 109]⟩ : ByteArray).toList == (⟨#[103, 101, 116, 95, 118, 97, 114]⟩ : ByteArray).toList) = false := eqS [103, 101, 116, 95, 97, 116, 111, 109] [103, 101, 116, 95, 118, 97, 114] _ (by decide +kernel)
 have c_get_val : ((⟨#[103, 101, 116, 95, 97, 116, 111, 109]⟩ : ByteArray).toList == (⟨#[103, 101, 116, 95, 118, 97, 108]⟩ : ByteArray).toList) = false := eqS [103, 101, 116, 95, 97, 116, 111, 109] [103, 101, 116, 95, 118, 97, 108] _ (by decide +kernel)
 have c_put_var : ((⟨#[103, 101, 116, 95, 97, 116, 111, 109]⟩ : ByteArray).toList == (⟨#[112, 117, 116, 95, 118, 97, 114]⟩ : ByteArray).toList) = false := eqS [103, 101, 116, 95, 97, 116, 111, 109] [112, 117, 116, 95, 118, 97, 114] _ (by decide +kernel)
 have c_put_val : ((⟨#[103, 101, 116, 95, 97, 116, 111, 109]⟩ : ByteArray).toList == (⟨#[112, 117, 116, 95, 118, 97, 108]⟩ : ByteArray).toList) = false := eqS [103, 101, 116, 95, 97, 116, 111, 109] [112, 117, 116, 95, 118, 97, 108] _ (by decide +kernel)
 have c_get_atom : ((⟨#[103, 101, 116, 95, 97, 116, 111, 109]⟩ : ByteArray).toList == (⟨#[103, 101, 116, 95, 97, 116, 111, 109]⟩ : ByteArray).toList) = true := eqS [103, 101, 116, 95, 97, 116, 111, 109] [103, 101, 116, 95, 97, 116, 111, 109] _ (by decide +kernel)
 go_enter Tryz.func73, Tryz.ntmps73
 go_wp2_with (go_at_call 14; refine HN.out.mono ?_; rintro e W1 ⟨rfl, hx⟩)
 go_ret
 exact ⟨rfl, hx⟩
set_option maxRecDepth 100000 in
theorem form_4 (w : World) : Calls Tryz.prog 73 #[.int .i64 4] w fun e w' => e = .returned (.string ⟨#[110, 97]⟩) ∧ Ext w w' := by
 have HN : Hid (Calls Tryz.prog 14 #[.int .i64 4] w fun e w' => e = .returned (.string ⟨#[103, 101, 116, 95, 105, 110, 116]⟩) ∧ Ext w w') := Lib.hid (rName_any 4 w)
 have c_get_var : ((⟨#[103, 101, 116, 95, 105, 110, 116]⟩ : ByteArray).toList == (⟨#[103, 101, 116, 95, 118, 97, 114]⟩ : ByteArray).toList) = false := eqS [103, 101, 116, 95, 105, 110, 116] [103, 101, 116, 95, 118, 97, 114] _ (by decide +kernel)
 have c_get_val : ((⟨#[103, 101, 116, 95, 105, 110, 116]⟩ : ByteArray).toList == (⟨#[103, 101, 116, 95, 118, 97, 108]⟩ : ByteArray).toList) = false := eqS [103, 101, 116, 95, 105, 110, 116] [103, 101, 116, 95, 118, 97, 108] _ (by decide +kernel)
 have c_put_var : ((⟨#[103, 101, 116, 95, 105, 110, 116]⟩ : ByteArray).toList == (⟨#[112, 117, 116, 95, 118, 97, 114]⟩ : ByteArray).toList) = false := eqS [103, 101, 116, 95, 105, 110, 116] [112, 117, 116, 95, 118, 97, 114] _ (by decide +kernel)
 have c_put_val : ((⟨#[103, 101, 116, 95, 105, 110, 116]⟩ : ByteArray).toList == (⟨#[112, 117, 116, 95, 118, 97, 108]⟩ : ByteArray).toList) = false := eqS [103, 101, 116, 95, 105, 110, 116] [112, 117, 116, 95, 118, 97, 108] _ (by decide +kernel)
 have c_get_atom : ((⟨#[103, 101, 116, 95, 105, 110, 116]⟩ : ByteArray).toList == (⟨#[103, 101, 116, 95, 97, 116, 111, 109]⟩ : ByteArray).toList) = false := eqS [103, 101, 116, 95, 105, 110, 116] [103, 101, 116, 95, 97, 116, 111, 109] _ (by decide +kernel)
 have c_put_atom : ((⟨#[103, 101, 116, 95, 105, 110, 116]⟩ : ByteArray).toList == (⟨#[112, 117, 116, 95, 97, 116, 111, 109]⟩ : ByteArray).toList) = false := eqS [103, 101, 116, 95, 105, 110, 116] [112, 117, 116, 95, 97, 116, 111, 109] _ (by decide +kernel)
 have c_get_int : ((⟨#[103, 101, 116, 95, 105, 110, 116]⟩ : ByteArray).toList == (⟨#[103, 101, 116, 95, 105, 110, 116]⟩ : ByteArray).toList) = true := eqS [103, 101, 116, 95, 105, 110, 116] [103, 101, 116, 95, 105, 110, 116] _ (by decide +kernel)
 go_enter Tryz.func73, Tryz.ntmps73
 go_wp2_with (go_at_call 14; refine HN.out.mono ?_; rintro e W1 ⟨rfl, hx⟩)
 go_ret
 exact ⟨rfl, hx⟩
set_option maxRecDepth 100000 in
theorem form_5 (w : World) : Calls Tryz.prog 73 #[.int .i64 5] w fun e w' => e = .returned (.string ⟨#[102, 97]⟩) ∧ Ext w w' := by
 have HN : Hid (Calls Tryz.prog 14 #[.int .i64 5] w fun e w' => e = .returned (.string ⟨#[103, 101, 116, 95, 115, 116, 114]⟩) ∧ Ext w w') := Lib.hid (rName_any 5 w)
 have c_get_var : ((⟨#[103, 101, 116, 95, 115, 116, 114]⟩ : ByteArray).toList == (⟨#[103, 101, 116, 95, 118, 97, 114]⟩ : ByteArray).toList) = false := eqS [103, 101, 116, 95, 115, 116, 114] [103, 101, 116, 95, 118, 97, 114] _ (by decide +kernel)
 have c_get_val : ((⟨#[103, 101, 116, 95, 115, 116, 114]⟩ : ByteArray).toList == (⟨#[103, 101, 116, 95, 118, 97, 108]⟩ : ByteArray).toList) = false := eqS [103, 101, 116, 95, 115, 116, 114] [103, 101, 116, 95, 118, 97, 108] _ (by decide +kernel)
 have c_put_var : ((⟨#[103, 101, 116, 95, 115, 116, 114]⟩ : ByteArray).toList == (⟨#[112, 117, 116, 95, 118, 97, 114]⟩ : ByteArray).toList) = false := eqS [103, 101, 116, 95, 115, 116, 114] [112, 117, 116, 95, 118, 97, 114] _ (by decide +kernel)
 have c_put_val : ((⟨#[103, 101, 116, 95, 115, 116, 114]⟩ : ByteArray).toList == (⟨#[112, 117, 116, 95, 118, 97, 108]⟩ : ByteArray).toList) = false := eqS [103, 101, 116, 95, 115, 116, 114] [112, 117, 116, 95, 118, 97, 108] _ (by decide +kernel)
 have c_get_atom : ((⟨#[103, 101, 116, 95, 115, 116, 114]⟩ : ByteArray).toList == (⟨#[103, 101, 116, 95, 97, 116, 111, 109]⟩ : ByteArray).toList) = false := eqS [103, 101, 116, 95, 115, 116, 114] [103, 101, 116, 95, 97, 116, 111, 109] _ (by decide +kernel)
 have c_put_atom : ((⟨#[103, 101, 116, 95, 115, 116, 114]⟩ : ByteArray).toList == (⟨#[112, 117, 116, 95, 97, 116, 111, 109]⟩ : ByteArray).toList) = false := eqS [103, 101, 116, 95, 115, 116, 114] [112, 117, 116, 95, 97, 116, 111, 109] _ (by decide +kernel)
 have c_get_int : ((⟨#[103, 101, 116, 95, 115, 116, 114]⟩ : ByteArray).toList == (⟨#[103, 101, 116, 95, 105, 110, 116]⟩ : ByteArray).toList) = false := eqS [103, 101, 116, 95, 115, 116, 114] [103, 101, 116, 95, 105, 110, 116] _ (by decide +kernel)
 have c_put_int : ((⟨#[103, 101, 116, 95, 115, 116, 114]⟩ : ByteArray).toList == (⟨#[112, 117, 116, 95, 105, 110, 116]⟩ : ByteArray).toList) = false := eqS [103, 101, 116, 95, 115, 116, 114] [112, 117, 116, 95, 105, 110, 116] _ (by decide +kernel)
 have c_get_str : ((⟨#[103, 101, 116, 95, 115, 116, 114]⟩ : ByteArray).toList == (⟨#[103, 101, 116, 95, 115, 116, 114]⟩ : ByteArray).toList) = true := eqS [103, 101, 116, 95, 115, 116, 114] [103, 101, 116, 95, 115, 116, 114] _ (by decide +kernel)
 go_enter Tryz.func73, Tryz.ntmps73
 go_wp2_with (go_at_call 14; refine HN.out.mono ?_; rintro e W1 ⟨rfl, hx⟩)
 go_ret
 exact ⟨rfl, hx⟩
set_option maxRecDepth 100000 in
theorem form_6 (w : World) : Calls Tryz.prog 73 #[.int .i64 6] w fun e w' => e = .returned (.string ⟨#[118]⟩) ∧ Ext w w' := by
 have HN : Hid (Calls Tryz.prog 14 #[.int .i64 6] w fun e w' => e = .returned (.string ⟨#[117, 110, 105, 95, 118, 97, 114]⟩) ∧ Ext w w') := Lib.hid (rName_any 6 w)
 have c_get_var : ((⟨#[117, 110, 105, 95, 118, 97, 114]⟩ : ByteArray).toList == (⟨#[103, 101, 116, 95, 118, 97, 114]⟩ : ByteArray).toList) = false := eqS [117, 110, 105, 95, 118, 97, 114] [103, 101, 116, 95, 118, 97, 114] _ (by decide +kernel)
 have c_get_val : ((⟨#[117, 110, 105, 95, 118, 97, 114]⟩ : ByteArray).toList == (⟨#[103, 101, 116, 95, 118, 97, 108]⟩ : ByteArray).toList) = false := eqS [117, 110, 105, 95, 118, 97, 114] [103, 101, 116, 95, 118, 97, 108] _ (by decide +kernel)
 have c_put_var : ((⟨#[117, 110, 105, 95, 118, 97, 114]⟩ : ByteArray).toList == (⟨#[112, 117, 116, 95, 118, 97, 114]⟩ : ByteArray).toList) = false := eqS [117, 110, 105, 95, 118, 97, 114] [112, 117, 116, 95, 118, 97, 114] _ (by decide +kernel)
 have c_put_val : ((⟨#[117, 110, 105, 95, 118, 97, 114]⟩ : ByteArray).toList == (⟨#[112, 117, 116, 95, 118, 97, 108]⟩ : ByteArray).toList) = false := eqS [117, 110, 105, 95, 118, 97, 114] [112, 117, 116, 95, 118, 97, 108] _ (by decide +kernel)
 have c_get_atom : ((⟨#[117, 110, 105, 95, 118, 97, 114]⟩ : ByteArray).toList == (⟨#[103, 101, 116, 95, 97, 116, 111, 109]⟩ : ByteArray).toList) = false := eqS [117, 110, 105, 95, 118, 97, 114] [103, 101, 116, 95, 97, 116, 111, 109] _ (by decide +kernel)
 have c_put_atom : ((⟨#[117, 110, 105, 95, 118, 97, 114]⟩ : ByteArray).toList == (⟨#[112, 117, 116, 95, 97, 116, 111, 109]⟩ : ByteArray).toList) = false := eqS [117, 110, 105, 95, 118, 97, 114] [112, 117, 116, 95, 97, 116, 111, 109] _ (by decide +kernel)
 have c_get_int : ((⟨#[117, 110, 105, 95, 118, 97, 114]⟩ : ByteArray).toList == (⟨#[103, 101, 116, 95, 105, 110, 116]⟩ : ByteArray).toList) = false := eqS [117, 110, 105, 95, 118, 97, 114] [103, 101, 116, 95, 105, 110, 116] _ (by decide +kernel)
 have c_put_int : ((⟨#[117, 110, 105, 95, 118, 97, 114]⟩ : ByteArray).toList == (⟨#[112, 117, 116, 95, 105, 110, 116]⟩ : ByteArray).toList) = false := eqS [117, 110, 105, 95, 118, 97, 114] [112, 117, 116, 95, 105, 110, 116] _ (by decide +kernel)
 have c_get_str : ((⟨#[117, 110, 105, 95, 118, 97, 114]⟩ : ByteArray).toList == (⟨#[103, 101, 116, 95, 115, 116, 114]⟩ : ByteArray).toList) = false := eqS [117, 110, 105, 95, 118, 97, 114] [103, 101, 116, 95, 115, 116, 114] _ (by decide +kernel)
 have c_put_str : ((⟨#[117, 110, 105, 95, 118, 97, 114]⟩ : ByteArray).toList == (⟨#[112, 117, 116, 95, 115, 116, 114]⟩ : ByteArray).toList) = false := eqS [117, 110, 105, 95, 118, 97, 114] [112, 117, 116, 95, 115, 116, 114] _ (by decide +kernel)
 have c_uni_var : ((⟨#[117, 110, 105, 95, 118, 97, 114]⟩ : ByteArray).toList == (⟨#[117, 110, 105, 95, 118, 97, 114]⟩ : ByteArray).toList) = true := eqS [117, 110, 105, 95, 118, 97, 114] [117, 110, 105, 95, 118, 97, 114] _ (by decide +kernel)
 go_enter Tryz.func73, Tryz.ntmps73
 go_wp2_with (go_at_call 14; refine HN.out.mono ?_; rintro e W1 ⟨rfl, hx⟩)
 go_ret
 exact ⟨rfl, hx⟩
set_option maxRecDepth 100000 in
theorem form_7 (w : World) : Calls Tryz.prog 73 #[.int .i64 7] w fun e w' => e = .returned (.string ⟨#[118]⟩) ∧ Ext w w' := by
 have HN : Hid (Calls Tryz.prog 14 #[.int .i64 7] w fun e w' => e = .returned (.string ⟨#[117, 110, 105, 95, 118, 97, 108]⟩) ∧ Ext w w') := Lib.hid (rName_any 7 w)
 have c_get_var : ((⟨#[117, 110, 105, 95, 118, 97, 108]⟩ : ByteArray).toList == (⟨#[103, 101, 116, 95, 118, 97, 114]⟩ : ByteArray).toList) = false := eqS [117, 110, 105, 95, 118, 97, 108] [103, 101, 116, 95, 118, 97, 114] _ (by decide +kernel)
 have c_get_val : ((⟨#[117, 110, 105, 95, 118, 97, 108]⟩ : ByteArray).toList == (⟨#[103, 101, 116, 95, 118, 97, 108]⟩ : ByteArray).toList) = false := eqS [117, 110, 105, 95, 118, 97, 108] [103, 101, 116, 95, 118, 97, 108] _ (by decide +kernel)
 have c_put_var : ((⟨#[117, 110, 105, 95, 118, 97, 108]⟩ : ByteArray).toList == (⟨#[112, 117, 116, 95, 118, 97, 114]⟩ : ByteArray).toList) = false := eqS [117, 110, 105, 95, 118, 97, 108] [112, 117, 116, 95, 118, 97, 114] _ (by decide +kernel)
 have c_put_val : ((⟨#[117, 110, 105, 95, 118, 97, 108]⟩ : ByteArray).toList == (⟨#[112, 117, 116, 95, 118, 97, 108]⟩ : ByteArray).toList) = false := eqS [117, 110, 105, 95, 118, 97, 108] [112, 117, 116, 95, 118, 97, 108] _ (by decide +kernel)
 have c_get_atom : ((⟨#[117, 110, 105, 95, 118, 97, 108]⟩ : ByteArray).toList == (⟨#[103, 101, 116, 95, 97, 116, 111, 109]⟩ : ByteArray).toList) = false := eqS [117, 110, 105, 95, 118, 97, 108] [103, 101, 116, 95, 97, 116, 111, 109] _ (by decide +kernel)
 have c_put_atom : ((⟨#[117, 110, 105, 95, 118, 97, 108]⟩ : ByteArray).toList == (⟨#[112, 117, 116, 95, 97, 116, 111, 109]⟩ : ByteArray).toList) = false := eqS [117, 110, 105, 95, 118, 97, 108] [112, 117, 116, 95, 97, 116, 111, 109] _ (by decide +kernel)
 have c_get_int : ((⟨#[117, 110, 105, 95, 118, 97, 108]⟩ : ByteArray).toList == (⟨#[103, 101, 116, 95, 105, 110, 116]⟩ : ByteArray).toList) = false := eqS [117, 110, 105, 95, 118, 97, 108] [103, 101, 116, 95, 105, 110, 116] _ (by decide +kernel)
 have c_put_int : ((⟨#[117, 110, 105, 95, 118, 97, 108]⟩ : ByteArray).toList == (⟨#[112, 117, 116, 95, 105, 110, 116]⟩ : ByteArray).toList) = false := eqS [117, 110, 105, 95, 118, 97, 108] [112, 117, 116, 95, 105, 110, 116] _ (by decide +kernel)
 have c_get_str : ((⟨#[117, 110, 105, 95, 118, 97, 108]⟩ : ByteArray).toList == (⟨#[103, 101, 116, 95, 115, 116, 114]⟩ : ByteArray).toList) = false := eqS [117, 110, 105, 95, 118, 97, 108] [103, 101, 116, 95, 115, 116, 114] _ (by decide +kernel)
 have c_put_str : ((⟨#[117, 110, 105, 95, 118, 97, 108]⟩ : ByteArray).toList == (⟨#[112, 117, 116, 95, 115, 116, 114]⟩ : ByteArray).toList) = false := eqS [117, 110, 105, 95, 118, 97, 108] [112, 117, 116, 95, 115, 116, 114] _ (by decide +kernel)
 have c_uni_var : ((⟨#[117, 110, 105, 95, 118, 97, 108]⟩ : ByteArray).toList == (⟨#[117, 110, 105, 95, 118, 97, 114]⟩ : ByteArray).toList) = false := eqS [117, 110, 105, 95, 118, 97, 108] [117, 110, 105, 95, 118, 97, 114] _ (by decide +kernel)
 have c_uni_val : ((⟨#[117, 110, 105, 95, 118, 97, 108]⟩ : ByteArray).toList == (⟨#[117, 110, 105, 95, 118, 97, 108]⟩ : ByteArray).toList) = true := eqS [117, 110, 105, 95, 118, 97, 108] [117, 110, 105, 95, 118, 97, 108] _ (by decide +kernel)
 go_enter Tryz.func73, Tryz.ntmps73
 go_wp2_with (go_at_call 14; refine HN.out.mono ?_; rintro e W1 ⟨rfl, hx⟩)
 go_ret
 exact ⟨rfl, hx⟩
set_option maxRecDepth 100000 in
theorem form_8 (w : World) : Calls Tryz.prog 73 #[.int .i64 8] w fun e w' => e = .returned (.string ⟨#[115]⟩) ∧ Ext w w' := by
 have HN : Hid (Calls Tryz.prog 14 #[.int .i64 8] w fun e w' => e = .returned (.string ⟨#[117, 110, 105, 95, 97, 116, 111, 109]⟩) ∧ Ext w w') := Lib.hid (rName_any 8 w)
 have c_get_var : ((⟨#[117, 110, 105, 95, 97, 116, 111, 109]⟩ : ByteArray).toList == (⟨#[103, 101, 116, 95, 118, 97, 114]⟩ : ByteArray).toList) = false := eqS [117, 110, 105, 95, 97, 116, 111, 109] [103, 101, 116, 95, 118, 97, 114] _ (by decide +kernel)
 have c_get_val : ((⟨#[117, 110, 105, 95, 97, 116, 111, 109]⟩ : ByteArray).toList == (⟨#[103, 101, 116, 95, 118, 97, 108]⟩ : ByteArray).toList) = false := eqS [117, 110, 105, 95, 97, 116, 111, 109] [103, 101, 116, 95, 118, 97, 108] _ (by decide +kernel)
 have c_put_var : ((⟨#[117, 110, 105, 95, 97, 116, 111, 109]⟩ : ByteArray).toList == (⟨#[112, 117, 116, 95, 118, 97, 114]⟩ : ByteArray).toList) = false := eqS [117, 110, 105, 95, 97, 116, 111, 109] [112, 117, 116, 95, 118, 97, 114] _ (by decide +kernel)
 have c_put_val : ((⟨#[117, 110, 105, 95, 97, 116, 111, 109]⟩ : ByteArray).toList == (⟨#[112, 117, 116, 95, 118, 97, 108]⟩ : ByteArray).toList) = false := eqS [117, 110, 105, 95, 97, 116, 111, 109] [112, 117, 116, 95, 118, 97, 108] _ (by decide +kernel)
 have c_get_atom : ((⟨#[117, 110, 105, 95, 97, 116, 111, 109]⟩ : ByteArray).toList == (⟨#[103, 101, 116, 95, 97, 116, 111, 109]⟩ : ByteArray).toList) = false := eqS [117, 110, 105, 95, 97, 116, 111, 109] [103, 101, 116, 95, 97, 116, 111, 109] _ (by decide +kernel)
 have c_put_atom : ((⟨#[117, 110, 105, 95, 97, 116, 111, 109]⟩ : ByteArray).toList == (⟨#[112, 117, 116, 95, 97, 116, 111, 109]⟩ : ByteArray).toList) = false := eqS [117, 110, 105, 95, 97, 116, 111, 109] [112, 117, 116, 95, 97, 116, 111, 109] _ (by decide +kernel)
 have c_get_int : ((⟨#[117, 110, 105, 95, 97, 116, 111, 109]⟩ : ByteArray).toList == (⟨#[103, 101, 116, 95, 105, 110, 116]⟩ : ByteArray).toList) = false := eqS [117, 110, 105, 95, 97, 116, 111, 109] [103, 101, 116, 95, 105, 110, 116] _ (by decide +kernel)
 have c_put_int : ((⟨#[117, 110, 105, 95, 97, 116, 111, 109]⟩ : ByteArray).toList == (⟨#[112, 117, 116, 95, 105, 110, 116]⟩ : ByteArray).toList) = false := eqS [117, 110, 105, 95, 97, 116, 111, 109] [112, 117, 116, 95, 105, 110, 116] _ (by decide +kernel)
 have c_get_str : ((⟨#[117, 110, 105, 95, 97, 116, 111, 109]⟩ : ByteArray).toList == (⟨#[103, 101, 116, 95, 115, 116, 114]⟩ : ByteArray).toList) = false := eqS [117, 110, 105, 95, 97, 116, 111, 109] [103, 101, 116, 95, 115, 116, 114] _ (by decide +kernel)
 have c_put_str : ((⟨#[117, 110, 105, 95, 97, 116, 111, 109]⟩ : ByteArray).toList == (⟨#[112, 117, 116, 95, 115, 116, 114]⟩ : ByteArray).toList) = false := eqS [117, 110, 105, 95, 97, 116, 111, 109] [112, 117, 116, 95, 115, 116, 114] _ (by decide +kernel)
 have c_uni_var : ((⟨#[117, 110, 105, 95, 97, 116, 111, 109]⟩ : ByteArray).toList == (⟨#[117, 110, 105, 95, 118, 97, 114]⟩ : ByteArray).toList) = false := eqS [117, 110, 105, 95, 97, 116, 111, 109] [117, 110, 105, 95, 118, 97, 114] _ (by decide +kernel)
 have c_uni_val : ((⟨#[117, 110, 105, 95, 97, 116, 111, 109]⟩ : ByteArray).toList == (⟨#[117, 110, 105, 95, 118, 97, 108]⟩ : ByteArray).toList) = false := eqS [117, 110, 105, 95, 97, 116, 111, 109] [117, 110, 105, 95, 118, 97, 108] _ (by decide +kernel)
 have c_set_var : ((⟨#[117, 110, 105, 95, 97, 116, 111, 109]⟩ : ByteArray).toList == (⟨#[115, 101, 116, 95, 118, 97, 114]⟩ : ByteArray).toList) = false := eqS [117, 110, 105, 95, 97, 116, 111, 109] [115, 101, 116, 95, 118, 97, 114] _ (by decide +kernel)
 have c_set_val : ((⟨#[117, 110, 105, 95, 97, 116, 111, 109]⟩ : ByteArray).toList == (⟨#[115, 101, 116, 95, 118, 97, 108]⟩ : ByteArray).toList) = false := eqS [117, 110, 105, 95, 97, 116, 111, 109] [115, 101, 116, 95, 118, 97, 108] _ (by decide +kernel)
 have c_level : ((⟨#[117, 110, 105, 95, 97, 116, 111, 109]⟩ : ByteArray).toList == (⟨#[108, 101, 118, 101, 108]⟩ : ByteArray).toList) = false := eqS [117, 110, 105, 95, 97, 116, 111, 109] [108, 101, 118, 101, 108] _ (by decide +kernel)
 have c_here : ((⟨#[117, 110, 105, 95, 97, 116, 111, 109]⟩ : ByteArray).toList == (⟨#[104, 101, 114, 101]⟩ : ByteArray).toList) = false := eqS [117, 110, 105, 95, 97, 116, 111, 109] [104, 101, 114, 101] _ (by decide +kernel)
 have c_cut : ((⟨#[117, 110, 105, 95, 97, 116, 111, 109]⟩ : ByteArray).toList == (⟨#[99, 117, 116]⟩ : ByteArray).toList) = false := eqS [117, 110, 105, 95, 97, 116, 111, 109] [99, 117, 116] _ (by decide +kernel)
 have c_uni_atom : ((⟨#[117, 110, 105, 95, 97, 116, 111, 109]⟩ : ByteArray).toList == (⟨#[117, 110, 105, 95, 97, 116, 111, 109]⟩ : ByteArray).toList) = true := eqS [117, 110, 105, 95, 97, 116, 111, 109] [117, 110, 105, 95, 97, 116, 111, 109] _ (by decide +kernel)
 go_enter Tryz.func73, Tryz.ntmps73
 go_wp2_with (go_at_call 14; refine HN.out.mono ?_; rintro e W1 ⟨rfl, hx⟩)
 go_ret
 exact ⟨rfl, hx⟩
set_option maxRecDepth 100000 in
theorem form_9 (w : World) : Calls Tryz.prog 73 #[.int .i64 9] w fun e w' => e = .returned (.string ⟨#[110]⟩) ∧ Ext w w' := by
 have HN : Hid (Calls Tryz.prog 14 #[.int .i64 9] w fun e w' => e = .returned (.string ⟨#[117, 110, 105, 95, 105, 110, 116]⟩) ∧ Ext w w') := Lib.hid (rName_any 9 w)
 have c_get_var : ((⟨#[117, 110, 105, 95, 105, 110, 116]⟩ : ByteArray).toList == (⟨#[103, 101, 116, 95, 118, 97, 114]⟩ : ByteArray).toList) = false := eqS [117, 110, 105, 95, 105, 110, 116] [103, 101, 116, 95, 118, 97, 114] _ (by decide +kernel)
 have c_get_val : ((⟨#[117, 110, 105, 95, 105, 110, 116]⟩ : ByteArray).toList == (⟨#[103, 101, 116, 95, 118, 97, 108]⟩ : ByteArray).toList) = false := eqS [117, 110, 105, 95, 105, 110, 116] [103, 101, 116, 95, 118, 97, 108] _ (by decide +kernel)
 have c_put_var : ((⟨#[117, 110, 105, 95, 105, 110, 116]⟩ : ByteArray).toList == (⟨#[112, 117, 116, 95, 118, 97, 114]⟩ : ByteArray).toList) = false := eqS [117, 110, 105, 95, 105, 110, 116] [112, 117, 116, 95, 118, 97, 114] _ (by decide +kernel)
 have c_put_val : ((⟨#[117, 110, 105, 95, 105, 110, 116]⟩ : ByteArray).toList == (⟨#[112, 117, 116, 95, 118, 97, 108]⟩ : ByteArray).toList) = false := eqS [117, 110, 105, 95, 105, 110, 116] [112, 117, 116, 95, 118, 97, 108] _ (by decide +kernel)
 have c_get_atom : ((⟨#[117, 110, 105, 95, 105, 110, 116]⟩ : ByteArray).toList == (⟨#[103, 101, 116, 95, 97, 116, 111, 109]⟩ : ByteArray).toList) = false := eqS [117, 110, 105, 95, 105, 110, 116] [103, 101, 116, 95, 97, 116, 111, 109] _ (by decide +kernel)
 have c_put_atom : ((⟨#[117, 110, 105, 95, 105, 110, 116]⟩ : ByteArray).toList == (⟨#[112, 117, 116, 95, 97, 116, 111, 109]⟩ : ByteArray).toList) = false := eqS [117, 110, 105, 95, 105, 110, 116] [112, 117, 116, 95, 97, 116, 111, 109] _ (by decide +kernel)
 have c_get_int : ((⟨#[117, 110, 105, 95, 105, 110, 116]⟩ : ByteArray).toList == (⟨#[103, 101, 116, 95, 105, 110, 116]⟩ : ByteArray).toList) = false := eqS [117, 110, 105, 95, 105, 110, 116] [103, 101, 116, 95, 105, 110, 116] _ (by decide +kernel)
 have c_put_int : ((⟨#[117, 110, 105, 95, 105, 110, 116]⟩ : ByteArray).toList == (⟨#[112, 117, 116, 95, 105, 110, 116]⟩ : ByteArray).toList) = false := eqS [117, 110, 105, 95, 105, 110, 116] [112, 117, 116, 95, 105, 110, 116] _ (by decide +kernel)
 have c_get_str : ((⟨#[117, 110, 105, 95, 105, 110, 116]⟩ : ByteArray).toList == (⟨#[103, 101, 116, 95, 115, 116, 114]⟩ : ByteArray).toList) = false := eqS [117, 110, 105, 95, 105, 110, 116] [103, 101, 116, 95, 115, 116, 114] _ (by decide +kernel)
 have c_put_str : ((⟨#[117, 110, 105, 95, 105, 110, 116]⟩ : ByteArray).toList == (⟨#[112, 117, 116, 95, 115, 116, 114]⟩ : ByteArray).toList) = false := eqS [117, 110, 105, 95, 105, 110, 116] [112, 117, 116, 95, 115, 116, 114] _ (by decide +kernel)
 have c_uni_var : ((⟨#[117, 110, 105, 95, 105, 110, 116]⟩ : ByteArray).toList == (⟨#[117, 110, 105, 95, 118, 97, 114]⟩ : ByteArray).toList) = false := eqS [117, 110, 105, 95, 105, 110, 116] [117, 110, 105, 95, 118, 97, 114] _ (by decide +kernel)
 have c_uni_val : ((⟨#[117, 110, 105, 95, 105, 110, 116]⟩ : ByteArray).toList == (⟨#[117, 110, 105, 95, 118, 97, 108]⟩ : ByteArray).toList) = false := eqS [117, 110, 105, 95, 105, 110, 116] [117, 110, 105, 95, 118, 97, 108] _ (by decide +kernel)
 have c_set_var : ((⟨#[117, 110, 105, 95, 105, 110, 116]⟩ : ByteArray).toList == (⟨#[115, 101, 116, 95, 118, 97, 114]⟩ : ByteArray).toList) = false := eqS [117, 110, 105, 95, 105, 110, 116] [115, 101, 116, 95, 118, 97, 114] _ (by decide +kernel)
 have c_set_val : ((⟨#[117, 110, 105, 95, 105, 110, 116]⟩ : ByteArray).toList == (⟨#[115, 101, 116, 95, 118, 97, 108]⟩ : ByteArray).toList) = false := eqS [117, 110, 105, 95, 105, 110, 116] [115, 101, 116, 95, 118, 97, 108] _ (by decide +kernel)
 have c_level : ((⟨#[117, 110, 105, 95, 105, 110, 116]⟩ : ByteArray).toList == (⟨#[108, 101, 118, 101, 108]⟩ : ByteArray).toList) = false := eqS [117, 110, 105, 95, 105, 110, 116] [108, 101, 118, 101, 108] _ (by decide +kernel)
 have c_here : ((⟨#[117, 110, 105, 95, 105, 110, 116]⟩ : ByteArray).toList == (⟨#[104, 101, 114, 101]⟩ : ByteArray).toList) = false := eqS [117, 110, 105, 95, 105, 110, 116] [104, 101, 114, 101] _ (by decide +kernel)
 have c_cut : ((⟨#[117, 110, 105, 95, 105, 110, 116]⟩ : ByteArray).toList == (⟨#[99, 117, 116]⟩ : ByteArray).toList) = false := eqS [117, 110, 105, 95, 105, 110, 116] [99, 117, 116] _ (by decide +kernel)
 have c_uni_atom : ((⟨#[117, 110, 105, 95, 105, 110, 116]⟩ : ByteArray).toList == (⟨#[117, 110, 105, 95, 97, 116, 111, 109]⟩ : ByteArray).toList) = false := eqS [117, 110, 105, 95, 105, 110, 116] [117, 110, 105, 95, 97, 116, 111, 109] _ (by decide +kernel)
 have c_set_atom : ((⟨#[117, 110, 105, 95, 105, 110, 116]⟩ : ByteArray).toList == (⟨#[115, 101, 116, 95, 97, 116, 111, 109]⟩ : ByteArray).toList) = false := eqS [117, 110, 105, 95, 105, 110, 116] [115, 101, 116, 95, 97, 116, 111, 109] _ (by decide +kernel)
 have c_uni_int : ((⟨#[117, 110, 105, 95, 105, 110, 116]⟩ : ByteArray).toList == (⟨#[117, 110, 105, 95, 105, 110, 116]⟩ : ByteArray).toList) = true := eqS [117, 110, 105, 95, 105, 110, 116] [117, 110, 105, 95, 105, 110, 116] _ (by decide +kernel)
 go_enter Tryz.func73, Tryz.ntmps73
 go_wp2_with (go_at_call 14; refine HN.out.mono ?_; rintro e W1 ⟨rfl, hx⟩)
 go_ret
 exact ⟨rfl, hx⟩
set_option maxRecDepth 100000 in
theorem form_10 (w : World) : Calls Tryz.prog 73 #[.int .i64 10] w fun e w' => e = .returned (.string ⟨#[118, 97]⟩) ∧ Ext w w' := by
 have HN : Hid (Calls Tryz.prog 14 #[.int .i64 10] w fun e w' => e = .returned (.string ⟨#[112, 117, 116, 95, 118, 97, 114]⟩) ∧ Ext w w') := Lib.hid (rName_any 10 w)
 have c_get_var : ((⟨#[112, 117, 116, 95, 118, 97, 114]⟩ : ByteArray).toList == (⟨#[103, 101, 116, 95, 118, 97, 114]⟩ : ByteArray).toList) = false := eqS [112, 117, 116, 95, 118, 97, 114] [103, 101, 116, 95, 118, 97, 114] _ (by decide +kernel)
 have c_get_val : ((⟨#[112, 117, 116, 95, 118, 97, 114]⟩ : ByteArray).toList == (⟨#[103, 101, 116, 95, 118, 97, 108]⟩ : ByteArray).toList) = false := eqS [112, 117, 116, 95, 118, 97, 114] [103, 101, 116, 95, 118, 97, 108] _ (by decide +kernel)
 have c_put_var : ((⟨#[112, 117, 116, 95, 118, 97, 114]⟩ : ByteArray).toList == (⟨#[112, 117, 116, 95, 118, 97, 114]⟩ : ByteArray).toList) = true := eqS [112, 117, 116, 95, 118, 97, 114] [112, 117, 116, 95, 118, 97, 114] _ (by decide +kernel)
 go_enter Tryz.func73, Tryz.ntmps73
 go_wp2_with (go_at_call 14; refine HN.out.mono ?_; rintro e W1 ⟨rfl, hx⟩)
 go_ret
 exact ⟨rfl, hx⟩
set_option maxRecDepth 100000 in
theorem form_11 (w : World) : Calls Tryz.prog 73 #[.int .i64 11] w fun e w' => e = .returned (.string ⟨#[118, 97]⟩) ∧ Ext w w' := by
 have HN : Hid (Calls Tryz.prog 14 #[.int .i64 11] w fun e w' => e = .returned (.string ⟨#[112, 117, 116, 95, 118, 97, 108]⟩) ∧ Ext w w') := Lib.hid (rName_any 11 w)
 have c_get_var : ((⟨#[112, 117, 116, 95, 118, 97, 108]⟩ : ByteArray).toList == (⟨#[103, 101, 116, 95, 118, 97, 114]⟩ : ByteArray).toList) = false := eqS [112, 117, 116, 95, 118, 97, 108] [103, 101, 116, 95, 118, 97, 114] _ (by decide +kernel)
 have c_get_val : ((⟨#[112, 117, 116, 95, 118, 97, 108]⟩ : ByteArray).toList == (⟨#[103, 101, 116, 95, 118, 97, 108]⟩ : ByteArray).toList) = false := eqS [112, 117, 116, 95, 118, 97, 108] [103, 101, 116, 95, 118, 97, 108] _ (by decide +kernel)
 have c_put_var : ((⟨#[112, 117, 116, 95, 118, 97, 108]⟩ : ByteArray).toList == (⟨#[112, 117, 116, 95, 118, 97, 114]⟩ : ByteArray).toList) = false := eqS [112, 117, 116, 95, 118, 97, 108] [112, 117, 116, 95, 118, 97, 114] _ (by decide +kernel)
 have c_put_val : ((⟨#[112, 117, 116, 95, 118, 97, 108]⟩ : ByteArray).toList == (⟨#[112, 117, 116, 95, 118, 97, 108]⟩ : ByteArray).toList) = true := eqS [112, 117, 116, 95, 118, 97, 108] [112, 117, 116, 95, 118, 97, 108] _ (by decide +kernel)
 go_enter Tryz.func73, Tryz.ntmps73
 go_wp2_with (go_at_call 14; refine HN.out.mono ?_; rintro e W1 ⟨rfl, hx⟩)
 go_ret
 exact ⟨rfl, hx⟩
set_option maxRecDepth 100000 in
theorem form_12 (w : World) : Calls Tryz.prog 73 #[.int .i64 12] w fun e w' => e = .returned (.string ⟨#[115, 97]⟩) ∧ Ext w w' := by
 have HN : Hid (Calls Tryz.prog 14 #[.int .i64 12] w fun e w' => e = .returned (.string ⟨#[112, 117, 116, 95, 97, 116, 111, 109]⟩) ∧ Ext w w') := Lib.hid (rName_any 12 w)
 have c_get_var : ((⟨#[112, 117, 116, 95, 97, 116, 111, 109]⟩ : ByteArray).toList == (⟨#[103, 101, 116, 95, 118, 97, 114]⟩ : ByteArray).toList) = false := eqS [112, 117, 116, 95, 97, 116, 111, 109] [103, 101, 116, 95, 118, 97, 114] _ (by decide +kernel)
 have c_get_val : ((⟨#[112, 117, 116, 95, 97, 116, 111, 109]⟩ : ByteArray).toList == (⟨#[103, 101, 116, 95, 118, 97, 108]⟩ : ByteArray).toList) = false := eqS [112, 117, 116, 95, 97, 116, 111, 109] [103, 101, 116, 95, 118, 97, 108] _ (by decide +kernel)
 have c_put_var : ((⟨#[112, 117, 116, 95, 97, 116, 111, 109]⟩ : ByteArray).toList == (⟨#[112, 117, 116, 95, 118, 97, 114]⟩ : ByteArray).toList) = false := eqS [112, 117, 116, 95, 97, 116, 111, 109] [112, 117, 116, 95, 118, 97, 114] _ (by decide +kernel)
 have c_put_val : ((⟨#[112, 117, 116, 95, 97, 116, 111, 109]⟩ : ByteArray).toList == (⟨#[112, 117, 116, 95, 118, 97, 108]⟩ : ByteArray).toList) = false := eqS [112, 117, 116, 95, 97, 116, 111, 109] [112, 117, 116, 95, 118, 97, 108] _ (by decide +kernel)
 have c_get_atom : ((⟨#[112, 117, 116, 95, 97, 116, 111, 109]⟩ : ByteArray).toList == (⟨#[103, 101, 116, 95, 97, 116, 111, 109]⟩ : ByteArray).toList) = false := eqS [112, 117, 116, 95, 97, 116, 111, 109] [103, 101, 116, 95, 97, 116, 111, 109] _ (by decide +kernel)
 have c_put_atom : ((⟨#[112, 117, 116, 95, 97, 116, 111, 109]⟩ : ByteArray).toList == (⟨#[112, 117, 116, 95, 97, 116, 111, 109]⟩ : ByteArray).toList) = true := eqS [112, 117, 116, 95, 97, 116, 111, 109] [112, 117, 116, 95, 97, 116, 111, 109] _ (by decide +kernel)
 go_enter Tryz.func73, Tryz.ntmps73
 go_wp2_with (go_at_call 14; refine HN.out.mono ?_; rintro e W1 ⟨rfl, hx⟩)
 go_ret
 exact ⟨rfl, hx⟩
set_option maxRecDepth 100000 in
theorem form_13 (w : World) : Calls Tryz.prog 73 #[.int .i64 13] w fun e w' => e = .returned (.string ⟨#[110, 97]⟩) ∧ Ext w w' := by
 have HN : Hid (Calls Tryz.prog 14 #[.int .i64 13] w fun e w' => e = .returned (.string ⟨#[112, 117, 116, 95, 105, 110, 116]⟩) ∧ Ext w w') := Lib.hid (rName_any 13 w)
 have c_get_var : ((⟨#[112, 117, 116, 95, 105, 110, 116]⟩ : ByteArray).toList == (⟨#[103, 101, 116, 95, 118, 97, 114]⟩ : ByteArray).toList) = false := eqS [112, 117, 116, 95, 105, 110, 116] [103, 101, 116, 95, 118, 97, 114] _ (by decide +kernel)
 have c_get_val : ((⟨#[112, 117, 116, 95, 105, 110, 116]⟩ : ByteArray).toList == (⟨#[103, 101, 116, 95, 118, 97, 108]⟩ : ByteArray).toList) = false := eqS [112, 117, 116, 95, 105, 110, 116] [103, 101, 116, 95, 118, 97, 108] _ (by decide +kernel)
 have c_put_var : ((⟨#[112, 117, 116, 95, 105, 110, 116]⟩ : ByteArray).toList == (⟨#[112, 117, 116, 95, 118, 97, 114]⟩ : ByteArray).toList) = false := eqS [112, 117, 116, 95, 105, 110, 116] [112, 117, 116, 95, 118, 97, 114] _ (by decide +kernel)
 have c_put_val : ((⟨#[112, 117, 116, 95, 105, 110, 116]⟩ : ByteArray).toList == (⟨#[112, 117, 116, 95, 118, 97, 108]⟩ : ByteArray).toList) = false := eqS [112, 117, 116, 95, 105, 110, 116] [112, 117, 116, 95, 118, 97, 108] _ (by decide +kernel)
 have c_get_atom : ((⟨#[112, 117, 116, 95, 105, 110, 116]⟩ : ByteArray).toList == (⟨#[103, 101, 116, 95, 97, 116, 111, 109]⟩ : ByteArray).toList) = false := eqS [112, 117, 116, 95, 105, 110, 116] [103, 101, 116, 95, 97, 116, 111, 109] _ (by decide +kernel)
 have c_put_atom : ((⟨#[112, 117, 116, 95, 105, 110, 116]⟩ : ByteArray).toList == (⟨#[112, 117, 116, 95, 97, 116, 111, 109]⟩ : ByteArray).toList) = false := eqS [112, 117, 116, 95, 105, 110, 116] [112, 117, 116, 95, 97, 116, 111, 109] _ (by decide +kernel)
 have c_get_int : ((⟨#[112, 117, 116, 95, 105, 110, 116]⟩ : ByteArray).toList == (⟨#[103, 101, 116, 95, 105, 110, 116]⟩ : ByteArray).toList) = false := eqS [112, 117, 116, 95, 105, 110, 116] [103, 101, 116, 95, 105, 110, 116] _ (by decide +kernel)
 have c_put_int : ((⟨#[112, 117, 116, 95, 105, 110, 116]⟩ : ByteArray).toList == (⟨#[112, 117, 116, 95, 105, 110, 116]⟩ : ByteArray).toList) = true := eqS [112, 117, 116, 95, 105, 110, 116] [112, 117, 116, 95, 105, 110, 116] _ (by decide +kernel)
 go_enter Tryz.func73, Tryz.ntmps73
 go_wp2_with (go_at_call 14; refine HN.out.mono ?_; rintro e W1 ⟨rfl, hx⟩)
 go_ret
 exact ⟨rfl, hx⟩
set_option maxRecDepth 100000 in
theorem form_14 (w : World) : Calls Tryz.prog 73 #[.int .i64 14] w fun e w' => e = .returned (.string ⟨#[102, 97]⟩) ∧ Ext w w' := by
 have HN : Hid (Calls Tryz.prog 14 #[.int .i64 14] w fun e w' => e = .returned (.string ⟨#[112, 117, 116, 95, 115, 116, 114]⟩) ∧ Ext w w') := Lib.hid (rName_any 14 w)
 have c_get_var : ((⟨#[112, 117, 116, 95, 115, 116, 114]⟩ : ByteArray).toList == (⟨#[103, 101, 116, 95, 118, 97, 114]⟩ : ByteArray).toList) = false := eqS [112, 117, 116, 95, 115, 116, 114] [103, 101, 116, 95, 118, 97, 114] _ (by decide +kernel)
 have c_get_val : ((⟨#[112, 117, 116, 95, 115, 116, 114]⟩ : ByteArray).toList == (⟨#[103, 101, 116, 95, 118, 97, 108]⟩ : ByteArray).toList) = false := eqS [112, 117, 116, 95, 115, 116, 114] [103, 101, 116, 95, 118, 97, 108] _ (by decide +kernel)
 have c_put_var : ((⟨#[112, 117, 116, 95, 115, 116, 114]⟩ : ByteArray).toList == (⟨#[112, 117, 116, 95, 118, 97, 114]⟩ : ByteArray).toList) = false := eqS [112, 117, 116, 95, 115, 116, 114] [112, 117, 116, 95, 118, 97, 114] _ (by decide +kernel)
 have c_put_val : ((⟨#[112, 117, 116, 95, 115, 116, 114]⟩ : ByteArray).toList == (⟨#[112, 117, 116, 95, 118, 97, 108]⟩ : ByteArray).toList) = false := eqS [112, 117, 116, 95, 115, 116, 114] [112, 117, 116, 95, 118, 97, 108] _ (by decide +kernel)
 have c_get_atom : ((⟨#[112, 117, 116, 95, 115, 116, 114]⟩ : ByteArray).toList == (⟨#[103, 101, 116, 95, 97, 116, 111, 109]⟩ : ByteArray).toList) = false := eqS [112, 117, 116, 95, 115, 116, 114] [103, 101, 116, 95, 97, 116, 111, 109] _ (by decide +kernel)
 have c_put_atom : ((⟨#[112, 117, 116, 95, 115, 116, 114]⟩ : ByteArray).toList == (⟨#[112, 117, 116, 95, 97, 116, 111, 109]⟩ : ByteArray).toList) = false := eqS [112, 117, 116, 95, 115, 116, 114] [112, 117, 116, 95, 97, 116, 111, 109] _ (by decide +kernel)
 have c_get_int : ((⟨#[112, 117, 116, 95, 115, 116, 114]⟩ : ByteArray).toList == (⟨#[103, 101, 116, 95, 105, 110, 116]⟩ : ByteArray).toList) = false := eqS [112, 117, 116, 95, 115, 116, 114] [103, 101, 116, 95, 105, 110, 116] _ (by decide +kernel)
 have c_put_int : ((⟨#[112, 117, 116, 95, 115, 116, 114]⟩ : ByteArray).toList == (⟨#[112, 117, 116, 95, 105, 110, 116]⟩ : ByteArray).toList) = false := eqS [112, 117, 116, 95, 115, 116, 114] [112, 117, 116, 95, 105, 110, 116] _ (by decide +kernel)
 have c_get_str : ((⟨#[112, 117, 116, 95, 115, 116, 114]⟩ : ByteArray).toList == (⟨#[103, 101, 116, 95, 115, 116, 114]⟩ : ByteArray).toList) = false := eqS [112, 117, 116, 95, 115, 116, 114] [103, 101, 116, 95, 115, 116, 114] _ (by decide +kernel)
 have c_put_str : ((⟨#[112, 117, 116, 95, 115, 116, 114]⟩ : ByteArray).toList == (⟨#[112, 117, 116, 95, 115, 116, 114]⟩ : ByteArray).toList) = true := eqS [112, 117, 116, 95, 115, 116, 114] [112, 117, 116, 95, 115, 116, 114] _ (by decide +kernel)
 go_enter Tryz.func73, Tryz.ntmps73
 go_wp2_with (go_at_call 14; refine HN.out.mono ?_; rintro e W1 ⟨rfl, hx⟩)
 go_ret
 exact ⟨rfl, hx⟩
set_option maxRecDepth 100000 in
theorem form_15 (w : World) : Calls Tryz.prog 73 #[.int .i64 15] w fun e w' => e = .returned (.string ⟨#[118]⟩) ∧ Ext w w' := by
 have HN : Hid (Calls Tryz.prog 14 #[.int .i64 15] w fun e w' => e = .returned (.string ⟨#[115, 101, 116, 95, 118, 97, 114]⟩) ∧ Ext w w') := Lib.hid (rName_any 15 w)
 have c_get_var : ((⟨#[115, 101, 116, 95, 118, 97, 114]⟩ : ByteArray).toList == (⟨#[103, 101, 116, 95, 118, 97, 114]⟩ : ByteArray).toList) = false := eqS [115, 101, 116, 95, 118, 97, 114] [103, 101, 116, 95, 118, 97, 114] _ (by decide +kernel)
 have c_get_val : ((⟨#[115, 101, 116, 95, 118, 97, 114]⟩ : ByteArray).toList == (⟨#[103, 101, 116, 95, 118, 97, 108]⟩ : ByteArray).toList) = false := eqS [115, 101, 116, 95, 118, 97, 114] [103, 101, 116, 95, 118, 97, 108] _ (by decide +kernel)
 have c_put_var : ((⟨#[115, 101, 116, 95, 118, 97, 114]⟩ : ByteArray).toList == (⟨#[112, 117, 116, 95, 118, 97, 114]⟩ : ByteArray).toList) = false := eqS [115, 101, 116, 95, 118, 97, 114] [112, 117, 116, 95, 118, 97, 114] _ (by decide +kernel)
 have c_put_val : ((⟨#[115, 101, 116, 95, 118, 97, 114]⟩ : ByteArray).toList == (⟨#[112, 117, 116, 95, 118, 97, 108]⟩ : ByteArray).toList) = false := eqS [115, 101, 116, 95, 118, 97, 114] [112, 117, 116, 95, 118, 97, 108] _ (by decide +kernel)
 have c_get_atom : ((⟨#[115, 101, 116, 95, 118, 97, 114]⟩ : ByteArray).toList == (⟨#[103, 101, 116, 95, 97, 116, 111, 109]⟩ : ByteArray).toList) = false := eqS [115, 101, 116, 95, 118, 97, 114] [103, 101, 116, 95, 97, 116, 111, 109] _ (by decide +kernel)
 have c_put_atom : ((⟨#[115, 101, 116, 95, 118, 97, 114]⟩ : ByteArray).toList == (⟨#[112, 117, 116, 95, 97, 116, 111, 109]⟩ : ByteArray).toList) = false := eqS [115, 101, 116, 95, 118, 97, 114] [112, 117, 116, 95, 97, 116, 111, 109] _ (by decide +kernel)
 have c_get_int : ((⟨#[115, 101, 116, 95, 118, 97, 114]⟩ : ByteArray).toList == (⟨#[103, 101, 116, 95, 105, 110, 116]⟩ : ByteArray).toList) = false := eqS [115, 101, 116, 95, 118, 97, 114] [103, 101, 116, 95, 105, 110, 116] _ (by decide +kernel)
 have c_put_int : ((⟨#[115, 101, 116, 95, 118, 97, 114]⟩ : ByteArray).toList == (⟨#[112, 117, 116, 95, 105, 110, 116]⟩ : ByteArray).toList) = false := eqS [115, 101, 116, 95, 118, 97, 114] [112, 117, 116, 95, 105, 110, 116] _ (by decide +kernel)
 have c_get_str : ((⟨#[115, 101, 116, 95, 118, 97, 114]⟩ : ByteArray).toList == (⟨#[103, 101, 116, 95, 115, 116, 114]⟩ : ByteArray).toList) = false := eqS [115, 101, 116, 95, 118, 97, 114] [103, 101, 116, 95, 115, 116, 114] _ (by decide +kernel)
 have c_put_str : ((⟨#[115, 101, 116, 95, 118, 97, 114]⟩ : ByteArray).toList == (⟨#[112, 117, 116, 95, 115, 116, 114]⟩ : ByteArray).toList) = false := eqS [115, 101, 116, 95, 118, 97, 114] [112, 117, 116, 95, 115, 116, 114] _ (by decide +kernel)
 have c_uni_var : ((⟨#[115, 101, 116, 95, 118, 97, 114]⟩ : ByteArray).toList == (⟨#[117, 110, 105, 95, 118, 97, 114]⟩ : ByteArray).toList) = false := eqS [115, 101, 116, 95, 118, 97, 114] [117, 110, 105, 95, 118, 97, 114] _ (by decide +kernel)
 have c_uni_val : ((⟨#[115, 101, 116, 95, 118, 97, 114]⟩ : ByteArray).toList == (⟨#[117, 110, 105, 95, 118, 97, 108]⟩ : ByteArray).toList) = false := eqS [115, 101, 116, 95, 118, 97, 114] [117, 110, 105, 95, 118, 97, 108] _ (by decide +kernel)
 have c_set_var : ((⟨#[115, 101, 116, 95, 118, 97, 114]⟩ : ByteArray).toList == (⟨#[115, 101, 116, 95, 118, 97, 114]⟩ : ByteArray).toList) = true := eqS [115, 101, 116, 95, 118, 97, 114] [115, 101, 116, 95, 118, 97, 114] _ (by decide +kernel)
 go_enter Tryz.func73, Tryz.ntmps73
 go_wp2_with (go_at_call 14; refine HN.out.mono ?_; rintro e W1 ⟨rfl, hx⟩)
 go_ret
 exact ⟨rfl, hx⟩
set_option maxRecDepth 100000 in
theorem form_16 (w : World) : Calls Tryz.prog 73 #[.int .i64 16] w fun e w' => e = .returned (.string ⟨#[118]⟩) ∧ Ext w w' := by
 have HN : Hid (Calls Tryz.prog 14 #[.int .i64 16] w fun e w' => e = .returned (.string ⟨#[115, 101, 116, 95, 118, 97, 108]⟩) ∧ Ext w w') := Lib.hid (rName_any 16 w)
 have c_get_var : ((⟨#[115, 101, 116, 95, 118, 97, 108]⟩ : ByteArray).toList == (⟨#[103, 101, 116, 95, 118, 97, 114]⟩ : ByteArray).toList) = false := eqS [115, 101, 116, 95, 118, 97, 108] [103, 101, 116, 95, 118, 97, 114] _ (by decide +kernel)
 have c_get_val : ((⟨#[115, 101, 116, 95, 118, 97, 108]⟩ : ByteArray).toList == (⟨#[103, 101, 116, 95, 118, 97, 108]⟩ : ByteArray).toList) = false := eqS [115, 101, 116, 95, 118, 97, 108] [103, 101, 116, 95, 118, 97, 108] _ (by decide +kernel)
 have c_put_var : ((⟨#[115, 101, 116, 95, 118, 97, 108]⟩ : ByteArray).toList == (⟨#[112, 117, 116, 95, 118, 97, 114]⟩ : ByteArray).toList) = false := eqS [115, 101, 116, 95, 118, 97, 108] [112, 117, 116, 95, 118, 97, 114] _ (by decide +kernel)
 have c_put_val : ((⟨#[115, 101, 116, 95, 118, 97, 108]⟩ : ByteArray).toList == (⟨#[112, 117, 116, 95, 118, 97, 108]⟩ : ByteArray).toList) = false := eqS [115, 101, 116, 95, 118, 97, 108] [112, 117, 116, 95, 118, 97, 108] _ (by decide +kernel)
 have c_get_atom : ((⟨#[115, 101, 116, 95, 118, 97, 108]⟩ : ByteArray).toList == (⟨#[103, 101, 116, 95, 97, 116, 111, 109]⟩ : ByteArray).toList) = false := eqS [115, 101, 116, 95, 118, 97, 108] [103, 101, 116, 95, 97, 116, 111, 109] _ (by decide +kernel)
 have c_put_atom : ((⟨#[115, 101, 116, 95, 118, 97, 108]⟩ : ByteArray).toList == (⟨#[112, 117, 116, 95, 97, 116, 111, 109]⟩ : ByteArray).toList) = false := eqS [115, 101, 116, 95, 118, 97, 108] [112, 117, 116, 95, 97, 116, 111, 109] _ (by decide +kernel)
 have c_get_int : ((⟨#[115, 101, 116, 95, 118, 97, 108]⟩ : ByteArray).toList == (⟨#[103, 101, 116, 95, 105, 110, 116]⟩ : ByteArray).toList) = false := eqS [115, 101, 116, 95, 118, 97, 108] [103, 101, 116, 95, 105, 110, 116] _ (by decide +kernel)
 have c_put_int : ((⟨#[115, 101, 116, 95, 118, 97, 108]⟩ : ByteArray).toList == (⟨#[112, 117, 116, 95, 105, 110, 116]⟩ : ByteArray).toList) = false := eqS [115, 101, 116, 95, 118, 97, 108] [112, 117, 116, 95, 105, 110, 116] _ (by decide +kernel)
 have c_get_str : ((⟨#[115, 101, 116, 95, 118, 97, 108]⟩ : ByteArray).toList == (⟨#[103, 101, 116, 95, 115, 116, 114]⟩ : ByteArray).toList) = false := eqS [115, 101, 116, 95, 118, 97, 108] [103, 101, 116, 95, 115, 116, 114] _ (by decide +kernel)
 have c_put_str : ((⟨#[115, 101, 116, 95, 118, 97, 108]⟩ : ByteArray).toList == (⟨#[112, 117, 116, 95, 115, 116, 114]⟩ : ByteArray).toList) = false := eqS [115, 101, 116, 95, 118, 97, 108] [112, 117, 116, 95, 115, 116, 114] _ (by decide +kernel)
 have c_uni_var : ((⟨#[115, 101, 116, 95, 118, 97, 108]⟩ : ByteArray).toList == (⟨#[117, 110, 105, 95, 118, 97, 114]⟩ : ByteArray).toList) = false := eqS [115, 101, 116, 95, 118, 97, 108] [117, 110, 105, 95, 118, 97, 114] _ (by decide +kernel)
 have c_uni_val : ((⟨#[115, 101, 116, 95, 118, 97, 108]⟩ : ByteArray).toList == (⟨#[117, 110, 105, 95, 118, 97, 108]⟩ : ByteArray).toList) = false := eqS [115, 101, 116, 95, 118, 97, 108] [117, 110, 105, 95, 118, 97, 108] _ (by decide +kernel)
 have c_set_var : ((⟨#[115, 101, 116, 95, 118, 97, 108]⟩ : ByteArray).toList == (⟨#[115, 101, 116, 95, 118, 97, 114]⟩ : ByteArray).toList) = false := eqS [115, 101, 116, 95, 118, 97, 108] [115, 101, 116, 95, 118, 97, 114] _ (by decide +kernel)
 have c_set_val : ((⟨#[115, 101, 116, 95, 118, 97, 108]⟩ : ByteArray).toList == (⟨#[115, 101, 116, 95, 118, 97, 108]⟩ : ByteArray).toList) = true := eqS [115, 101, 116, 95, 118, 97, 108] [115, 101, 116, 95, 118, 97, 108] _ (by decide +kernel)
 go_enter Tryz.func73, Tryz.ntmps73
 go_wp2_with (go_at_call 14; refine HN.out.mono ?_; rintro e W1 ⟨rfl, hx⟩)
 go_ret
 exact ⟨rfl, hx⟩
set_option maxRecDepth 100000 in
theorem form_17 (w : World) : Calls Tryz.prog 73 #[.int .i64 17] w fun e w' => e = .returned (.string ⟨#[115]⟩) ∧ Ext w w' := by
 have HN : Hid (Calls Tryz.prog 14 #[.int .i64 17] w fun e w' => e = .returned (.string ⟨#[115, 101, 116, 95, 97, 116, 111, 109]⟩) ∧ Ext w w') := Lib.hid (rName_any 17 w)
 have c_get_var : ((⟨#[115, 101, 116, 95, 97, 116, 111, 109]⟩ : ByteArray).toList == (⟨#[103, 101, 116, 95, 118, 97, 114]⟩ : ByteArray).toList) = false := eqS [115, 101, 116, 95, 97, 116, 111, 109] [103, 101, 116, 95, 118, 97, 114] _ (by decide +kernel)
 have c_get_val : ((⟨#[115, 101, 116, 95, 97, 116, 111, 109]⟩ : ByteArray).toList == (⟨#[103, 101, 116, 95, 118, 97, 108]⟩ : ByteArray).toList) = false := eqS [115, 101, 116, 95, 97, 116, 111, 109] [103, 101, 116, 95, 118, 97, 108] _ (by decide +kernel)
 have c_put_var : ((⟨#[115, 101, 116, 95, 97, 116, 111, 109]⟩ : ByteArray).toList == (⟨#[112, 117, 116, 95, 118, 97, 114]⟩ : ByteArray).toList) = false := eqS [115, 101, 116, 95, 97, 116, 111, 109] [112, 117, 116, 95, 118, 97, 114] _ (by decide +kernel)
 have c_put_val : ((⟨#[115, 101, 116, 95, 97, 116, 111, 109]⟩ : ByteArray).toList == (⟨#[112, 117, 116, 95, 118, 97, 108]⟩ : ByteArray).toList) = false := eqS [115, 101, 116, 95, 97, 116, 111, 109] [112, 117, 116, 95, 118, 97, 108] _ (by decide +kernel)
 have c_get_atom : ((⟨#[115, 101, 116, 95, 97, 116, 111, 109]⟩ : ByteArray).toList == (⟨#[103, 101, 116, 95, 97, 116, 111, 109]⟩ : ByteArray).toList) = false := eqS [115, 101, 116, 95, 97, 116, 111, 109] [103, 101, 116, 95, 97, 116, 111, 109] _ (by decide +kernel)
 have c_put_atom : ((⟨#[115, 101, 116, 95, 97, 116, 111, 109]⟩ : ByteArray).toList == (⟨#[112, 117, 116, 95, 97, 116, 111, 109]⟩ : ByteArray).toList) = false := eqS [115, 101, 116, 95, 97, 116, 111, 109] [112, 117, 116, 95, 97, 116, 111, 109] _ (by decide +kernel)
 have c_get_int : ((⟨#[115, 101, 116, 95, 97, 116, 111, 109]⟩ : ByteArray).toList == (⟨#[103, 101, 116, 95, 105, 110, 116]⟩ : ByteArray).toList) = false := eqS [115, 101, 116, 95, 97, 116, 111, 109] [103, 101, 116, 95, 105, 110, 116] _ (by decide +kernel)
 have c_put_int : ((⟨#[115, 101, 116, 95, 97, 116, 111, 109]⟩ : ByteArray).toList == (⟨#[112, 117, 116, 95, 105, 110, 116]⟩ : ByteArray).toList) = false := eqS [115, 101, 116, 95, 97, 116, 111, 109] [112, 117, 116, 95, 105, 110, 116] _ (by decide +kernel)
 have c_get_str : ((⟨#[115, 101, 116, 95, 97, 116, 111, 109]⟩ : ByteArray).toList == (⟨#[103, 101, 116, 95, 115, 116, 114]⟩ : ByteArray).toList) = false := eqS [115, 101, 116, 95, 97, 116, 111, 109] [103, 101, 116, 95, 115, 116, 114] _ (by decide +kernel)
 have c_put_str : ((⟨#[115, 101, 116, 95, 97, 116, 111, 109]⟩ : ByteArray).toList == (⟨#[112, 117, 116, 95, 115, 116, 114]⟩ : ByteArray).toList) = false := eqS [115, 101, 116, 95, 97, 116, 111, 109] [112, 117, 116, 95, 115, 116, 114] _ (by decide +kernel)
 have c_uni_var : ((⟨#[115, 101, 116, 95, 97, 116, 111, 109]⟩ : ByteArray).toList == (⟨#[117, 110, 105, 95, 118, 97, 114]⟩ : ByteArray).toList) = false := eqS [115, 101, 116, 95, 97, 116, 111, 109] [117, 110, 105, 95, 118, 97, 114] _ (by decide +kernel)
 have c_uni_val : ((⟨#[115, 101, 116, 95, 97, 116, 111, 109]⟩ : ByteArray).toList == (⟨#[117, 110, 105, 95, 118, 97, 108]⟩ : ByteArray).toList) = false := eqS [115, 101, 116, 95, 97, 116, 111, 109] [117, 110, 105, 95, 118, 97, 108] _ (by decide +kernel)
 have c_set_var : ((⟨#[115, 101, 116, 95, 97, 116, 111, 109]⟩ : ByteArray).toList == (⟨#[115, 101, 116, 95, 118, 97, 114]⟩ : ByteArray).toList) = false := eqS [115, 101, 116, 95, 97, 116, 111, 109] [115, 101, 116, 95, 118, 97, 114] _ (by decide +kernel)
 have c_set_val : ((⟨#[115, 101, 116, 95, 97, 116, 111, 109]⟩ : ByteArray).toList == (⟨#[115, 101, 116, 95, 118, 97, 108]⟩ : ByteArray).toList) = false := eqS [115, 101, 116, 95, 97, 116, 111, 109] [115, 101, 116, 95, 118, 97, 108] _ (by decide +kernel)
 have c_level : ((⟨#[115, 101, 116, 95, 97, 116, 111, 109]⟩ : ByteArray).toList == (⟨#[108, 101, 118, 101, 108]⟩ : ByteArray).toList) = false := eqS [115, 101, 116, 95, 97, 116, 111, 109] [108, 101, 118, 101, 108] _ (by decide +kernel)
 have c_here : ((⟨#[115, 101, 116, 95, 97, 116, 111, 109]⟩ : ByteArray).toList == (⟨#[104, 101, 114, 101]⟩ : ByteArray).toList) = false := eqS [115, 101, 116, 95, 97, 116, 111, 109] [104, 101, 114, 101] _ (by decide +kernel)
 have c_cut : ((⟨#[115, 101, 116, 95, 97, 116, 111, 109]⟩ : ByteArray).toList == (⟨#[99, 117, 116]⟩ : ByteArray).toList) = false := eqS [115, 101, 116, 95, 97, 116, 111, 109] [99, 117, 116] _ (by decide +kernel)
 have c_uni_atom : ((⟨#[115, 101, 116, 95, 97, 116, 111, 109]⟩ : ByteArray).toList == (⟨#[117, 110, 105, 95, 97, 116, 111, 109]⟩ : ByteArray).toList) = false := eqS [115, 101, 116, 95, 97, 116, 111, 109] [117, 110, 105, 95, 97, 116, 111, 109] _ (by decide +kernel)
 have c_set_atom : ((⟨#[115, 101, 116, 95, 97, 116, 111, 109]⟩ : ByteArray).toList == (⟨#[115, 101, 116, 95, 97, 116, 111, 109]⟩ : ByteArray).toList) = true := eqS [115, 101, 116, 95, 97, 116, 111, 109] [115, 101, 116, 95, 97, 116, 111, 109] _ (by decide +kernel)
 go_enter Tryz.func73, Tryz.ntmps73
 go_wp2_with (go_at_call 14; refine HN.out.mono ?_; rintro e W1 ⟨rfl, hx⟩)
 go_ret
 exact ⟨rfl, hx⟩
set_option maxRecDepth 100000 in
theorem form_18 (w : World) : Calls Tryz.prog 73 #[.int .i64 18] w fun e w' => e = .returned (.string ⟨#[110]⟩) ∧ Ext w w' := by
 have HN : Hid (Calls Tryz.prog 14 #[.int .i64 18] w fun e w' => e = .returned (.string ⟨#[115, 101, 116, 95, 105, 110, 116]⟩) ∧ Ext w w') := Lib.hid (rName_any 18 w)
 have c_get_var : ((⟨#[115, 101, 116, 95, 105, 110, 116]⟩ : ByteArray).toList == (⟨#[103, 101, 116, 95, 118, 97, 114]⟩ : ByteArray).toList) = false := eqS [115, 101, 116, 95, 105, 110, 116] [103, 101, 116, 95, 118, 97, 114] _ (by decide +kernel)
 have c_get_val : ((⟨#[115, 101, 116, 95, 105, 110, 116]⟩ : ByteArray).toList == (⟨#[103, 101, 116, 95, 118, 97, 108]⟩ : ByteArray).toList) = false := eqS [115, 101, 116, 95, 105, 110, 116] [103, 101, 116, 95, 118, 97, 108] _ (by decide +kernel)
 have c_put_var : ((⟨#[115, 101, 116, 95, 105, 110, 116]⟩ : ByteArray).toList == (⟨#[112, 117, 116, 95, 118, 97, 114]⟩ : ByteArray).toList) = false := eqS [115, 101, 116, 95, 105, 110, 116] [112, 117, 116, 95, 118, 97, 114] _ (by decide +kernel)
 have c_put_val : ((⟨#[115, 101, 116, 95, 105, 110, 116]⟩ : ByteArray).toList == (⟨#[112, 117, 116, 95, 118, 97, 108]⟩ : ByteArray).toList) = false := eqS [115, 101, 116, 95, 105, 110, 116] [112, 117, 116, 95, 118, 97, 108] _ (by decide +kernel)
 have c_get_atom : ((⟨#[115, 101, 116, 95, 105, 110, 116]⟩ : ByteArray).toList == (⟨#[103, 101, 116, 95, 97, 116, 111, 109]⟩ : ByteArray).toList) = false := eqS [115, 101, 116, 95, 105, 110, 116] [103, 101, 116, 95, 97, 116, 111, 109] _ (by decide +kernel)
 have c_put_atom : ((⟨#[115, 101, 116, 95, 105, 110, 116]⟩ : ByteArray).toList == (⟨#[112, 117, 116, 95, 97, 116, 111, 109]⟩ : ByteArray).toList) = false := eqS [115, 101, 116, 95, 105, 110, 116] [112, 117, 116, 95, 97, 116, 111, 109] _ (by decide +kernel)
 have c_get_int : ((⟨#[115, 101, 116, 95, 105, 110, 116]⟩ : ByteArray).toList == (⟨#[103, 101, 116, 95, 105, 110, 116]⟩ : ByteArray).toList) = false := eqS [115, 101, 116, 95, 105, 110, 116] [103, 101, 116, 95, 105, 110, 116] _ (by decide +kernel)
 have c_put_int : ((⟨#[115, 101, 116, 95, 105, 110, 116]⟩ : ByteArray).toList == (⟨#[112, 117, 116, 95, 105, 110, 116]⟩ : ByteArray).toList) = false := eqS [115, 101, 116, 95, 105, 110, 116] [112, 117, 116, 95, 105, 110, 116] _ (by decide +kernel)
 have c_get_str : ((⟨#[115, 101, 116, 95, 105, 110, 116]⟩ : ByteArray).toList == (⟨#[103, 101, 116, 95, 115, 116, 114]⟩ : ByteArray).toList) = false := eqS [115, 101, 116, 95, 105, 110, 116] [103, 101, 116, 95, 115, 116, 114] _ (by decide +kernel)
 have c_put_str : ((⟨#[115, 101, 116, 95, 105, 110, 116]⟩ : ByteArray).toList == (⟨#[112, 117, 116, 95, 115, 116, 114]⟩ : ByteArray).toList) = false := eqS [115, 101, 116, 95, 105, 110, 116] [112, 117, 116, 95, 115, 116, 114] _ (by decide +kernel)
 have c_uni_var : ((⟨#[115, 101, 116, 95, 105, 110, 116]⟩ : ByteArray).toList == (⟨#[117, 110, 105, 95, 118, 97, 114]⟩ : ByteArray).toList) = false := eqS [115, 101, 116, 95, 105, 110, 116] [117, 110, 105, 95, 118, 97, 114] _ (by decide +kernel)
 have c_uni_val : ((⟨#[115, 101, 116, 95, 105, 110, 116]⟩ : ByteArray).toList == (⟨#[117, 110, 105, 95, 118, 97, 108]⟩ : ByteArray).toList) = false := eqS [115, 101, 116, 95, 105, 110, 116] [117, 110, 105, 95, 118, 97, 108] _ (by decide +kernel)
 have c_set_var : ((⟨#[115, 101, 116, 95, 105, 110, 116]⟩ : ByteArray).toList == (⟨#[115, 101, 116, 95, 118, 97, 114]⟩ : ByteArray).toList) = false := eqS [115, 101, 116, 95, 105, 110, 116] [115, 101, 116, 95, 118, 97, 114] _ (by decide +kernel)
 have c_set_val : ((⟨#[115, 101, 116, 95, 105, 110, 116]⟩ : ByteArray).toList == (⟨#[115, 101, 116, 95, 118, 97, 108]⟩ : ByteArray).toList) = false := eqS [115, 101, 116, 95, 105, 110, 116] [115, 101, 116, 95, 118, 97, 108] _ (by decide +kernel)
 have c_level : ((⟨#[115, 101, 116, 95, 105, 110, 116]⟩ : ByteArray).toList == (⟨#[108, 101, 118, 101, 108]⟩ : ByteArray).toList) = false := eqS [115, 101, 116, 95, 105, 110, 116] [108, 101, 118, 101, 108] _ (by decide +kernel)
 have c_here : ((⟨#[115, 101, 116, 95, 105, 110, 116]⟩ : ByteArray).toList == (⟨#[104, 101, 114, 101]⟩ : ByteArray).toList) = false := eqS [115, 101, 116, 95, 105, 110, 116] [104, 101, 114, 101] _ (by decide +kernel)
 have c_cut : ((⟨#[115, 101, 116, 95, 105, 110, 116]⟩ : ByteArray).toList == (⟨#[99, 117, 116]⟩ : ByteArray).toList) = false := eqS [115, 101, 116, 95, 105, 110, 116] [99, 117, 116] _ (by decide +kernel)
 have c_uni_atom : ((⟨#[115, 101, 116, 95, 105, 110, 116]⟩ : ByteArray).toList == (⟨#[117, 110, 105, 95, 97, 116, 111, 109]⟩ : ByteArray).toList) = false := eqS [115, 101, 116, 95, 105, 110, 116] [117, 110, 105, 95, 97, 116, 111, 109] _ (by decide +kernel)
 have c_set_atom : ((⟨#[115, 101, 116, 95, 105, 110, 116]⟩ : ByteArray).toList == (⟨#[115, 101, 116, 95, 97, 116, 111, 109]⟩ : ByteArray).toList) = false := eqS [115, 101, 116, 95, 105, 110, 116] [115, 101, 116, 95, 97, 116, 111, 109] _ (by decide +kernel)
 have c_uni_int : ((⟨#[115, 101, 116, 95, 105, 110, 116]⟩ : ByteArray).toList == (⟨#[117, 110, 105, 95, 105, 110, 116]⟩ : ByteArray).toList) = false := eqS [115, 101, 116, 95, 105, 110, 116] [117, 110, 105, 95, 105, 110, 116] _ (by decide +kernel)
 have c_set_int : ((⟨#[115, 101, 116, 95, 105, 110, 116]⟩ : ByteArray).toList == (⟨#[115, 101, 116, 95, 105, 110, 116]⟩ : ByteArray).toList) = true := eqS [115, 101, 116, 95, 105, 110, 116] [115, 101, 116, 95, 105, 110, 116] _ (by decide +kernel)
 go_enter Tryz.func73, Tryz.ntmps73
 go_wp2_with (go_at_call 14; refine HN.out.mono ?_; rintro e W1 ⟨rfl, hx⟩)
 go_ret
 exact ⟨rfl, hx⟩
set_option maxRecDepth 100000 in
theorem form_19 (w : World) : Calls Tryz.prog 73 #[.int .i64 19] w fun e w' => e = .returned (.string ⟨#[101]⟩) ∧ Ext w w' := by
 have HN : Hid (Calls Tryz.prog 14 #[.int .i64 19] w fun e w' => e = .returned (.string ⟨#[97, 108, 108, 111, 99]⟩) ∧ Ext w w') := Lib.hid (rName_any 19 w)
 have c_get_var : ((⟨#[97, 108, 108, 111, 99]⟩ : ByteArray).toList == (⟨#[103, 101, 116, 95, 118, 97, 114]⟩ : ByteArray).toList) = false := eqS [97, 108, 108, 111, 99] [103, 101, 116, 95, 118, 97, 114] _ (by decide +kernel)
 have c_get_val : ((⟨#[97, 108, 108, 111, 99]⟩ : ByteArray).toList == (⟨#[103, 101, 116, 95, 118, 97, 108]⟩ : ByteArray).toList) = false := eqS [97, 108, 108, 111, 99] [103, 101, 116, 95, 118, 97, 108] _ (by decide +kernel)
 have c_put_var : ((⟨#[97, 108, 108, 111, 99]⟩ : ByteArray).toList == (⟨#[112, 117, 116, 95, 118, 97, 114]⟩ : ByteArray).toList) = false := eqS [97, 108, 108, 111, 99] [112, 117, 116, 95, 118, 97, 114] _ (by decide +kernel)
 have c_put_val : ((⟨#[97, 108, 108, 111, 99]⟩ : ByteArray).toList == (⟨#[112, 117, 116, 95, 118, 97, 108]⟩ : ByteArray).toList) = false := eqS [97, 108, 108, 111, 99] [112, 117, 116, 95, 118, 97, 108] _ (by decide +kernel)
 have c_get_atom : ((⟨#[97, 108, 108, 111, 99]⟩ : ByteArray).toList == (⟨#[103, 101, 116, 95, 97, 116, 111, 109]⟩ : ByteArray).toList) = false := eqS [97, 108, 108, 111, 99] [103, 101, 116, 95, 97, 116, 111, 109] _ (by decide +kernel)
 have c_put_atom : ((⟨#[97, 108, 108, 111, 99]⟩ : ByteArray).toList == (⟨#[112, 117, 116, 95, 97, 116, 111, 109]⟩ : ByteArray).toList) = false := eqS [97, 108, 108, 111, 99] [112, 117, 116, 95, 97, 116, 111, 109] _ (by decide +kernel)
 have c_get_int : ((⟨#[97, 108, 108, 111, 99]⟩ : ByteArray).toList == (⟨#[103, 101, 116, 95, 105, 110, 116]⟩ : ByteArray).toList) = false := eqS [97, 108, 108, 111, 99] [103, 101, 116, 95, 105, 110, 116] _ (by decide +kernel)
 have c_put_int : ((⟨#[97, 108, 108, 111, 99]⟩ : ByteArray).toList == (⟨#[112, 117, 116, 95, 105, 110, 116]⟩ : ByteArray).toList) = false := eqS [97, 108, 108, 111, 99] [112, 117, 116, 95, 105, 110, 116] _ (by decide +kernel)
 have c_get_str : ((⟨#[97, 108, 108, 111, 99]⟩ : ByteArray).toList == (⟨#[103, 101, 116, 95, 115, 116, 114]⟩ : ByteArray).toList) = false := eqS [97, 108, 108, 111, 99] [103, 101, 116, 95, 115, 116, 114] _ (by decide +kernel)
 have c_put_str : ((⟨#[97, 108, 108, 111, 99]⟩ : ByteArray).toList == (⟨#[112, 117, 116, 95, 115, 116, 114]⟩ : ByteArray).toList) = false := eqS [97, 108, 108, 111, 99] [112, 117, 116, 95, 115, 116, 114] _ (by decide +kernel)
 have c_uni_var : ((⟨#[97, 108, 108, 111, 99]⟩ : ByteArray).toList == (⟨#[117, 110, 105, 95, 118, 97, 114]⟩ : ByteArray).toList) = false := eqS [97, 108, 108, 111, 99] [117, 110, 105, 95, 118, 97, 114] _ (by decide +kernel)
 have c_uni_val : ((⟨#[97, 108, 108, 111, 99]⟩ : ByteArray).toList == (⟨#[117, 110, 105, 95, 118, 97, 108]⟩ : ByteArray).toList) = false := eqS [97, 108, 108, 111, 99] [117, 110, 105, 95, 118, 97, 108] _ (by decide +kernel)
 have c_set_var : ((⟨#[97, 108, 108, 111, 99]⟩ : ByteArray).toList == (⟨#[115, 101, 116, 95, 118, 97, 114]⟩ : ByteArray).toList) = false := eqS [97, 108, 108, 111, 99] [115, 101, 116, 95, 118, 97, 114] _ (by decide +kernel)
 have c_set_val : ((⟨#[97, 108, 108, 111, 99]⟩ : ByteArray).toList == (⟨#[115, 101, 116, 95, 118, 97, 108]⟩ : ByteArray).toList) = false := eqS [97, 108, 108, 111, 99] [115, 101, 116, 95, 118, 97, 108] _ (by decide +kernel)
 have c_level : ((⟨#[97, 108, 108, 111, 99]⟩ : ByteArray).toList == (⟨#[108, 101, 118, 101, 108]⟩ : ByteArray).toList) = false := eqS [97, 108, 108, 111, 99] [108, 101, 118, 101, 108] _ (by decide +kernel)
 have c_here : ((⟨#[97, 108, 108, 111, 99]⟩ : ByteArray).toList == (⟨#[104, 101, 114, 101]⟩ : ByteArray).toList) = false := eqS [97, 108, 108, 111, 99] [104, 101, 114, 101] _ (by decide +kernel)
 have c_cut : ((⟨#[97, 108, 108, 111, 99]⟩ : ByteArray).toList == (⟨#[99, 117, 116]⟩ : ByteArray).toList) = false := eqS [97, 108, 108, 111, 99] [99, 117, 116] _ (by decide +kernel)
 have c_uni_atom : ((⟨#[97, 108, 108, 111, 99]⟩ : ByteArray).toList == (⟨#[117, 110, 105, 95, 97, 116, 111, 109]⟩ : ByteArray).toList) = false := eqS [97, 108, 108, 111, 99] [117, 110, 105, 95, 97, 116, 111, 109] _ (by decide +kernel)
 have c_set_atom : ((⟨#[97, 108, 108, 111, 99]⟩ : ByteArray).toList == (⟨#[115, 101, 116, 95, 97, 116, 111, 109]⟩ : ByteArray).toList) = false := eqS [97, 108, 108, 111, 99] [115, 101, 116, 95, 97, 116, 111, 109] _ (by decide +kernel)
 have c_uni_int : ((⟨#[97, 108, 108, 111, 99]⟩ : ByteArray).toList == (⟨#[117, 110, 105, 95, 105, 110, 116]⟩ : ByteArray).toList) = false := eqS [97, 108, 108, 111, 99] [117, 110, 105, 95, 105, 110, 116] _ (by decide +kernel)
 have c_set_int : ((⟨#[97, 108, 108, 111, 99]⟩ : ByteArray).toList == (⟨#[115, 101, 116, 95, 105, 110, 116]⟩ : ByteArray).toList) = false := eqS [97, 108, 108, 111, 99] [115, 101, 116, 95, 105, 110, 116] _ (by decide +kernel)
 have c_alloc : ((⟨#[97, 108, 108, 111, 99]⟩ : ByteArray).toList == (⟨#[97, 108, 108, 111, 99]⟩ : ByteArray).toList) = true := eqS [97, 108, 108, 111, 99] [97, 108, 108, 111, 99] _ (by decide +kernel)
 go_enter Tryz.func73, Tryz.ntmps73
 go_wp2_with (go_at_call 14; refine HN.out.mono ?_; rintro e W1 ⟨rfl, hx⟩)
 go_ret
 exact ⟨rfl, hx⟩
set_option maxRecDepth 100000 in
theorem form_20 (w : World) : Calls Tryz.prog 73 #[.int .i64 20] w fun e w' => e = .returned (.string ⟨#[]⟩) ∧ Ext w w' := by
 have HN : Hid (Calls Tryz.prog 14 #[.int .i64 20] w fun e w' => e = .returned (.string ⟨#[100, 101, 97, 108, 108, 111, 99]⟩) ∧ Ext w w') := Lib.hid (rName_any 20 w)
 have c_get_var : ((⟨#[100, 101, 97, 108, 108, 111, 99]⟩ : ByteArray).toList == (⟨#[103, 101, 116, 95, 118, 97, 114]⟩ : ByteArray).toList) = false := eqS [100, 101, 97, 108, 108, 111, 99] [103, 101, 116, 95, 118, 97, 114] _ (by decide +kernel)
 have c_get_val : ((⟨#[100, 101, 97, 108, 108, 111, 99]⟩ : ByteArray).toList == (⟨#[103, 101, 116, 95, 118, 97, 108]⟩ : ByteArray).toList) = false := eqS [100, 101, 97, 108, 108, 111, 99] [103, 101, 116, 95, 118, 97, 108] _ (by decide +kernel)
 have c_put_var : ((⟨#[100, 101, 97, 108, 108, 111, 99]⟩ : ByteArray).toList == (⟨#[112, 117, 116, 95, 118, 97, 114]⟩ : ByteArray).toList) = false := eqS [100, 101, 97, 108, 108, 111, 99] [112, 117, 116, 95, 118, 97, 114] _ (by decide +kernel)
 have c_put_val : ((⟨#[100, 101, 97, 108, 108, 111, 99]⟩ : ByteArray).toList == (⟨#[112, 117, 116, 95, 118, 97, 108]⟩ : ByteArray).toList) = false := eqS [100, 101, 97, 108, 108, 111, 99] [112, 117, 116, 95, 118, 97, 108] _ (by decide +kernel)
 have c_get_atom : ((⟨#[100, 101, 97, 108, 108, 111, 99]⟩ : ByteArray).toList == (⟨#[103, 101, 116, 95, 97, 116, 111, 109]⟩ : ByteArray).toList) = false := eqS [100, 101, 97, 108, 108, 111, 99] [103, 101, 116, 95, 97, 116, 111, 109] _ (by decide +kernel)
 have c_put_atom : ((⟨#[100, 101, 97, 108, 108, 111, 99]⟩ : ByteArray).toList == (⟨#[112, 117, 116, 95, 97, 116, 111, 109]⟩ : ByteArray).toList) = false := eqS [100, 101, 97, 108, 108, 111, 99] [112, 117, 116, 95, 97, 116, 111, 109] _ (by decide +kernel)
 have c_get_int : ((⟨#[100, 101, 97, 108, 108, 111, 99]⟩ : ByteArray).toList == (⟨#[103, 101, 116, 95, 105, 110, 116]⟩ : ByteArray).toList) = false := eqS [100, 101, 97, 108, 108, 111, 99] [103, 101, 116, 95, 105, 110, 116] _ (by decide +kernel)
 have c_put_int : ((⟨#[100, 101, 97, 108, 108, 111, 99]⟩ : ByteArray).toList == (⟨#[112, 117, 116, 95, 105, 110, 116]⟩ : ByteArray).toList) = false := eqS [100, 101, 97, 108, 108, 111, 99] [112, 117, 116, 95, 105, 110, 116] _ (by decide +kernel)
 have c_get_str : ((⟨#[100, 101, 97, 108, 108, 111, 99]⟩ : ByteArray).toList == (⟨#[103, 101, 116, 95, 115, 116, 114]⟩ : ByteArray).toList) = false := eqS [100, 101, 97, 108, 108, 111, 99] [103, 101, 116, 95, 115, 116, 114] _ (by decide +kernel)
 have c_put_str : ((⟨#[100, 101, 97, 108, 108, 111, 99]⟩ : ByteArray).toList == (⟨#[112, 117, 116, 95, 115, 116, 114]⟩ : ByteArray).toList) = false := eqS [100, 101, 97, 108, 108, 111, 99] [112, 117, 116, 95, 115, 116, 114] _ (by decide +kernel)
 have c_uni_var : ((⟨#[100, 101, 97, 108, 108, 111, 99]⟩ : ByteArray).toList == (⟨#[117, 110, 105, 95, 118, 97, 114]⟩ : ByteArray).toList) = false := eqS [100, 101, 97, 108, 108, 111, 99] [117, 110, 105, 95, 118, 97, 114] _ (by decide +kernel)
 have c_uni_val : ((⟨#[100, 101, 97, 108, 108, 111, 99]⟩ : ByteArray).toList == (⟨#[117, 110, 105, 95, 118, 97, 108]⟩ : ByteArray).toList) = false := eqS [100, 101, 97, 108, 108, 111, 99] [117, 110, 105, 95, 118, 97, 108] _ (by decide +kernel)
 have c_set_var : ((⟨#[100, 101, 97, 108, 108, 111, 99]⟩ : ByteArray).toList == (⟨#[115, 101, 116, 95, 118, 97, 114]⟩ : ByteArray).toList) = false := eqS [100, 101, 97, 108, 108, 111, 99] [115, 101, 116, 95, 118, 97, 114] _ (by decide +kernel)
 have c_set_val : ((⟨#[100, 101, 97, 108, 108, 111, 99]⟩ : ByteArray).toList == (⟨#[115, 101, 116, 95, 118, 97, 108]⟩ : ByteArray).toList) = false := eqS [100, 101, 97, 108, 108, 111, 99] [115, 101, 116, 95, 118, 97, 108] _ (by decide +kernel)
 have c_level : ((⟨#[100, 101, 97, 108, 108, 111, 99]⟩ : ByteArray).toList == (⟨#[108, 101, 118, 101, 108]⟩ : ByteArray).toList) = false := eqS [100, 101, 97, 108, 108, 111, 99] [108, 101, 118, 101, 108] _ (by decide +kernel)
 have c_here : ((⟨#[100, 101, 97, 108, 108, 111, 99]⟩ : ByteArray).toList == (⟨#[104, 101, 114, 101]⟩ : ByteArray).toList) = false := eqS [100, 101, 97, 108, 108, 111, 99] [104, 101, 114, 101] _ (by decide +kernel)
 have c_cut : ((⟨#[100, 101, 97, 108, 108, 111, 99]⟩ : ByteArray).toList == (⟨#[99, 117, 116]⟩ : ByteArray).toList) = false := eqS [100, 101, 97, 108, 108, 111, 99] [99, 117, 116] _ (by decide +kernel)
 have c_uni_atom : ((⟨#[100, 101, 97, 108, 108, 111, 99]⟩ : ByteArray).toList == (⟨#[117, 110, 105, 95, 97, 116, 111, 109]⟩ : ByteArray).toList) = false := eqS [100, 101, 97, 108, 108, 111, 99] [117, 110, 105, 95, 97, 116, 111, 109] _ (by decide +kernel)
 have c_set_atom : ((⟨#[100, 101, 97, 108, 108, 111, 99]⟩ : ByteArray).toList == (⟨#[115, 101, 116, 95, 97, 116, 111, 109]⟩ : ByteArray).toList) = false := eqS [100, 101, 97, 108, 108, 111, 99] [115, 101, 116, 95, 97, 116, 111, 109] _ (by decide +kernel)
 have c_uni_int : ((⟨#[100, 101, 97, 108, 108, 111, 99]⟩ : ByteArray).toList == (⟨#[117, 110, 105, 95, 105, 110, 116]⟩ : ByteArray).toList) = false := eqS [100, 101, 97, 108, 108, 111, 99] [117, 110, 105, 95, 105, 110, 116] _ (by decide +kernel)
 have c_set_int : ((⟨#[100, 101, 97, 108, 108, 111, 99]⟩ : ByteArray).toList == (⟨#[115, 101, 116, 95, 105, 110, 116]⟩ : ByteArray).toList) = false := eqS [100, 101, 97, 108, 108, 111, 99] [115, 101, 116, 95, 105, 110, 116] _ (by decide +kernel)
 have c_alloc : ((⟨#[100, 101, 97, 108, 108, 111, 99]⟩ : ByteArray).toList == (⟨#[97, 108, 108, 111, 99]⟩ : ByteArray).toList) = false := eqS [100, 101, 97, 108, 108, 111, 99] [97, 108, 108, 111, 99] _ (by decide +kernel)
 have c_call : ((⟨#[100, 101, 97, 108, 108, 111, 99]⟩ : ByteArray).toList == (⟨#[99, 97, 108, 108]⟩ : ByteArray).toList) = false := eqS [100, 101, 97, 108, 108, 111, 99] [99, 97, 108, 108] _ (by decide +kernel)
 have c_exec : ((⟨#[100, 101, 97, 108, 108, 111, 99]⟩ : ByteArray).toList == (⟨#[101, 120, 101, 99]⟩ : ByteArray).toList) = false := eqS [100, 101, 97, 108, 108, 111, 99] [101, 120, 101, 99] _ (by decide +kernel)
 have c_body : ((⟨#[100, 101, 97, 108, 108, 111, 99]⟩ : ByteArray).toList == (⟨#[98, 111, 100, 121]⟩ : ByteArray).toList) = false := eqS [100, 101, 97, 108, 108, 111, 99] [98, 111, 100, 121] _ (by decide +kernel)
 go_enter Tryz.func73, Tryz.ntmps73
 go_wp2_with (go_at_call 14; refine HN.out.mono ?_; rintro e W1 ⟨rfl, hx⟩)
 go_ret
 exact ⟨rfl, hx⟩
set_option maxRecDepth 100000 in
theorem form_21 (w : World) : Calls Tryz.prog 73 #[.int .i64 21] w fun e w' => e = .returned (.string ⟨#[112, 108]⟩) ∧ Ext w w' := by
 have HN : Hid (Calls Tryz.prog 14 #[.int .i64 21] w fun e w' => e = .returned (.string ⟨#[99, 97, 108, 108]⟩) ∧ Ext w w') := Lib.hid (rName_any 21 w)
 have c_get_var : ((⟨#[99, 97, 108, 108]⟩ : ByteArray).toList == (⟨#[103, 101, 116, 95, 118, 97, 114]⟩ : ByteArray).toList) = false := eqS [99, 97, 108, 108] [103, 101, 116, 95, 118, 97, 114] _ (by decide +kernel)
 have c_get_val : ((⟨#[99, 97, 108, 108]⟩ : ByteArray).toList == (⟨#[103, 101, 116, 95, 118, 97, 108]⟩ : ByteArray).toList) = false := eqS [99, 97, 108, 108] [103, 101, 116, 95, 118, 97, 108] _ (by decide +kernel)
 have c_put_var : ((⟨#[99, 97, 108, 108]⟩ : ByteArray).toList == (⟨#[112, 117, 116, 95, 118, 97, 114]⟩ : ByteArray).toList) = false := eqS [99, 97, 108, 108] [112, 117, 116, 95, 118, 97, 114] _ (by decide +kernel)
 have c_put_val : ((⟨#[99, 97, 108, 108]⟩ : ByteArray).toList == (⟨#[112, 117, 116, 95, 118, 97, 108]⟩ : ByteArray).toList) = false := eqS [99, 97, 108, 108] [112, 117, 116, 95, 118, 97, 108] _ (by decide +kernel)
 have c_get_atom : ((⟨#[99, 97, 108, 108]⟩ : ByteArray).toList == (⟨#[103, 101, 116, 95, 97, 116, 111, 109]⟩ : ByteArray).toList) = false := eqS [99, 97, 108, 108] [103, 101, 116, 95, 97, 116, 111, 109] _ (by decide +kernel)
 have c_put_atom : ((⟨#[99, 97, 108, 108]⟩ : ByteArray).toList == (⟨#[112, 117, 116, 95, 97, 116, 111, 109]⟩ : ByteArray).toList) = false := eqS [99, 97, 108, 108] [112, 117, 116, 95, 97, 116, 111, 109] _ (by decide +kernel)
 have c_get_int : ((⟨#[99, 97, 108, 108]⟩ : ByteArray).toList == (⟨#[103, 101, 116, 95, 105, 110, 116]⟩ : ByteArray).toList) = false := eqS [99, 97, 108, 108] [103, 101, 116, 95, 105, 110, 116] _ (by decide +kernel)
 have c_put_int : ((⟨#[99, 97, 108, 108]⟩ : ByteArray).toList == (⟨#[112, 117, 116, 95, 105, 110, 116]⟩ : ByteArray).toList) = false := eqS [99, 97, 108, 108] [112, 117, 116, 95, 105, 110, 116] _ (by decide +kernel)
 have c_get_str : ((⟨#[99, 97, 108, 108]⟩ : ByteArray).toList == (⟨#[103, 101, 116, 95, 115, 116, 114]⟩ : ByteArray).toList) = false := eqS [99, 97, 108, 108] [103, 101, 116, 95, 115, 116, 114] _ (by decide +kernel)
 have c_put_str : ((⟨#[99, 97, 108, 108]⟩ : ByteArray).toList == (⟨#[112, 117, 116, 95, 115, 116, 114]⟩ : ByteArray).toList) = false := eqS [99, 97, 108, 108] [112, 117, 116, 95, 115, 116, 114] _ (by decide +kernel)
 have c_uni_var : ((⟨#[99, 97, 108, 108]⟩ : ByteArray).toList == (⟨#[117, 110, 105, 95, 118, 97, 114]⟩ : ByteArray).toList) = false := eqS [99, 97, 108, 108] [117, 110, 105, 95, 118, 97, 114] _ (by decide +kernel)
 have c_uni_val : ((⟨#[99, 97, 108, 108]⟩ : ByteArray).toList == (⟨#[117, 110, 105, 95, 118, 97, 108]⟩ : ByteArray).toList) = false := eqS [99, 97, 108, 108] [117, 110, 105, 95, 118, 97, 108] _ (by decide +kernel)
 have c_set_var : ((⟨#[99, 97, 108, 108]⟩ : ByteArray).toList == (⟨#[115, 101, 116, 95, 118, 97, 114]⟩ : ByteArray).toList) = false := eqS [99, 97, 108, 108] [115, 101, 116, 95, 118, 97, 114] _ (by decide +kernel)
 have c_set_val : ((⟨#[99, 97, 108, 108]⟩ : ByteArray).toList == (⟨#[115, 101, 116, 95, 118, 97, 108]⟩ : ByteArray).toList) = false := eqS [99, 97, 108, 108] [115, 101, 116, 95, 118, 97, 108] _ (by decide +kernel)
 have c_level : ((⟨#[99, 97, 108, 108]⟩ : ByteArray).toList == (⟨#[108, 101, 118, 101, 108]⟩ : ByteArray).toList) = false := eqS [99, 97, 108, 108] [108, 101, 118, 101, 108] _ (by decide +kernel)
 have c_here : ((⟨#[99, 97, 108, 108]⟩ : ByteArray).toList == (⟨#[104, 101, 114, 101]⟩ : ByteArray).toList) = false := eqS [99, 97, 108, 108] [104, 101, 114, 101] _ (by decide +kernel)
 have c_cut : ((⟨#[99, 97, 108, 108]⟩ : ByteArray).toList == (⟨#[99, 117, 116]⟩ : ByteArray).toList) = false := eqS [99, 97, 108, 108] [99, 117, 116] _ (by decide +kernel)
 have c_uni_atom : ((⟨#[99, 97, 108, 108]⟩ : ByteArray).toList == (⟨#[117, 110, 105, 95, 97, 116, 111, 109]⟩ : ByteArray).toList) = false := eqS [99, 97, 108, 108] [117, 110, 105, 95, 97, 116, 111, 109] _ (by decide +kernel)
 have c_set_atom : ((⟨#[99, 97, 108, 108]⟩ : ByteArray).toList == (⟨#[115, 101, 116, 95, 97, 116, 111, 109]⟩ : ByteArray).toList) = false := eqS [99, 97, 108, 108] [115, 101, 116, 95, 97, 116, 111, 109] _ (by decide +kernel)
 have c_uni_int : ((⟨#[99, 97, 108, 108]⟩ : ByteArray).toList == (⟨#[117, 110, 105, 95, 105, 110, 116]⟩ : ByteArray).toList) = false := eqS [99, 97, 108, 108] [117, 110, 105, 95, 105, 110, 116] _ (by decide +kernel)
 have c_set_int : ((⟨#[99, 97, 108, 108]⟩ : ByteArray).toList == (⟨#[115, 101, 116, 95, 105, 110, 116]⟩ : ByteArray).toList) = false := eqS [99, 97, 108, 108] [115, 101, 116, 95, 105, 110, 116] _ (by decide +kernel)
 have c_alloc : ((⟨#[99, 97, 108, 108]⟩ : ByteArray).toList == (⟨#[97, 108, 108, 111, 99]⟩ : ByteArray).toList) = false := eqS [99, 97, 108, 108] [97, 108, 108, 111, 99] _ (by decide +kernel)
 have c_call : ((⟨#[99, 97, 108, 108]⟩ : ByteArray).toList == (⟨#[99, 97, 108, 108]⟩ : ByteArray).toList) = true := eqS [99, 97, 108, 108] [99, 97, 108, 108] _ (by decide +kernel)
 go_enter Tryz.func73, Tryz.ntmps73
 go_wp2_with (go_at_call 14; refine HN.out.mono ?_; rintro e W1 ⟨rfl, hx⟩)
 go_ret
 exact ⟨rfl, hx⟩
set_option maxRecDepth 100000 in
theorem form_22 (w : World) : Calls Tryz.prog 73 #[.int .i64 22] w fun e w' => e = .returned (.string ⟨#[112]⟩) ∧ Ext w w' := by
 have HN : Hid (Calls Tryz.prog 14 #[.int .i64 22] w fun e w' => e = .returned (.string ⟨#[101, 120, 101, 99]⟩) ∧ Ext w w') := Lib.hid (rName_any 22 w)
 have c_get_var : ((⟨#[101, 120, 101, 99]⟩ : ByteArray).toList == (⟨#[103, 101, 116, 95, 118, 97, 114]⟩ : ByteArray).toList) = false := eqS [101, 120, 101, 99] [103, 101, 116, 95, 118, 97, 114] _ (by decide +kernel)
 have c_get_val : ((⟨#[101, 120, 101, 99]⟩ : ByteArray).toList == (⟨#[103, 101, 116, 95, 118, 97, 108]⟩ : ByteArray).toList) = false := eqS [101, 120, 101, 99] [103, 101, 116, 95, 118, 97, 108] _ (by decide +kernel)
 have c_put_var : ((⟨#[101, 120, 101, 99]⟩ : ByteArray).toList == (⟨#[112, 117, 116, 95, 118, 97, 114]⟩ : ByteArray).toList) = false := eqS [101, 120, 101, 99] [112, 117, 116, 95, 118, 97, 114] _ (by decide +kernel)
 have c_put_val : ((⟨#[101, 120, 101, 99]⟩ : ByteArray).toList == (⟨#[112, 117, 116, 95, 118, 97, 108]⟩ : ByteArray).toList) = false := eqS [101, 120, 101, 99] [112, 117, 116, 95, 118, 97, 108] _ (by decide +kernel)
 have c_get_atom : ((⟨#[101, 120, 101, 99]⟩ : ByteArray).toList == (⟨#[103, 101, 116, 95, 97, 116, 111, 109]⟩ : ByteArray).toList) = false := eqS [101, 120, 101, 99] [103, 101, 116, 95, 97, 116, 111, 109] _ (by decide +kernel)
 have c_put_atom : ((⟨#[101, 120, 101, 99]⟩ : ByteArray).toList == (⟨#[112, 117, 116, 95, 97, 116, 111, 109]⟩ : ByteArray).toList) = false := eqS [101, 120, 101, 99] [112, 117, 116, 95, 97, 116, 111, 109] _ (by decide +kernel)
 have c_get_int : ((⟨#[101, 120, 101, 99]⟩ : ByteArray).toList == (⟨#[103, 101, 116, 95, 105, 110, 116]⟩ : ByteArray).toList) = false := eqS [101, 120, 101, 99] [103, 101, 116, 95, 105, 110, 116] _ (by decide +kernel)
 have c_put_int : ((⟨#[101, 120, 101, 99]⟩ : ByteArray).toList == (⟨#[112, 117, 116, 95, 105, 110, 116]⟩ : ByteArray).toList) = false := eqS [101, 120, 101, 99] [112, 117, 116, 95, 105, 110, 116] _ (by decide +kernel)
 have c_get_str : ((⟨#[101, 120, 101, 99]⟩ : ByteArray).toList == (⟨#[103, 101, 116, 95, 115, 116, 114]⟩ : ByteArray).toList) = false := eqS [101, 120, 101, 99] [103, 101, 116, 95, 115, 116, 114] _ (by decide +kernel)
 have c_put_str : ((⟨#[101, 120, 101, 99]⟩ : ByteArray).toList == (⟨#[112, 117, 116, 95, 115, 116, 114]⟩ : ByteArray).toList) = false := eqS [101, 120, 101, 99] [112, 117, 116, 95, 115, 116, 114] _ (by decide +kernel)
 have c_uni_var : ((⟨#[101, 120, 101, 99]⟩ : ByteArray).toList == (⟨#[117, 110, 105, 95, 118, 97, 114]⟩ : ByteArray).toList) = false := eqS [101, 120, 101, 99] [117, 110, 105, 95, 118, 97, 114] _ (by decide +kernel)
 have c_uni_val : ((⟨#[101, 120, 101, 99]⟩ : ByteArray).toList == (⟨#[117, 110, 105, 95, 118, 97, 108]⟩ : ByteArray).toList) = false := eqS [101, 120, 101, 99] [117, 110, 105, 95, 118, 97, 108] _ (by decide +kernel)
 have c_set_var : ((⟨#[101, 120, 101, 99]⟩ : ByteArray).toList == (⟨#[115, 101, 116, 95, 118, 97, 114]⟩ : ByteArray).toList) = false := eqS [101, 120, 101, 99] [115, 101, 116, 95, 118, 97, 114] _ (by decide +kernel)
 have c_set_val : ((⟨#[101, 120, 101, 99]⟩ : ByteArray).toList == (⟨#[115, 101, 116, 95, 118, 97, 108]⟩ : ByteArray).toList) = false := eqS [101, 120, 101, 99] [115, 101, 116, 95, 118, 97, 108] _ (by decide +kernel)
 have c_level : ((⟨#[101, 120, 101, 99]⟩ : ByteArray).toList == (⟨#[108, 101, 118, 101, 108]⟩ : ByteArray).toList) = false := eqS [101, 120, 101, 99] [108, 101, 118, 101, 108] _ (by decide +kernel)
 have c_here : ((⟨#[101, 120, 101, 99]⟩ : ByteArray).toList == (⟨#[104, 101, 114, 101]⟩ : ByteArray).toList) = false := eqS [101, 120, 101, 99] [104, 101, 114, 101] _ (by decide +kernel)
 have c_cut : ((⟨#[101, 120, 101, 99]⟩ : ByteArray).toList == (⟨#[99, 117, 116]⟩ : ByteArray).toList) = false := eqS [101, 120, 101, 99] [99, 117, 116] _ (by decide +kernel)
 have c_uni_atom : ((⟨#[101, 120, 101, 99]⟩ : ByteArray).toList == (⟨#[117, 110, 105, 95, 97, 116, 111, 109]⟩ : ByteArray).toList) = false := eqS [101, 120, 101, 99] [117, 110, 105, 95, 97, 116, 111, 109] _ (by decide +kernel)
 have c_set_atom : ((⟨#[101, 120, 101, 99]⟩ : ByteArray).toList == (⟨#[115, 101, 116, 95, 97, 116, 111, 109]⟩ : ByteArray).toList) = false := eqS [101, 120, 101, 99] [115, 101, 116, 95, 97, 116, 111, 109] _ (by decide +kernel)
 have c_uni_int : ((⟨#[101, 120, 101, 99]⟩ : ByteArray).toList == (⟨#[117, 110, 105, 95, 105, 110, 116]⟩ : ByteArray).toList) = false := eqS [101, 120, 101, 99] [117, 110, 105, 95, 105, 110, 116] _ (by decide +kernel)
 have c_set_int : ((⟨#[101, 120, 101, 99]⟩ : ByteArray).toList == (⟨#[115, 101, 116, 95, 105, 110, 116]⟩ : ByteArray).toList) = false := eqS [101, 120, 101, 99] [115, 101, 116, 95, 105, 110, 116] _ (by decide +kernel)
 have c_alloc : ((⟨#[101, 120, 101, 99]⟩ : ByteArray).toList == (⟨#[97, 108, 108, 111, 99]⟩ : ByteArray).toList) = false := eqS [101, 120, 101, 99] [97, 108, 108, 111, 99] _ (by decide +kernel)
 have c_call : ((⟨#[101, 120, 101, 99]⟩ : ByteArray).toList == (⟨#[99, 97, 108, 108]⟩ : ByteArray).toList) = false := eqS [101, 120, 101, 99] [99, 97, 108, 108] _ (by decide +kernel)
 have c_exec : ((⟨#[101, 120, 101, 99]⟩ : ByteArray).toList == (⟨#[101, 120, 101, 99]⟩ : ByteArray).toList) = true := eqS [101, 120, 101, 99] [101, 120, 101, 99] _ (by decide +kernel)
 go_enter Tryz.func73, Tryz.ntmps73
 go_wp2_with (go_at_call 14; refine HN.out.mono ?_; rintro e W1 ⟨rfl, hx⟩)
 go_ret
 exact ⟨rfl, hx⟩
set_option maxRecDepth 100000 in
theorem form_23 (w : World) : Calls Tryz.prog 73 #[.int .i64 23] w fun e w' => e = .returned (.string ⟨#[108]⟩) ∧ Ext w w' := by
 have HN : Hid (Calls Tryz.prog 14 #[.int .i64 23] w fun e w' => e = .returned (.string ⟨#[98, 111, 100, 121]⟩) ∧ Ext w w') := Lib.hid (rName_any 23 w)
 have c_get_var : ((⟨#[98, 111, 100, 121]⟩ : ByteArray).toList == (⟨#[103, 101, 116, 95, 118, 97, 114]⟩ : ByteArray).toList) = false := eqS [98, 111, 100, 121] [103, 101, 116, 95, 118, 97, 114] _ (by decide +kernel)
 have c_get_val : ((⟨#[98, 111, 100, 121]⟩ : ByteArray).toList == (⟨#[103, 101, 116, 95, 118, 97, 108]⟩ : ByteArray).toList) = false := eqS [98, 111, 100, 121] [103, 101, 116, 95, 118, 97, 108] _ (by decide +kernel)
 have c_put_var : ((⟨#[98, 111, 100, 121]⟩ : ByteArray).toList == (⟨#[112, 117, 116, 95, 118, 97, 114]⟩ : ByteArray).toList) = false := eqS [98, 111, 100, 121] [112, 117, 116, 95, 118, 97, 114] _ (by decide +kernel)
 have c_put_val : ((⟨#[98, 111, 100, 121]⟩ : ByteArray).toList == (⟨#[112, 117, 116, 95, 118, 97, 108]⟩ : ByteArray).toList) = false := eqS [98, 111, 100, 121] [112, 117, 116, 95, 118, 97, 108] _ (by decide +kernel)
 have c_get_atom : ((⟨#[98, 111, 100, 121]⟩ : ByteArray).toList == (⟨#[103, 101, 116, 95, 97, 116, 111, 109]⟩ : ByteArray).toList) = false := eqS [98, 111, 100, 121] [103, 101, 116, 95, 97, 116, 111, 109] _ (by decide +kernel)
 have c_put_atom : ((⟨#[98, 111, 100, 121]⟩ : ByteArray).toList == (⟨#[112, 117, 116, 95, 97, 116, 111, 109]⟩ : ByteArray).toList) = false := eqS [98, 111, 100, 121] [112, 117, 116, 95, 97, 116, 111, 109] _ (by decide +kernel)
 have c_get_int : ((⟨#[98, 111, 100, 121]⟩ : ByteArray).toList == (⟨#[103, 101, 116, 95, 105, 110, 116]⟩ : ByteArray).toList) = false := eqS [98, 111, 100, 121] [103, 101, 116, 95, 105, 110, 116] _ (by decide +kernel)
 have c_put_int : ((⟨#[98, 111, 100, 121]⟩ : ByteArray).toList == (⟨#[112, 117, 116, 95, 105, 110, 116]⟩ : ByteArray).toList) = false := eqS [98, 111, 100, 121] [112, 117, 116, 95, 105, 110, 116] _ (by decide +kernel)
 have c_get_str : ((⟨#[98, 111, 100, 121]⟩ : ByteArray).toList == (⟨#[103, 101, 116, 95, 115, 116, 114]⟩ : ByteArray).toList) = false := eqS [98, 111, 100, 121] [103, 101, 116, 95, 115, 116, 114] _ (by decide +kernel)
 have c_put_str : ((⟨#[98, 111, 100, 121]⟩ : ByteArray).toList == (⟨#[112, 117, 116, 95, 115, 116, 114]⟩ : ByteArray).toList) = false := eqS [98, 111, 100, 121] [112, 117, 116, 95, 115, 116, 114] _ (by decide +kernel)
 have c_uni_var : ((⟨#[98, 111, 100, 121]⟩ : ByteArray).toList == (⟨#[117, 110, 105, 95, 118, 97, 114]⟩ : ByteArray).toList) = false := eqS [98, 111, 100, 121] [117, 110, 105, 95, 118, 97, 114] _ (by decide +kernel)
 have c_uni_val : ((⟨#[98, 111, 100, 121]⟩ : ByteArray).toList == (⟨#[117, 110, 105, 95, 118, 97, 108]⟩ : ByteArray).toList) = false := eqS [98, 111, 100, 121] [117, 110, 105, 95, 118, 97, 108] _ (by decide +kernel)
 have c_set_var : ((⟨#[98, 111, 100, 121]⟩ : ByteArray).toList == (⟨#[115, 101, 116, 95, 118, 97, 114]⟩ : ByteArray).toList) = false := eqS [98, 111, 100, 121] [115, 101, 116, 95, 118, 97, 114] _ (by decide +kernel)
 have c_set_val : ((⟨#[98, 111, 100, 121]⟩ : ByteArray).toList == (⟨#[115, 101, 116, 95, 118, 97, 108]⟩ : ByteArray).toList) = false := eqS [98, 111, 100, 121] [115, 101, 116, 95, 118, 97, 108] _ (by decide +kernel)
 have c_level : ((⟨#[98, 111, 100, 121]⟩ : ByteArray).toList == (⟨#[108, 101, 118, 101, 108]⟩ : ByteArray).toList) = false := eqS [98, 111, 100, 121] [108, 101, 118, 101, 108] _ (by decide +kernel)
 have c_here : ((⟨#[98, 111, 100, 121]⟩ : ByteArray).toList == (⟨#[104, 101, 114, 101]⟩ : ByteArray).toList) = false := eqS [98, 111, 100, 121] [104, 101, 114, 101] _ (by decide +kernel)
 have c_cut : ((⟨#[98, 111, 100, 121]⟩ : ByteArray).toList == (⟨#[99, 117, 116]⟩ : ByteArray).toList) = false := eqS [98, 111, 100, 121] [99, 117, 116] _ (by decide +kernel)
 have c_uni_atom : ((⟨#[98, 111, 100, 121]⟩ : ByteArray).toList == (⟨#[117, 110, 105, 95, 97, 116, 111, 109]⟩ : ByteArray).toList) = false := eqS [98, 111, 100, 121] [117, 110, 105, 95, 97, 116, 111, 109] _ (by decide +kernel)
 have c_set_atom : ((⟨#[98, 111, 100, 121]⟩ : ByteArray).toList == (⟨#[115, 101, 116, 95, 97, 116, 111, 109]⟩ : ByteArray).toList) = false := eqS [98, 111, 100, 121] [115, 101, 116, 95, 97, 116, 111, 109] _ (by decide +kernel)
 have c_uni_int : ((⟨#[98, 111, 100, 121]⟩ : ByteArray).toList == (⟨#[117, 110, 105, 95, 105, 110, 116]⟩ : ByteArray).toList) = false := eqS [98, 111, 100, 121] [117, 110, 105, 95, 105, 110, 116] _ (by decide +kernel)
 have c_set_int : ((⟨#[98, 111, 100, 121]⟩ : ByteArray).toList == (⟨#[115, 101, 116, 95, 105, 110, 116]⟩ : ByteArray).toList) = false := eqS [98, 111, 100, 121] [115, 101, 116, 95, 105, 110, 116] _ (by decide +kernel)
 have c_alloc : ((⟨#[98, 111, 100, 121]⟩ : ByteArray).toList == (⟨#[97, 108, 108, 111, 99]⟩ : ByteArray).toList) = false := eqS [98, 111, 100, 121] [97, 108, 108, 111, 99] _ (by decide +kernel)
 have c_call : ((⟨#[98, 111, 100, 121]⟩ : ByteArray).toList == (⟨#[99, 97, 108, 108]⟩ : ByteArray).toList) = false := eqS [98, 111, 100, 121] [99, 97, 108, 108] _ (by decide +kernel)
 have c_exec : ((⟨#[98, 111, 100, 121]⟩ : ByteArray).toList == (⟨#[101, 120, 101, 99]⟩ : ByteArray).toList) = false := eqS [98, 111, 100, 121] [101, 120, 101, 99] _ (by decide +kernel)
 have c_body : ((⟨#[98, 111, 100, 121]⟩ : ByteArray).toList == (⟨#[98, 111, 100, 121]⟩ : ByteArray).toList) = true := eqS [98, 111, 100, 121] [98, 111, 100, 121] _ (by decide +kernel)
 go_enter Tryz.func73, Tryz.ntmps73
 go_wp2_with (go_at_call 14; refine HN.out.mono ?_; rintro e W1 ⟨rfl, hx⟩)
 go_ret
 exact ⟨rfl, hx⟩
set_option maxRecDepth 100000 in
theorem form_24 (w : World) : Calls Tryz.prog 73 #[.int .i64 24] w fun e w' => e = .returned (.string ⟨#[]⟩) ∧ Ext w w' := by
 have HN : Hid (Calls Tryz.prog 14 #[.int .i64 24] w fun e w' => e = .returned (.string ⟨#[103, 111, 97, 108]⟩) ∧ Ext w w') := Lib.hid (rName_any 24 w)
 have c_get_var : ((⟨#[103, 111, 97, 108]⟩ : ByteArray).toList == (⟨#[103, 101, 116, 95, 118, 97, 114]⟩ : ByteArray).toList) = false := eqS [103, 111, 97, 108] [103, 101, 116, 95, 118, 97, 114] _ (by decide +kernel)
 have c_get_val : ((⟨#[103, 111, 97, 108]⟩ : ByteArray).toList == (⟨#[103, 101, 116, 95, 118, 97, 108]⟩ : ByteArray).toList) = false := eqS [103, 111, 97, 108] [103, 101, 116, 95, 118, 97, 108] _ (by decide +kernel)
 have c_put_var : ((⟨#[103, 111, 97, 108]⟩ : ByteArray).toList == (⟨#[112, 117, 116, 95, 118, 97, 114]⟩ : ByteArray).toList) = false := eqS [103, 111, 97, 108] [112, 117, 116, 95, 118, 97, 114] _ (by decide +kernel)
 have c_put_val : ((⟨#[103, 111, 97, 108]⟩ : ByteArray).toList == (⟨#[112, 117, 116, 95, 118, 97, 108]⟩ : ByteArray).toList) = false := eqS [103, 111, 97, 108] [112, 117, 116, 95, 118, 97, 108] _ (by decide +kernel)
 have c_get_atom : ((⟨#[103, 111, 97, 108]⟩ : ByteArray).toList == (⟨#[103, 101, 116, 95, 97, 116, 111, 109]⟩ : ByteArray).toList) = false := eqS [103, 111, 97, 108] [103, 101, 116, 95, 97, 116, 111, 109] _ (by decide +kernel)
 have c_put_atom : ((⟨#[103, 111, 97, 108]⟩ : ByteArray).toList == (⟨#[112, 117, 116, 95, 97, 116, 111, 109]⟩ : ByteArray).toList) = false := eqS [103, 111, 97, 108] [112, 117, 116, 95, 97, 116, 111, 109] _ (by decide +kernel)
 have c_get_int : ((⟨#[103, 111, 97, 108]⟩ : ByteArray).toList == (⟨#[103, 101, 116, 95, 105, 110, 116]⟩ : ByteArray).toList) = false := eqS [103, 111, 97, 108] [103, 101, 116, 95, 105, 110, 116] _ (by decide +kernel)
 have c_put_int : ((⟨#[103, 111, 97, 108]⟩ : ByteArray).toList == (⟨#[112, 117, 116, 95, 105, 110, 116]⟩ : ByteArray).toList) = false := eqS [103, 111, 97, 108] [112, 117, 116, 95, 105, 110, 116] _ (by decide +kernel)
 have c_get_str : ((⟨#[103, 111, 97, 108]⟩ : ByteArray).toList == (⟨#[103, 101, 116, 95, 115, 116, 114]⟩ : ByteArray).toList) = false := eqS [103, 111, 97, 108] [103, 101, 116, 95, 115, 116, 114] _ (by decide +kernel)
 have c_put_str : ((⟨#[103, 111, 97, 108]⟩ : ByteArray).toList == (⟨#[112, 117, 116, 95, 115, 116, 114]⟩ : ByteArray).toList) = false := eqS [103, 111, 97, 108] [112, 117, 116, 95, 115, 116, 114] _ (by decide +kernel)
 have c_uni_var : ((⟨#[103, 111, 97, 108]⟩ : ByteArray).toList == (⟨#[117, 110, 105, 95, 118, 97, 114]⟩ : ByteArray).toList) = false := eqS [103, 111, 97, 108] [117, 110, 105, 95, 118, 97, 114] _ (by decide +kernel)
 have c_uni_val : ((⟨#[103, 111, 97, 108]⟩ : ByteArray).toList == (⟨#[117, 110, 105, 95, 118, 97, 108]⟩ : ByteArray).toList) = false := eqS [103, 111, 97, 108] [117, 110, 105, 95, 118, 97, 108] _ (by decide +kernel)
 have c_set_var : ((⟨#[103, 111, 97, 108]⟩ : ByteArray).toList == (⟨#[115, 101, 116, 95, 118, 97, 114]⟩ : ByteArray).toList) = false := eqS [103, 111, 97, 108] [115, 101, 116, 95, 118, 97, 114] _ (by decide +kernel)
 have c_set_val : ((⟨#[103, 111, 97, 108]⟩ : ByteArray).toList == (⟨#[115, 101, 116, 95, 118, 97, 108]⟩ : ByteArray).toList) = false := eqS [103, 111, 97, 108] [115, 101, 116, 95, 118, 97, 108] _ (by decide +kernel)
 have c_level : ((⟨#[103, 111, 97, 108]⟩ : ByteArray).toList == (⟨#[108, 101, 118, 101, 108]⟩ : ByteArray).toList) = false := eqS [103, 111, 97, 108] [108, 101, 118, 101, 108] _ (by decide +kernel)
 have c_here : ((⟨#[103, 111, 97, 108]⟩ : ByteArray).toList == (⟨#[104, 101, 114, 101]⟩ : ByteArray).toList) = false := eqS [103, 111, 97, 108] [104, 101, 114, 101] _ (by decide +kernel)
 have c_cut : ((⟨#[103, 111, 97, 108]⟩ : ByteArray).toList == (⟨#[99, 117, 116]⟩ : ByteArray).toList) = false := eqS [103, 111, 97, 108] [99, 117, 116] _ (by decide +kernel)
 have c_uni_atom : ((⟨#[103, 111, 97, 108]⟩ : ByteArray).toList == (⟨#[117, 110, 105, 95, 97, 116, 111, 109]⟩ : ByteArray).toList) = false := eqS [103, 111, 97, 108] [117, 110, 105, 95, 97, 116, 111, 109] _ (by decide +kernel)
 have c_set_atom : ((⟨#[103, 111, 97, 108]⟩ : ByteArray).toList == (⟨#[115, 101, 116, 95, 97, 116, 111, 109]⟩ : ByteArray).toList) = false := eqS [103, 111, 97, 108] [115, 101, 116, 95, 97, 116, 111, 109] _ (by decide +kernel)
 have c_uni_int : ((⟨#[103, 111, 97, 108]⟩ : ByteArray).toList == (⟨#[117, 110, 105, 95, 105, 110, 116]⟩ : ByteArray).toList) = false := eqS [103, 111, 97, 108] [117, 110, 105, 95, 105, 110, 116] _ (by decide +kernel)
 have c_set_int : ((⟨#[103, 111, 97, 108]⟩ : ByteArray).toList == (⟨#[115, 101, 116, 95, 105, 110, 116]⟩ : ByteArray).toList) = false := eqS [103, 111, 97, 108] [115, 101, 116, 95, 105, 110, 116] _ (by decide +kernel)
 have c_alloc : ((⟨#[103, 111, 97, 108]⟩ : ByteArray).toList == (⟨#[97, 108, 108, 111, 99]⟩ : ByteArray).toList) = false := eqS [103, 111, 97, 108] [97, 108, 108, 111, 99] _ (by decide +kernel)
 have c_call : ((⟨#[103, 111, 97, 108]⟩ : ByteArray).toList == (⟨#[99, 97, 108, 108]⟩ : ByteArray).toList) = false := eqS [103, 111, 97, 108] [99, 97, 108, 108] _ (by decide +kernel)
 have c_exec : ((⟨#[103, 111, 97, 108]⟩ : ByteArray).toList == (⟨#[101, 120, 101, 99]⟩ : ByteArray).toList) = false := eqS [103, 111, 97, 108] [101, 120, 101, 99] _ (by decide +kernel)
 have c_body : ((⟨#[103, 111, 97, 108]⟩ : ByteArray).toList == (⟨#[98, 111, 100, 121]⟩ : ByteArray).toList) = false := eqS [103, 111, 97, 108] [98, 111, 100, 121] _ (by decide +kernel)
 go_enter Tryz.func73, Tryz.ntmps73
 go_wp2_with (go_at_call 14; refine HN.out.mono ?_; rintro e W1 ⟨rfl, hx⟩)
 go_ret
 exact ⟨rfl, hx⟩
set_option maxRecDepth 100000 in
theorem form_25 (w : World) : Calls Tryz.prog 73 #[.int .i64 25] w fun e w' => e = .returned (.string ⟨#[]⟩) ∧ Ext w w' := by
 have HN : Hid (Calls Tryz.prog 14 #[.int .i64 25] w fun e w' => e = .returned (.string ⟨#[112, 114, 111, 99, 101, 101, 100]⟩) ∧ Ext w w') := Lib.hid (rName_any 25 w)
 have c_get_var : ((⟨#[112, 114, 111, 99, 101, 101, 100]⟩ : ByteArray).toList == (⟨#[103, 101, 116, 95, 118, 97, 114]⟩ : ByteArray).toList) = false := eqS [112, 114, 111, 99, 101, 101, 100] [103, 101, 116, 95, 118, 97, 114] _ (by decide +kernel)
 have c_get_val : ((⟨#[112, 114, 111, 99, 101, 101, 100]⟩ : ByteArray).toList == (⟨#[103, 101, 116, 95, 118, 97, 108]⟩ : ByteArray).toList) = false := eqS [112, 114, 111, 99, 101, 101, 100] [103, 101, 116, 95, 118, 97, 108] _ (by decide +kernel)
 have c_put_var : ((⟨#[112, 114, 111, 99, 101, 101, 100]⟩ : ByteArray).toList == (⟨#[112, 117, 116, 95, 118, 97, 114]⟩ : ByteArray).toList) = false := eqS [112, 114, 111, 99, 101, 101, 100] [112, 117, 116, 95, 118, 97, 114] _ (by decide +kernel)
 have c_put_val : ((⟨#[112, 114, 111, 99, 101, 101, 100]⟩ : ByteArray).toList == (⟨#[112, 117, 116, 95, 118, 97, 108]⟩ : ByteArray).toList) = false := eqS [112, 114, 111, 99, 101, 101, 100] [112, 117, 116, 95, 118, 97, 108] _ (by decide +kernel)
 have c_get_atom : ((⟨#[112, 114, 111, 99, 101, 101, 100]⟩ : ByteArray).toList == (⟨#[103, 101, 116, 95, 97, 116, 111, 109]⟩ : ByteArray).toList) = false := eqS [112, 114, 111, 99, 101, 101, 100] [103, 101, 116, 95, 97, 116, 111, 109] _ (by decide +kernel)
 have c_put_atom : ((⟨#[112, 114, 111, 99, 101, 101, 100]⟩ : ByteArray).toList == (⟨#[112, 117, 116, 95, 97, 116, 111, 109]⟩ : ByteArray).toList) = false := eqS [112, 114, 111, 99, 101, 101, 100] [112, 117, 116, 95, 97, 116, 111, 109] _ (by decide +kernel)
 have c_get_int : ((⟨#[112, 114, 111, 99, 101, 101, 100]⟩ : ByteArray).toList == (⟨#[103, 101, 116, 95, 105, 110, 116]⟩ : ByteArray).toList) = false := eqS [112, 114, 111, 99, 101, 101, 100] [103, 101, 116, 95, 105, 110, 116] _ (by decide +kernel)
 have c_put_int : ((⟨#[112, 114, 111, 99, 101, 101, 100]⟩ : ByteArray).toList == (⟨#[112, 117, 116, 95, 105, 110, 116]⟩ : ByteArray).toList) = false := eqS [112, 114, 111, 99, 101, 101, 100] [112, 117, 116, 95, 105, 110, 116] _ (by decide +kernel)
 have c_get_str : ((⟨#[112, 114, 111, 99, 101, 101, 100]⟩ : ByteArray).toList == (⟨#[103, 101, 116, 95, 115, 116, 114]⟩ : ByteArray).toList) = false := eqS [112, 114, 111, 99, 101, 101, 100] [103, 101, 116, 95, 115, 116, 114] _ (by decide +kernel)
 have c_put_str : ((⟨#[112, 114, 111, 99, 101, 101, 100]⟩ : ByteArray).toList == (⟨#[112, 117, 116, 95, 115, 116, 114]⟩ : ByteArray).toList) = false := eqS [112, 114, 111, 99, 101, 101, 100] [112, 117, 116, 95, 115, 116, 114] _ (by decide +kernel)
 have c_uni_var : ((⟨#[112, 114, 111, 99, 101, 101, 100]⟩ : ByteArray).toList == (⟨#[117, 110, 105, 95, 118, 97, 114]⟩ : ByteArray).toList) = false := eqS [112, 114, 111, 99, 101, 101, 100] [117, 110, 105, 95, 118, 97, 114] _ (by decide +kernel)
 have c_uni_val : ((⟨#[112, 114, 111, 99, 101, 101, 100]⟩ : ByteArray).toList == (⟨#[117, 110, 105, 95, 118, 97, 108]⟩ : ByteArray).toList) = false := eqS [112, 114, 111, 99, 101, 101, 100] [117, 110, 105, 95, 118, 97, 108] _ (by decide +kernel)
 have c_set_var : ((⟨#[112, 114, 111, 99, 101, 101, 100]⟩ : ByteArray).toList == (⟨#[115, 101, 116, 95, 118, 97, 114]⟩ : ByteArray).toList) = false := eqS [112, 114, 111, 99, 101, 101, 100] [115, 101, 116, 95, 118, 97, 114] _ (by decide +kernel)
 have c_set_val : ((⟨#[112, 114, 111, 99, 101, 101, 100]⟩ : ByteArray).toList == (⟨#[115, 101, 116, 95, 118, 97, 108]⟩ : ByteArray).toList) = false := eqS [112, 114, 111, 99, 101, 101, 100] [115, 101, 116, 95, 118, 97, 108] _ (by decide +kernel)
 have c_level : ((⟨#[112, 114, 111, 99, 101, 101, 100]⟩ : ByteArray).toList == (⟨#[108, 101, 118, 101, 108]⟩ : ByteArray).toList) = false := eqS [112, 114, 111, 99, 101, 101, 100] [108, 101, 118, 101, 108] _ (by decide +kernel)
 have c_here : ((⟨#[112, 114, 111, 99, 101, 101, 100]⟩ : ByteArray).toList == (⟨#[104, 101, 114, 101]⟩ : ByteArray).toList) = false := eqS [112, 114, 111, 99, 101, 101, 100] [104, 101, 114, 101] _ (by decide +kernel)
 have c_cut : ((⟨#[112, 114, 111, 99, 101, 101, 100]⟩ : ByteArray).toList == (⟨#[99, 117, 116]⟩ : ByteArray).toList) = false := eqS [112, 114, 111, 99, 101, 101, 100] [99, 117, 116] _ (by decide +kernel)
 have c_uni_atom : ((⟨#[112, 114, 111, 99, 101, 101, 100]⟩ : ByteArray).toList == (⟨#[117, 110, 105, 95, 97, 116, 111, 109]⟩ : ByteArray).toList) = false := eqS [112, 114, 111, 99, 101, 101, 100] [117, 110, 105, 95, 97, 116, 111, 109] _ (by decide +kernel)
 have c_set_atom : ((⟨#[112, 114, 111, 99, 101, 101, 100]⟩ : ByteArray).toList == (⟨#[115, 101, 116, 95, 97, 116, 111, 109]⟩ : ByteArray).toList) = false := eqS [112, 114, 111, 99, 101, 101, 100] [115, 101, 116, 95, 97, 116, 111, 109] _ (by decide +kernel)
 have c_uni_int : ((⟨#[112, 114, 111, 99, 101, 101, 100]⟩ : ByteArray).toList == (⟨#[117, 110, 105, 95, 105, 110, 116]⟩ : ByteArray).toList) = false := eqS [112, 114, 111, 99, 101, 101, 100] [117, 110, 105, 95, 105, 110, 116] _ (by decide +kernel)
 have c_set_int : ((⟨#[112, 114, 111, 99, 101, 101, 100]⟩ : ByteArray).toList == (⟨#[115, 101, 116, 95, 105, 110, 116]⟩ : ByteArray).toList) = false := eqS [112, 114, 111, 99, 101, 101, 100] [115, 101, 116, 95, 105, 110, 116] _ (by decide +kernel)
 have c_alloc : ((⟨#[112, 114, 111, 99, 101, 101, 100]⟩ : ByteArray).toList == (⟨#[97, 108, 108, 111, 99]⟩ : ByteArray).toList) = false := eqS [112, 114, 111, 99, 101, 101, 100] [97, 108, 108, 111, 99] _ (by decide +kernel)
 have c_call : ((⟨#[112, 114, 111, 99, 101, 101, 100]⟩ : ByteArray).toList == (⟨#[99, 97, 108, 108]⟩ : ByteArray).toList) = false := eqS [112, 114, 111, 99, 101, 101, 100] [99, 97, 108, 108] _ (by decide +kernel)
 have c_exec : ((⟨#[112, 114, 111, 99, 101, 101, 100]⟩ : ByteArray).toList == (⟨#[101, 120, 101, 99]⟩ : ByteArray).toList) = false := eqS [112, 114, 111, 99, 101, 101, 100] [101, 120, 101, 99] _ (by decide +kernel)
 have c_body : ((⟨#[112, 114, 111, 99, 101, 101, 100]⟩ : ByteArray).toList == (⟨#[98, 111, 100, 121]⟩ : ByteArray).toList) = false := eqS [112, 114, 111, 99, 101, 101, 100] [98, 111, 100, 121] _ (by decide +kernel)
 go_enter Tryz.func73, Tryz.ntmps73
 go_wp2_with (go_at_call 14; refine HN.out.mono ?_; rintro e W1 ⟨rfl, hx⟩)
 go_ret
 exact ⟨rfl, hx⟩
set_option maxRecDepth 100000 in
theorem form_26 (w : World) : Calls Tryz.prog 73 #[.int .i64 26] w fun e w' => e = .returned (.string ⟨#[118]⟩) ∧ Ext w w' := by
 have HN : Hid (Calls Tryz.prog 14 #[.int .i64 26] w fun e w' => e = .returned (.string ⟨#[108, 101, 118, 101, 108]⟩) ∧ Ext w w') := Lib.hid (rName_any 26 w)
 have c_get_var : ((⟨#[108, 101, 118, 101, 108]⟩ : ByteArray).toList == (⟨#[103, 101, 116, 95, 118, 97, 114]⟩ : ByteArray).toList) = false := eqS [108, 101, 118, 101, 108] [103, 101, 116, 95, 118, 97, 114] _ (by decide +kernel)
 have c_get_val : ((⟨#[108, 101, 118, 101, 108]⟩ : ByteArray).toList == (⟨#[103, 101, 116, 95, 118, 97, 108]⟩ : ByteArray).toList) = false := eqS [108, 101, 118, 101, 108] [103, 101, 116, 95, 118, 97, 108] _ (by decide +kernel)
 have c_put_var : ((⟨#[108, 101, 118, 101, 108]⟩ : ByteArray).toList == (⟨#[112, 117, 116, 95, 118, 97, 114]⟩ : ByteArray).toList) = false := eqS [108, 101, 118, 101, 108] [112, 117, 116, 95, 118, 97, 114] _ (by decide +kernel)
 have c_put_val : ((⟨#[108, 101, 118, 101, 108]⟩ : ByteArray).toList == (⟨#[112, 117, 116, 95, 118, 97, 108]⟩ : ByteArray).toList) = false := eqS [108, 101, 118, 101, 108] [112, 117, 116, 95, 118, 97, 108] _ (by decide +kernel)
 have c_get_atom : ((⟨#[108, 101, 118, 101, 108]⟩ : ByteArray).toList == (⟨#[103, 101, 116, 95, 97, 116, 111, 109]⟩ : ByteArray).toList) = false := eqS [108, 101, 118, 101, 108] [103, 101, 116, 95, 97, 116, 111, 109] _ (by decide +kernel)
 have c_put_atom : ((⟨#[108, 101, 118, 101, 108]⟩ : ByteArray).toList == (⟨#[112, 117, 116, 95, 97, 116, 111, 109]⟩ : ByteArray).toList) = false := eqS [108, 101, 118, 101, 108] [112, 117, 116, 95, 97, 116, 111, 109] _ (by decide +kernel)
 have c_get_int : ((⟨#[108, 101, 118, 101, 108]⟩ : ByteArray).toList == (⟨#[103, 101, 116, 95, 105, 110, 116]⟩ : ByteArray).toList) = false := eqS [108, 101, 118, 101, 108] [103, 101, 116, 95, 105, 110, 116] _ (by decide +kernel)
 have c_put_int : ((⟨#[108, 101, 118, 101, 108]⟩ : ByteArray).toList == (⟨#[112, 117, 116, 95, 105, 110, 116]⟩ : ByteArray).toList) = false := eqS [108, 101, 118, 101, 108] [112, 117, 116, 95, 105, 110, 116] _ (by decide +kernel)
 have c_get_str : ((⟨#[108, 101, 118, 101, 108]⟩ : ByteArray).toList == (⟨#[103, 101, 116, 95, 115, 116, 114]⟩ : ByteArray).toList) = false := eqS [108, 101, 118, 101, 108] [103, 101, 116, 95, 115, 116, 114] _ (by decide +kernel)
 have c_put_str : ((⟨#[108, 101, 118, 101, 108]⟩ : ByteArray).toList == (⟨#[112, 117, 116, 95, 115, 116, 114]⟩ : ByteArray).toList) = false := eqS [108, 101, 118, 101, 108] [112, 117, 116, 95, 115, 116, 114] _ (by decide +kernel)
 have c_uni_var : ((⟨#[108, 101, 118, 101, 108]⟩ : ByteArray).toList == (⟨#[117, 110, 105, 95, 118, 97, 114]⟩ : ByteArray).toList) = false := eqS [108, 101, 118, 101, 108] [117, 110, 105, 95, 118, 97, 114] _ (by decide +kernel)
 have c_uni_val : ((⟨#[108, 101, 118, 101, 108]⟩ : ByteArray).toList == (⟨#[117, 110, 105, 95, 118, 97, 108]⟩ : ByteArray).toList) = false := eqS [108, 101, 118, 101, 108] [117, 110, 105, 95, 118, 97, 108] _ (by decide +kernel)
 have c_set_var : ((⟨#[108, 101, 118, 101, 108]⟩ : ByteArray).toList == (⟨#[115, 101, 116, 95, 118, 97, 114]⟩ : ByteArray).toList) = false := eqS [108, 101, 118, 101, 108] [115, 101, 116, 95, 118, 97, 114] _ (by decide +kernel)
 have c_set_val : ((⟨#[108, 101, 118, 101, 108]⟩ : ByteArray).toList == (⟨#[115, 101, 116, 95, 118, 97, 108]⟩ : ByteArray).toList) = false := eqS [108, 101, 118, 101, 108] [115, 101, 116, 95, 118, 97, 108] _ (by decide +kernel)
 have c_level : ((⟨#[108, 101, 118, 101, 108]⟩ : ByteArray).toList == (⟨#[108, 101, 118, 101, 108]⟩ : ByteArray).toList) = true := eqS [108, 101, 118, 101, 108] [108, 101, 118, 101, 108] _ (by decide +kernel)
 go_enter Tryz.func73, Tryz.ntmps73
 go_wp2_with (go_at_call 14; refine HN.out.mono ?_; rintro e W1 ⟨rfl, hx⟩)
 go_ret
 exact ⟨rfl, hx⟩
set_option maxRecDepth 100000 in
theorem form_27 (w : World) : Calls Tryz.prog 73 #[.int .i64 27] w fun e w' => e = .returned (.string ⟨#[118]⟩) ∧ Ext w w' := by
 have HN : Hid (Calls Tryz.prog 14 #[.int .i64 27] w fun e w' => e = .returned (.string ⟨#[104, 101, 114, 101]⟩) ∧ Ext w w') := Lib.hid (rName_any 27 w)
 have c_get_var : ((⟨#[104, 101, 114, 101]⟩ : ByteArray).toList == (⟨#[103, 101, 116, 95, 118, 97, 114]⟩ : ByteArray).toList) = false := eqS [104, 101, 114, 101] [103, 101, 116, 95, 118, 97, 114] _ (by decide +kernel)
 have c_get_val : ((⟨#[104, 101, 114, 101]⟩ : ByteArray).toList == (⟨#[103, 101, 116, 95, 118, 97, 108]⟩ : ByteArray).toList) = false := eqS [104, 101, 114, 101] [103, 101, 116, 95, 118, 97, 108] _ (by decide +kernel)
 have c_put_var : ((⟨#[104, 101, 114, 101]⟩ : ByteArray).toList == (⟨#[112, 117, 116, 95, 118, 97, 114]⟩ : ByteArray).toList) = false := eqS [104, 101, 114, 101] [112, 117, 116, 95, 118, 97, 114] _ (by decide +kernel)
 have c_put_val : ((⟨#[104, 101, 114, 101]⟩ : ByteArray).toList == (⟨#[112, 117, 116, 95, 118, 97, 108]⟩ : ByteArray).toList) = false := eqS [104, 101, 114, 101] [112, 117, 116, 95, 118, 97, 108] _ (by decide +kernel)
 have c_get_atom : ((⟨#[104, 101, 114, 101]⟩ : ByteArray).toList == (⟨#[103, 101, 116, 95, 97, 116, 111, 109]⟩ : ByteArray).toList) = false := eqS [104, 101, 114, 101] [103, 101, 116, 95, 97, 116, 111, 109] _ (by decide +kernel)
 have c_put_atom : ((⟨#[104, 101, 114, 101]⟩ : ByteArray).toList == (⟨#[112, 117, 116, 95, 97, 116, 111, 109]⟩ : ByteArray).toList) = false := eqS [104, 101, 114, 101] [112, 117, 116, 95, 97, 116, 111, 109] _ (by decide +kernel)
 have c_get_int : ((⟨#[104, 101, 114, 101]⟩ : ByteArray).toList == (⟨#[103, 101, 116, 95, 105, 110, 116]⟩ : ByteArray).toList) = false := eqS [104, 101, 114, 101] [103, 101, 116, 95, 105, 110, 116] _ (by decide +kernel)
 have c_put_int : ((⟨#[104, 101, 114, 101]⟩ : ByteArray).toList == (⟨#[112, 117, 116, 95, 105, 110, 116]⟩ : ByteArray).toList) = false := eqS [104, 101, 114, 101] [112, 117, 116, 95, 105, 110, 116] _ (by decide +kernel)
 have c_get_str : ((⟨#[104, 101, 114, 101]⟩ : ByteArray).toList == (⟨#[103, 101, 116, 95, 115, 116, 114]⟩ : ByteArray).toList) = false := eqS [104, 101, 114, 101] [103, 101, 116, 95, 115, 116, 114] _ (by decide +kernel)
 have c_put_str : ((⟨#[104, 101, 114, 101]⟩ : ByteArray).toList == (⟨#[112, 117, 116, 95, 115, 116, 114]⟩ : ByteArray).toList) = false := eqS [104, 101, 114, 101] [112, 117, 116, 95, 115, 116, 114] _ (by decide +kernel)
 have c_uni_var : ((⟨#[104, 101, 114, 101]⟩ : ByteArray).toList == (⟨#[117, 110, 105, 95, 118, 97, 114]⟩ : ByteArray).toList) = false := eqS [104, 101, 114, 101] [117, 110, 105, 95, 118, 97, 114] _ (by decide +kernel)
 have c_uni_val : ((⟨#[104, 101, 114, 101]⟩ : ByteArray).toList == (⟨#[117, 110, 105, 95, 118, 97, 108]⟩ : ByteArray).toList) = false := eqS [104, 101, 114, 101] [117, 110, 105, 95, 118, 97, 108] _ (by decide +kernel)
 have c_set_var : ((⟨#[104, 101, 114, 101]⟩ : ByteArray).toList == (⟨#[115, 101, 116, 95, 118, 97, 114]⟩ : ByteArray).toList) = false := eqS [104, 101, 114, 101] [115, 101, 116, 95, 118, 97, 114] _ (by decide +kernel)
 have c_set_val : ((⟨#[104, 101, 114, 101]⟩ : ByteArray).toList == (⟨#[115, 101, 116, 95, 118, 97, 108]⟩ : ByteArray).toList) = false := eqS [104, 101, 114, 101] [115, 101, 116, 95, 118, 97, 108] _ (by decide +kernel)
 have c_level : ((⟨#[104, 101, 114, 101]⟩ : ByteArray).toList == (⟨#[108, 101, 118, 101, 108]⟩ : ByteArray).toList) = false := eqS [104, 101, 114, 101] [108, 101, 118, 101, 108] _ (by decide +kernel)
 have c_here : ((⟨#[104, 101, 114, 101]⟩ : ByteArray).toList == (⟨#[104, 101, 114, 101]⟩ : ByteArray).toList) = true := eqS [104, 101, 114, 101] [104, 101, 114, 101] _ (by decide +kernel)
 go_enter Tryz.func73, Tryz.ntmps73
 go_wp2_with (go_at_call 14; refine HN.out.mono ?_; rintro e W1 ⟨rfl, hx⟩)
 go_ret
 exact ⟨rfl, hx⟩
set_option maxRecDepth 100000 in
theorem form_28 (w : World) : Calls Tryz.prog 73 #[.int .i64 28] w fun e w' => e = .returned (.string ⟨#[]⟩) ∧ Ext w w' := by
 have HN : Hid (Calls Tryz.prog 14 #[.int .i64 28] w fun e w' => e = .returned (.string ⟨#[110, 101, 99, 107]⟩) ∧ Ext w w') := Lib.hid (rName_any 28 w)
 have c_get_var : ((⟨#[110, 101, 99, 107]⟩ : ByteArray).toList == (⟨#[103, 101, 116, 95, 118, 97, 114]⟩ : ByteArray).toList) = false := eqS [110, 101, 99, 107] [103, 101, 116, 95, 118, 97, 114] _ (by decide +kernel)
 have c_get_val : ((⟨#[110, 101, 99, 107]⟩ : ByteArray).toList == (⟨#[103, 101, 116, 95, 118, 97, 108]⟩ : ByteArray).toList) = false := eqS [110, 101, 99, 107] [103, 101, 116, 95, 118, 97, 108] _ (by decide +kernel)
 have c_put_var : ((⟨#[110, 101, 99, 107]⟩ : ByteArray).toList == (⟨#[112, 117, 116, 95, 118, 97, 114]⟩ : ByteArray).toList) = false := eqS [110, 101, 99, 107] [112, 117, 116, 95, 118, 97, 114] _ (by decide +kernel)
 have c_put_val : ((⟨#[110, 101, 99, 107]⟩ : ByteArray).toList == (⟨#[112, 117, 116, 95, 118, 97, 108]⟩ : ByteArray).toList) = false := eqS [110, 101, 99, 107] [112, 117, 116, 95, 118, 97, 108] _ (by decide +kernel)
 have c_get_atom : ((⟨#[110, 101, 99, 107]⟩ : ByteArray).toList == (⟨#[103, 101, 116, 95, 97, 116, 111, 109]⟩ : ByteArray).toList) = false := eqS [110, 101, 99, 107] [103, 101, 116, 95, 97, 116, 111, 109] _ (by decide +kernel)
 have c_put_atom : ((⟨#[110, 101, 99, 107]⟩ : ByteArray).toList == (⟨#[112, 117, 116, 95, 97, 116, 111, 109]⟩ : ByteArray).toList) = false := eqS [110, 101, 99, 107] [112, 117, 116, 95, 97, 116, 111, 109] _ (by decide +kernel)
 have c_get_int : ((⟨#[110, 101, 99, 107]⟩ : ByteArray).toList == (⟨#[103, 101, 116, 95, 105, 110, 116]⟩ : ByteArray).toList) = false := eqS [110, 101, 99, 107] [103, 101, 116, 95, 105, 110, 116] _ (by decide +kernel)
 have c_put_int : ((⟨#[110, 101, 99, 107]⟩ : ByteArray).toList == (⟨#[112, 117, 116, 95, 105, 110, 116]⟩ : ByteArray).toList) = false := eqS [110, 101, 99, 107] [112, 117, 116, 95, 105, 110, 116] _ (by decide +kernel)
 have c_get_str : ((⟨#[110, 101, 99, 107]⟩ : ByteArray).toList == (⟨#[103, 101, 116, 95, 115, 116, 114]⟩ : ByteArray).toList) = false := eqS [110, 101, 99, 107] [103, 101, 116, 95, 115, 116, 114] _ (by decide +kernel)
 have c_put_str : ((⟨#[110, 101, 99, 107]⟩ : ByteArray).toList == (⟨#[112, 117, 116, 95, 115, 116, 114]⟩ : ByteArray).toList) = false := eqS [110, 101, 99, 107] [112, 117, 116, 95, 115, 116, 114] _ (by decide +kernel)
 have c_uni_var : ((⟨#[110, 101, 99, 107]⟩ : ByteArray).toList == (⟨#[117, 110, 105, 95, 118, 97, 114]⟩ : ByteArray).toList) = false := eqS [110, 101, 99, 107] [117, 110, 105, 95, 118, 97, 114] _ (by decide +kernel)
 have c_uni_val : ((⟨#[110, 101, 99, 107]⟩ : ByteArray).toList == (⟨#[117, 110, 105, 95, 118, 97, 108]⟩ : ByteArray).toList) = false := eqS [110, 101, 99, 107] [117, 110, 105, 95, 118, 97, 108] _ (by decide +kernel)
 have c_set_var : ((⟨#[110, 101, 99, 107]⟩ : ByteArray).toList == (⟨#[115, 101, 116, 95, 118, 97, 114]⟩ : ByteArray).toList) = false := eqS [110, 101, 99, 107] [115, 101, 116, 95, 118, 97, 114] _ (by decide +kernel)
 have c_set_val : ((⟨#[110, 101, 99, 107]⟩ : ByteArray).toList == (⟨#[115, 101, 116, 95, 118, 97, 108]⟩ : ByteArray).toList) = false := eqS [110, 101, 99, 107] [115, 101, 116, 95, 118, 97, 108] _ (by decide +kernel)
 have c_level : ((⟨#[110, 101, 99, 107]⟩ : ByteArray).toList == (⟨#[108, 101, 118, 101, 108]⟩ : ByteArray).toList) = false := eqS [110, 101, 99, 107] [108, 101, 118, 101, 108] _ (by decide +kernel)
 have c_here : ((⟨#[110, 101, 99, 107]⟩ : ByteArray).toList == (⟨#[104, 101, 114, 101]⟩ : ByteArray).toList) = false := eqS [110, 101, 99, 107] [104, 101, 114, 101] _ (by decide +kernel)
 have c_cut : ((⟨#[110, 101, 99, 107]⟩ : ByteArray).toList == (⟨#[99, 117, 116]⟩ : ByteArray).toList) = false := eqS [110, 101, 99, 107] [99, 117, 116] _ (by decide +kernel)
 have c_uni_atom : ((⟨#[110, 101, 99, 107]⟩ : ByteArray).toList == (⟨#[117, 110, 105, 95, 97, 116, 111, 109]⟩ : ByteArray).toList) = false := eqS [110, 101, 99, 107] [117, 110, 105, 95, 97, 116, 111, 109] _ (by decide +kernel)
 have c_set_atom : ((⟨#[110, 101, 99, 107]⟩ : ByteArray).toList == (⟨#[115, 101, 116, 95, 97, 116, 111, 109]⟩ : ByteArray).toList) = false := eqS [110, 101, 99, 107] [115, 101, 116, 95, 97, 116, 111, 109] _ (by decide +kernel)
 have c_uni_int : ((⟨#[110, 101, 99, 107]⟩ : ByteArray).toList == (⟨#[117, 110, 105, 95, 105, 110, 116]⟩ : ByteArray).toList) = false := eqS [110, 101, 99, 107] [117, 110, 105, 95, 105, 110, 116] _ (by decide +kernel)
 have c_set_int : ((⟨#[110, 101, 99, 107]⟩ : ByteArray).toList == (⟨#[115, 101, 116, 95, 105, 110, 116]⟩ : ByteArray).toList) = false := eqS [110, 101, 99, 107] [115, 101, 116, 95, 105, 110, 116] _ (by decide +kernel)
 have c_alloc : ((⟨#[110, 101, 99, 107]⟩ : ByteArray).toList == (⟨#[97, 108, 108, 111, 99]⟩ : ByteArray).toList) = false := eqS [110, 101, 99, 107] [97, 108, 108, 111, 99] _ (by decide +kernel)
 have c_call : ((⟨#[110, 101, 99, 107]⟩ : ByteArray).toList == (⟨#[99, 97, 108, 108]⟩ : ByteArray).toList) = false := eqS [110, 101, 99, 107] [99, 97, 108, 108] _ (by decide +kernel)
 have c_exec : ((⟨#[110, 101, 99, 107]⟩ : ByteArray).toList == (⟨#[101, 120, 101, 99]⟩ : ByteArray).toList) = false := eqS [110, 101, 99, 107] [101, 120, 101, 99] _ (by decide +kernel)
 have c_body : ((⟨#[110, 101, 99, 107]⟩ : ByteArray).toList == (⟨#[98, 111, 100, 121]⟩ : ByteArray).toList) = false := eqS [110, 101, 99, 107] [98, 111, 100, 121] _ (by decide +kernel)
 go_enter Tryz.func73, Tryz.ntmps73
 go_wp2_with (go_at_call 14; refine HN.out.mono ?_; rintro e W1 ⟨rfl, hx⟩)
 go_ret
 exact ⟨rfl, hx⟩
set_option maxRecDepth 100000 in
theorem form_29 (w : World) : Calls Tryz.prog 73 #[.int .i64 29] w fun e w' => e = .returned (.string ⟨#[118]⟩) ∧ Ext w w' := by
 have HN : Hid (Calls Tryz.prog 14 #[.int .i64 29] w fun e w' => e = .returned (.string ⟨#[99, 117, 116]⟩) ∧ Ext w w') := Lib.hid (rName_any 29 w)
 have c_get_var : ((⟨#[99, 117, 116]⟩ : ByteArray).toList == (⟨#[103, 101, 116, 95, 118, 97, 114]⟩ : ByteArray).toList) = false := eqS [99, 117, 116] [103, 101, 116, 95, 118, 97, 114] _ (by decide +kernel)
 have c_get_val : ((⟨#[99, 117, 116]⟩ : ByteArray).toList == (⟨#[103, 101, 116, 95, 118, 97, 108]⟩ : ByteArray).toList) = false := eqS [99, 117, 116] [103, 101, 116, 95, 118, 97, 108] _ (by decide +kernel)
 have c_put_var : ((⟨#[99, 117, 116]⟩ : ByteArray).toList == (⟨#[112, 117, 116, 95, 118, 97, 114]⟩ : ByteArray).toList) = false := eqS [99, 117, 116] [112, 117, 116, 95, 118, 97, 114] _ (by decide +kernel)
 have c_put_val : ((⟨#[99, 117, 116]⟩ : ByteArray).toList == (⟨#[112, 117, 116, 95, 118, 97, 108]⟩ : ByteArray).toList) = false := eqS [99, 117, 116] [112, 117, 116, 95, 118, 97, 108] _ (by decide +kernel)
 have c_get_atom : ((⟨#[99, 117, 116]⟩ : ByteArray).toList == (⟨#[103, 101, 116, 95, 97, 116, 111, 109]⟩ : ByteArray).toList) = false := eqS [99, 117, 116] [103, 101, 116, 95, 97, 116, 111, 109] _ (by decide +kernel)
 have c_put_atom : ((⟨#[99, 117, 116]⟩ : ByteArray).toList == (⟨#[112, 117, 116, 95, 97, 116, 111, 109]⟩ : ByteArray).toList) = false := eqS [99, 117, 116] [112, 117, 116, 95, 97, 116, 111, 109] _ (by decide +kernel)
 have c_get_int : ((⟨#[99, 117, 116]⟩ : ByteArray).toList == (⟨#[103, 101, 116, 95, 105, 110, 116]⟩ : ByteArray).toList) = false := eqS [99, 117, 116] [103, 101, 116, 95, 105, 110, 116] _ (by decide +kernel)
 have c_put_int : ((⟨#[99, 117, 116]⟩ : ByteArray).toList == (⟨#[112, 117, 116, 95, 105, 110, 116]⟩ : ByteArray).toList) = false := eqS [99, 117, 116] [112, 117, 116, 95, 105, 110, 116] _ (by decide +kernel)
 have c_get_str : ((⟨#[99, 117, 116]⟩ : ByteArray).toList == (⟨#[103, 101, 116, 95, 115, 116, 114]⟩ : ByteArray).toList) = false := eqS [99, 117, 116] [103, 101, 116, 95, 115, 116, 114] _ (by decide +kernel)
 have c_put_str : ((⟨#[99, 117, 116]⟩ : ByteArray).toList == (⟨#[112, 117, 116, 95, 115, 116, 114]⟩ : ByteArray).toList) = false := eqS [99, 117, 116] [112, 117, 116, 95, 115, 116, 114] _ (by decide +kernel)
 have c_uni_var : ((⟨#[99, 117, 116]⟩ : ByteArray).toList == (⟨#[117, 110, 105, 95, 118, 97, 114]⟩ : ByteArray).toList) = false := eqS [99, 117, 116] [117, 110, 105, 95, 118, 97, 114] _ (by decide +kernel)
 have c_uni_val : ((⟨#[99, 117, 116]⟩ : ByteArray).toList == (⟨#[117, 110, 105, 95, 118, 97, 108]⟩ : ByteArray).toList) = false := eqS [99, 117, 116] [117, 110, 105, 95, 118, 97, 108] _ (by decide +kernel)
 have c_set_var : ((⟨#[99, 117, 116]⟩ : ByteArray).toList == (⟨#[115, 101, 116, 95, 118, 97, 114]⟩ : ByteArray).toList) = false := eqS [99, 117, 116] [115, 101, 116, 95, 118, 97, 114] _ (by decide +kernel)
 have c_set_val : ((⟨#[99, 117, 116]⟩ : ByteArray).toList == (⟨#[115, 101, 116, 95, 118, 97, 108]⟩ : ByteArray).toList) = false := eqS [99, 117, 116] [115, 101, 116, 95, 118, 97, 108] _ (by decide +kernel)
 have c_level : ((⟨#[99, 117, 116]⟩ : ByteArray).toList == (⟨#[108, 101, 118, 101, 108]⟩ : ByteArray).toList) = false := eqS [99, 117, 116] [108, 101, 118, 101, 108] _ (by decide +kernel)
 have c_here : ((⟨#[99, 117, 116]⟩ : ByteArray).toList == (⟨#[104, 101, 114, 101]⟩ : ByteArray).toList) = false := eqS [99, 117, 116] [104, 101, 114, 101] _ (by decide +kernel)
 have c_cut : ((⟨#[99, 117, 116]⟩ : ByteArray).toList == (⟨#[99, 117, 116]⟩ : ByteArray).toList) = true := eqS [99, 117, 116] [99, 117, 116] _ (by decide +kernel)
 go_enter Tryz.func73, Tryz.ntmps73
 go_wp2_with (go_at_call 14; refine HN.out.mono ?_; rintro e W1 ⟨rfl, hx⟩)
 go_ret
 exact ⟨rfl, hx⟩
set_option maxRecDepth 100000 in
theorem form_30 (w : World) : Calls Tryz.prog 73 #[.int .i64 30] w fun e w' => e = .returned (.string ⟨#[]⟩) ∧ Ext w w' := by
 have HN : Hid (Calls Tryz.prog 14 #[.int .i64 30] w fun e w' => e = .returned (.string ⟨#[102, 97, 105, 108]⟩) ∧ Ext w w') := Lib.hid (rName_any 30 w)
 have c_get_var : ((⟨#[102, 97, 105, 108]⟩ : ByteArray).toList == (⟨#[103, 101, 116, 95, 118, 97, 114]⟩ : ByteArray).toList) = false := eqS [102, 97, 105, 108] [103, 101, 116, 95, 118, 97, 114] _ (by decide +kernel)
 have c_get_val : ((⟨#[102, 97, 105, 108]⟩ : ByteArray).toList == (⟨#[103, 101, 116, 95, 118, 97, 108]⟩ : ByteArray).toList) = false := eqS [102, 97, 105, 108] [103, 101, 116, 95, 118, 97, 108] _ (by decide +kernel)
 have c_put_var : ((⟨#[102, 97, 105, 108]⟩ : ByteArray).toList == (⟨#[112, 117, 116, 95, 118, 97, 114]⟩ : ByteArray).toList) = false := eqS [102, 97, 105, 108] [112, 117, 116, 95, 118, 97, 114] _ (by decide +kernel)
 have c_put_val : ((⟨#[102, 97, 105, 108]⟩ : ByteArray).toList == (⟨#[112, 117, 116, 95, 118, 97, 108]⟩ : ByteArray).toList) = false := eqS [102, 97, 105, 108] [112, 117, 116, 95, 118, 97, 108] _ (by decide +kernel)
 have c_get_atom : ((⟨#[102, 97, 105, 108]⟩ : ByteArray).toList == (⟨#[103, 101, 116, 95, 97, 116, 111, 109]⟩ : ByteArray).toList) = false := eqS [102, 97, 105, 108] [103, 101, 116, 95, 97, 116, 111, 109] _ (by decide +kernel)
 have c_put_atom : ((⟨#[102, 97, 105, 108]⟩ : ByteArray).toList == (⟨#[112, 117, 116, 95, 97, 116, 111, 109]⟩ : ByteArray).toList) = false := eqS [102, 97, 105, 108] [112, 117, 116, 95, 97, 116, 111, 109] _ (by decide +kernel)
 have c_get_int : ((⟨#[102, 97, 105, 108]⟩ : ByteArray).toList == (⟨#[103, 101, 116, 95, 105, 110, 116]⟩ : ByteArray).toList) = false := eqS [102, 97, 105, 108] [103, 101, 116, 95, 105, 110, 116] _ (by decide +kernel)
 have c_put_int : ((⟨#[102, 97, 105, 108]⟩ : ByteArray).toList == (⟨#[112, 117, 116, 95, 105, 110, 116]⟩ : ByteArray).toList) = false := eqS [102, 97, 105, 108] [112, 117, 116, 95, 105, 110, 116] _ (by decide +kernel)
 have c_get_str : ((⟨#[102, 97, 105, 108]⟩ : ByteArray).toList == (⟨#[103, 101, 116, 95, 115, 116, 114]⟩ : ByteArray).toList) = false := eqS [102, 97, 105, 108] [103, 101, 116, 95, 115, 116, 114] _ (by decide +kernel)
 have c_put_str : ((⟨#[102, 97, 105, 108]⟩ : ByteArray).toList == (⟨#[112, 117, 116, 95, 115, 116, 114]⟩ : ByteArray).toList) = false := eqS [102, 97, 105, 108] [112, 117, 116, 95, 115, 116, 114] _ (by decide +kernel)
 have c_uni_var : ((⟨#[102, 97, 105, 108]⟩ : ByteArray).toList == (⟨#[117, 110, 105, 95, 118, 97, 114]⟩ : ByteArray).toList) = false := eqS [102, 97, 105, 108] [117, 110, 105, 95, 118, 97, 114] _ (by decide +kernel)
 have c_uni_val : ((⟨#[102, 97, 105, 108]⟩ : ByteArray).toList == (⟨#[117, 110, 105, 95, 118, 97, 108]⟩ : ByteArray).toList) = false := eqS [102, 97, 105, 108] [117, 110, 105, 95, 118, 97, 108] _ (by decide +kernel)
 have c_set_var : ((⟨#[102, 97, 105, 108]⟩ : ByteArray).toList == (⟨#[115, 101, 116, 95, 118, 97, 114]⟩ : ByteArray).toList) = false := eqS [102, 97, 105, 108] [115, 101, 116, 95, 118, 97, 114] _ (by decide +kernel)
 have c_set_val : ((⟨#[102, 97, 105, 108]⟩ : ByteArray).toList == (⟨#[115, 101, 116, 95, 118, 97, 108]⟩ : ByteArray).toList) = false := eqS [102, 97, 105, 108] [115, 101, 116, 95, 118, 97, 108] _ (by decide +kernel)
 have c_level : ((⟨#[102, 97, 105, 108]⟩ : ByteArray).toList == (⟨#[108, 101, 118, 101, 108]⟩ : ByteArray).toList) = false := eqS [102, 97, 105, 108] [108, 101, 118, 101, 108] _ (by decide +kernel)
 have c_here : ((⟨#[102, 97, 105, 108]⟩ : ByteArray).toList == (⟨#[104, 101, 114, 101]⟩ : ByteArray).toList) = false := eqS [102, 97, 105, 108] [104, 101, 114, 101] _ (by decide +kernel)
 have c_cut : ((⟨#[102, 97, 105, 108]⟩ : ByteArray).toList == (⟨#[99, 117, 116]⟩ : ByteArray).toList) = false := eqS [102, 97, 105, 108] [99, 117, 116] _ (by decide +kernel)
 have c_uni_atom : ((⟨#[102, 97, 105, 108]⟩ : ByteArray).toList == (⟨#[117, 110, 105, 95, 97, 116, 111, 109]⟩ : ByteArray).toList) = false := eqS [102, 97, 105, 108] [117, 110, 105, 95, 97, 116, 111, 109] _ (by decide +kernel)
 have c_set_atom : ((⟨#[102, 97, 105, 108]⟩ : ByteArray).toList == (⟨#[115, 101, 116, 95, 97, 116, 111, 109]⟩ : ByteArray).toList) = false := eqS [102, 97, 105, 108] [115, 101, 116, 95, 97, 116, 111, 109] _ (by decide +kernel)
 have c_uni_int : ((⟨#[102, 97, 105, 108]⟩ : ByteArray).toList == (⟨#[117, 110, 105, 95, 105, 110, 116]⟩ : ByteArray).toList) = false := eqS [102, 97, 105, 108] [117, 110, 105, 95, 105, 110, 116] _ (by decide +kernel)
 have c_set_int : ((⟨#[102, 97, 105, 108]⟩ : ByteArray).toList == (⟨#[115, 101, 116, 95, 105, 110, 116]⟩ : ByteArray).toList) = false := eqS [102, 97, 105, 108] [115, 101, 116, 95, 105, 110, 116] _ (by decide +kernel)
 have c_alloc : ((⟨#[102, 97, 105, 108]⟩ : ByteArray).toList == (⟨#[97, 108, 108, 111, 99]⟩ : ByteArray).toList) = false := eqS [102, 97, 105, 108] [97, 108, 108, 111, 99] _ (by decide +kernel)
 have c_call : ((⟨#[102, 97, 105, 108]⟩ : ByteArray).toList == (⟨#[99, 97, 108, 108]⟩ : ByteArray).toList) = false := eqS [102, 97, 105, 108] [99, 97, 108, 108] _ (by decide +kernel)
 have c_exec : ((⟨#[102, 97, 105, 108]⟩ : ByteArray).toList == (⟨#[101, 120, 101, 99]⟩ : ByteArray).toList) = false := eqS [102, 97, 105, 108] [101, 120, 101, 99] _ (by decide +kernel)
 have c_body : ((⟨#[102, 97, 105, 108]⟩ : ByteArray).toList == (⟨#[98, 111, 100, 121]⟩ : ByteArray).toList) = false := eqS [102, 97, 105, 108] [98, 111, 100, 121] _ (by decide +kernel)
 go_enter Tryz.func73, Tryz.ntmps73
 go_wp2_with (go_at_call 14; refine HN.out.mono ?_; rintro e W1 ⟨rfl, hx⟩)
 go_ret
 exact ⟨rfl, hx⟩
theorem rForm_any (o : Int) (h0 : 0 ≤ o) (h3 : o < 31) (w : World) : Calls Tryz.prog 73 #[.int .i64 o] w fun e w' => e = .returned (.string (mkB (formL o))) ∧ Ext w w' := by
 obtain ⟨k, rfl⟩ : ∃ k : Nat, o = k := ⟨o.toNat, by omega⟩
 have hk : k < 31 := by omega
 match k, hk with
 | 0, _ => exact form_0 w
 | 1, _ => exact form_1 w
 | 2, _ => exact form_2 w
 | 3, _ => exact form_3 w
 | 4, _ => exact form_4 w
 | 5, _ => exact form_5 w
 | 6, _ => exact form_6 w
 | 7, _ => exact form_7 w
 | 8, _ => exact form_8 w
 | 9, _ => exact form_9 w
 | 10, _ => exact form_10 w
 | 11, _ => exact form_11 w
 | 12, _ => exact form_12 w
 | 13, _ => exact form_13 w
 | 14, _ => exact form_14 w
 | 15, _ => exact form_15 w
 | 16, _ => exact form_16 w
 | 17, _ => exact form_17 w
 | 18, _ => exact form_18 w
 | 19, _ => exact form_19 w
 | 20, _ => exact form_20 w
 | 21, _ => exact form_21 w
 | 22, _ => exact form_22 w
 | 23, _ => exact form_23 w
 | 24, _ => exact form_24 w
 | 25, _ => exact form_25 w
 | 26, _ => exact form_26 w
 | 27, _ => exact form_27 w
 | 28, _ => exact form_28 w
 | 29, _ => exact form_29 w
 | 30, _ => exact form_30 w
set_option maxRecDepth 100000 in
theorem rHas_any (s : ByteArray) (c : UInt8) (w : World) (hs : s.size ≤ 1000) :
  Calls Tryz.prog 116 #[.string s, .int .u8 (c.toNat : Int)] w fun e w' => e = .returned (.bool (s.data.toList.contains c)) ∧ w = w' := by
 have hl : s.data.toList.length = s.size := by simp
 obtain ⟨R, hR⟩ : ∃ R, s.data.toList.contains c = R := ⟨_, rfl⟩
 rw [hR]
 have HR := Lib.hid hR
 clear hR
 go_enter Tryz.func116, Tryz.ntmps116
 go_wp2_with fail
 go_loopw [5] (fun i wr => ∃ k : Nat, k ≤ s.size ∧ i = .int .i64 k ∧ w = wr ∧ Hid (c ∉ s.data.toList.take k)) (fun i _ => s.size - (intOf i).toNat)
 case atStart => exact ⟨0, Nat.zero_le _, rfl, rfl, Lib.hid (by simp)⟩
 case round =>
  obtain ⟨k, hk, rfl, rfl, HN⟩ := hrel
  by_cases hlt : k < s.size
  ·have hg : s.data.toList[k]'(by omega) = s[k] := by simp; rfl
   by_cases hc : s[k] = c
   ·have HT : Hid (R = true) := Lib.hid (by
     rw [← HR.out, List.contains_iff_mem, ← hc, ← hg]
     exact List.getElem_mem _)
    have hc2 : ((s[k].toNat : Int) == (c.toNat : Int)) = true := by rw [hc]; simp
    clear hg hc
    go_wp2_with fail
    go_ret
    exact ⟨by rw [HT.out]; rfl, rfl⟩
   ·have HN2 : Hid (c ∉ s.data.toList.take (k + 1)) := Lib.hid (by
     rw [List.take_succ_eq_append_getElem (by omega), List.mem_append, List.mem_singleton, hg]
     rintro (h | h)
     ·exact HN.out h
     ·exact hc h.symm)
    have hc2 : ((s[k].toNat : Int) == (c.toNat : Int)) = false := by
     rw [beq_eq_false_iff_ne]
     intro e
     exact hc (UInt8.toNat_inj.1 (by omega))
    clear hg hc
    go_wp2_with fail
    go_roundw
    case rel => exact ⟨k + 1, hlt, by go_num, trivial, HN2⟩
    case measure => simp [intOf]; omega
  ·obtain rfl : k = s.size := by omega
   have HT : Hid (R = false) := Lib.hid (by
    rw [← HR.out, Bool.eq_false_iff]
    intro h
    rw [List.contains_iff_mem] at h
    have := HN.out
    rw [List.take_of_length_le (by omega)] at this
    exact this h)
   go_wp2_with fail
   go_ret
   exact ⟨by rw [HT.out]; rfl, rfl⟩
end Go.Proofs.YtmnnhdegoapfcaaGreatDoor
