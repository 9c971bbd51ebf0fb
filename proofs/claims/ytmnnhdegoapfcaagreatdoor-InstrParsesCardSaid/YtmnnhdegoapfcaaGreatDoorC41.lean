/- The reference of layer 16: the walk of named. -/
import Derived.Test.YtmnnhdegoapfcaaGreatDoorC36
import Derived.Test.YtmnnhdegoapfcaaGreatDoorC40
import Derived.RegionTactic
namespace Go.Proofs.YtmnnhdegoapfcaaGreatDoor
open Go.RowKit Go.El

def namedV (x : Option (List UInt8 × List UInt8)) : Value := .tuple #[.string (mkB ((x.map Prod.fst).getD [])), .string (mkB ((x.map Prod.snd).getD [])), .bool x.isSome]
theorem named_step {l : List UInt8} {ar : Bool} {k : Nat} (h : 0 < k) : namedFrom l ar k = (match quotL (l.take k) with
    | some m => if namedOk l ar k then some (m, l.drop k) else namedFrom l ar (k - 1)
    | none => namedFrom l ar (k - 1)) := by
  obtain ⟨j, rfl⟩ : ∃ j, k = j + 1 := ⟨k - 1, by omega⟩
  rfl
theorem named_none {l : List UInt8} {ar : Bool} {k : Nat} (h : 0 < k) (hq : quotL (l.take k) = none) : namedFrom l ar k = namedFrom l ar (k - 1) := by rw [named_step h, hq]
theorem named_yes {l m : List UInt8} {ar : Bool} {k : Nat} (h : 0 < k) (hq : quotL (l.take k) = some m) (hk : namedOk l ar k = true) : namedFrom l ar k = some (m, l.drop k) := by
  rw [named_step h, hq]
  simp only [hk, if_true]
theorem named_no {l m : List UInt8} {ar : Bool} {k : Nat} (h : 0 < k) (hq : quotL (l.take k) = some m) (hk : namedOk l ar k = false) : namedFrom l ar k = namedFrom l ar (k - 1) := by
  rw [named_step h, hq]
  simp only [hk, Bool.false_eq_true, if_false]
theorem getD_list (s : ByteArray) (k : Nat) (h : k < s.size) : s.data.toList.getD k 0 = s[k]'h := by
  have h2 : k < s.data.toList.length := by simpa using h
  rw [List.getD_eq_getElem?_getD, List.getElem?_eq_getElem h2]
  exact (get_list s k h h2).symm
theorem ext_take (s : ByteArray) (k : Nat) : (s.extract 0 k).data.toList = s.data.toList.take k := by
  rw [ext_list]
  simp
theorem ext_drop (s : ByteArray) (k : Nat) : s.extract k s.size = mkB (s.data.toList.drop k) := by
  apply mkB_ext
  rw [ext_list, List.take_of_length_le (by simp)]

set_option maxRecDepth 100000 in
set_option maxHeartbeats 4000000 in
theorem rNamed_ar (s : ByteArray) (hs : s.size ≤ 1000) (w : World) :
    Calls Tryz.prog 108 #[.string s, .bool true] w fun e w' => e = .returned (namedV (namedFrom s.data.toList true s.data.toList.length)) ∧ Ext w w' := by
  have hll : s.data.toList.length = s.size := by simp
  obtain ⟨R, hR⟩ : ∃ R, namedFrom s.data.toList true s.data.toList.length = R := ⟨_, rfl⟩
  rw [hR]
  rw [hll] at hR
  have HR := Lib.hid hR
  have HL := Lib.hid hll
  have HQ := fun (W : World) (k : Nat) (hk : k ≤ s.size) => Lib.hid (rQuotedI_any (s.extract 0 k) (by simp; omega) W)
  simp only [ext_take] at HQ
  clear hR hll
  go_enter Tryz.func108, Tryz.ntmps108
  go_wp2_with fail
  go_loopw [7] (fun iv wr => ∃ k : Nat, k ≤ s.size ∧ iv = .int .i64 k ∧ Hid (namedFrom s.data.toList true k = R) ∧ Hid (Ext w wr)) (fun iv _ => (intOf iv).toNat)
  case atStart => exact ⟨s.size, Nat.le_refl _, rfl, HR, Lib.hid (Ext.refl _)⟩
  case round =>
    obtain ⟨k, hk, rfl, HE, HX⟩ := hrel
    by_cases h0 : 0 < k
    · have d0 : (0 : Int) < (k : Int) := by omega
      have HQk := fun (W : World) => HQ W k hk
      clear HQ
      cases hq : quotL (s.data.toList.take k) with
      | none =>
        rw [hq] at HQk
        have HN := Lib.hid ((named_none h0 hq).symm.trans HE.out)
        clear hq
        go_wp2_with (go_at_call 145; refine (HQk _).out.mono ?_; rintro e W6 ⟨rfl, hx⟩; have HX6 := Lib.hid (HX.out.trans hx); clear hx)
        go_roundw
        case rel => exact ⟨k - 1, by omega, by rw [show ((k - 1 : Nat) : Int) = (k : Int) - 1 by omega], HN, HX6⟩
        case measure => simp [intOf]; omega
      | some m =>
        rw [hq] at HQk
        have HQS := Lib.hid hq
        clear hq
        by_cases c1 : k < s.size
        · have d1 : (k : Int) < (s.size : Int) := by omega
          have HGD := Lib.hid (getD_list s k c1)
          by_cases c2 : s[k]'c1 = 47
          · have d2 : (((s[k]'c1).toNat : Int) == 47) = true := by rw [c2]; rfl
            have C2 := Lib.hid c2
            clear c2
            have hw1 : IntKind.i64.wrap ((k : Int) + 1) = (k : Int) + 1 := IntWalk.i64_in _ (by omega)
            by_cases c3 : k + 1 < s.size
            · have d3 : (k : Int) + 1 < (s.size : Int) := by omega
              have HGE := Lib.hid (getD_list s (k + 1) c3)
              by_cases c4 : 48 ≤ (s[k + 1]'c3).toNat
              · have d4 : (48 : Int) ≤ ((s[k + 1]'c3).toNat : Int) := by omega
                by_cases c5 : (s[k + 1]'c3).toNat ≤ 57
                · have d5 : ((s[k + 1]'c3).toNat : Int) ≤ 57 := by omega
                  have HN := Lib.hid ((named_yes h0 HQS.out (by unfold namedOk; rw [HGD.out, HGE.out, HL.out, C2.out]; simp [c1, c3, c4, c5])).symm.trans HE.out)
                  go_upto_region 7 with (go_at_call 145; refine (HQk _).out.mono ?_; rintro e W6 ⟨rfl, hx⟩; have HX6 := Lib.hid (HX.out.trans hx); clear hx)
                  go_region
                  all_goals
                    go_wp2_with fail
                    go_ret3
                    exact ⟨by rw [← HN.out, ext_drop]; rfl, HX6.out.drew⟩
                · have d5 : ¬ ((s[k + 1]'c3).toNat : Int) ≤ 57 := by omega
                  have HN := Lib.hid ((named_no h0 HQS.out (by unfold namedOk; rw [HGD.out, HGE.out, HL.out, C2.out]; simp [c1, c3, c4, c5])).symm.trans HE.out)
                  go_wp2_with (go_at_call 145; refine (HQk _).out.mono ?_; rintro e W6 ⟨rfl, hx⟩; have HX6 := Lib.hid (HX.out.trans hx); clear hx)
                  go_roundw
                  case rel => exact ⟨k - 1, by omega, by rw [show ((k - 1 : Nat) : Int) = (k : Int) - 1 by omega], HN, HX6⟩
                  case measure => simp [intOf]; omega
              · have d4 : ¬ (48 : Int) ≤ ((s[k + 1]'c3).toNat : Int) := by omega
                have HN := Lib.hid ((named_no h0 HQS.out (by unfold namedOk; rw [HGD.out, HGE.out, HL.out, C2.out]; simp [c1, c3, c4])).symm.trans HE.out)
                go_wp2_with (go_at_call 145; refine (HQk _).out.mono ?_; rintro e W6 ⟨rfl, hx⟩; have HX6 := Lib.hid (HX.out.trans hx); clear hx)
                go_roundw
                case rel => exact ⟨k - 1, by omega, by rw [show ((k - 1 : Nat) : Int) = (k : Int) - 1 by omega], HN, HX6⟩
                case measure => simp [intOf]; omega
            · have d3 : ¬ (k : Int) + 1 < (s.size : Int) := by omega
              have HN := Lib.hid ((named_no h0 HQS.out (by unfold namedOk; rw [HGD.out, HL.out, C2.out]; simp [c1, c3])).symm.trans HE.out)
              go_wp2_with (go_at_call 145; refine (HQk _).out.mono ?_; rintro e W6 ⟨rfl, hx⟩; have HX6 := Lib.hid (HX.out.trans hx); clear hx)
              go_roundw
              case rel => exact ⟨k - 1, by omega, by rw [show ((k - 1 : Nat) : Int) = (k : Int) - 1 by omega], HN, HX6⟩
              case measure => simp [intOf]; omega
          · have d2 : (((s[k]'c1).toNat : Int) == 47) = false := u8_ne (n := 47) (by omega) c2
            have HN := Lib.hid ((named_no h0 HQS.out (by unfold namedOk; rw [HGD.out, HL.out]; simp [c1, c2])).symm.trans HE.out)
            go_wp2_with (go_at_call 145; refine (HQk _).out.mono ?_; rintro e W6 ⟨rfl, hx⟩; have HX6 := Lib.hid (HX.out.trans hx); clear hx)
            go_roundw
            case rel => exact ⟨k - 1, by omega, by rw [show ((k - 1 : Nat) : Int) = (k : Int) - 1 by omega], HN, HX6⟩
            case measure => simp [intOf]; omega
        · have d1 : ¬ (k : Int) < (s.size : Int) := by omega
          have HN := Lib.hid ((named_no h0 HQS.out (by unfold namedOk; rw [HL.out]; simp [c1])).symm.trans HE.out)
          go_wp2_with (go_at_call 145; refine (HQk _).out.mono ?_; rintro e W6 ⟨rfl, hx⟩; have HX6 := Lib.hid (HX.out.trans hx); clear hx)
          go_roundw
          case rel => exact ⟨k - 1, by omega, by rw [show ((k - 1 : Nat) : Int) = (k : Int) - 1 by omega], HN, HX6⟩
          case measure => simp [intOf]; omega
    · obtain rfl : k = 0 := by omega
      have HN : Hid (R = none) := Lib.hid HE.out.symm
      clear HQ
      go_wp2_with fail
      go_ret3
      exact ⟨by rw [HN.out]; rfl, HX.out⟩

set_option maxRecDepth 100000 in
set_option maxHeartbeats 4000000 in
theorem rNamed_bl (s : ByteArray) (hs : s.size ≤ 1000) (w : World) :
    Calls Tryz.prog 108 #[.string s, .bool false] w fun e w' => e = .returned (namedV (namedFrom s.data.toList false s.data.toList.length)) ∧ Ext w w' := by
  have hll : s.data.toList.length = s.size := by simp
  obtain ⟨R, hR⟩ : ∃ R, namedFrom s.data.toList false s.data.toList.length = R := ⟨_, rfl⟩
  rw [hR]
  rw [hll] at hR
  have HR := Lib.hid hR
  have HL := Lib.hid hll
  have HQ := fun (W : World) (k : Nat) (hk : k ≤ s.size) => Lib.hid (rQuotedI_any (s.extract 0 k) (by simp; omega) W)
  simp only [ext_take] at HQ
  clear hR hll
  go_enter Tryz.func108, Tryz.ntmps108
  go_wp2_with fail
  go_loopw [7] (fun iv wr => ∃ k : Nat, k ≤ s.size ∧ iv = .int .i64 k ∧ Hid (namedFrom s.data.toList false k = R) ∧ Hid (Ext w wr)) (fun iv _ => (intOf iv).toNat)
  case atStart => exact ⟨s.size, Nat.le_refl _, rfl, HR, Lib.hid (Ext.refl _)⟩
  case round =>
    obtain ⟨k, hk, rfl, HE, HX⟩ := hrel
    by_cases h0 : 0 < k
    · have d0 : (0 : Int) < (k : Int) := by omega
      have HQk := fun (W : World) => HQ W k hk
      clear HQ
      cases hq : quotL (s.data.toList.take k) with
      | none =>
        rw [hq] at HQk
        have HN := Lib.hid ((named_none h0 hq).symm.trans HE.out)
        clear hq
        go_wp2_with (go_at_call 145; refine (HQk _).out.mono ?_; rintro e W6 ⟨rfl, hx⟩; have HX6 := Lib.hid (HX.out.trans hx); clear hx)
        go_roundw
        case rel => exact ⟨k - 1, by omega, by rw [show ((k - 1 : Nat) : Int) = (k : Int) - 1 by omega], HN, HX6⟩
        case measure => simp [intOf]; omega
      | some m =>
        rw [hq] at HQk
        have HQS := Lib.hid hq
        clear hq
        by_cases c1 : k = s.size
        · have d1 : ((k : Int) == (s.size : Int)) = true := by simp [c1]
          have C1 := Lib.hid c1
          clear c1
          have HN := Lib.hid ((named_yes h0 HQS.out (by unfold namedOk; rw [HL.out]; simp [C1.out])).symm.trans HE.out)
          go_upto_region 9 with (go_at_call 145; refine (HQk _).out.mono ?_; rintro e W6 ⟨rfl, hx⟩; have HX6 := Lib.hid (HX.out.trans hx); clear hx)
          go_region
          all_goals
            go_wp2_with fail
            go_ret3
            exact ⟨by rw [← HN.out, ext_drop]; rfl, HX6.out.drew⟩
        · have d1 : ((k : Int) == (s.size : Int)) = false := by simp; omega
          have c0 : k < s.size := by omega
          have HGD := Lib.hid (getD_list s k c0)
          by_cases c2 : s[k]'c0 = 32
          · have d2 : (((s[k]'c0).toNat : Int) == 32) = true := by rw [c2]; rfl
            have C2 := Lib.hid c2
            clear c2
            have HN := Lib.hid ((named_yes h0 HQS.out (by unfold namedOk; rw [HGD.out, HL.out, C2.out]; simp [c1])).symm.trans HE.out)
            go_upto_region 9 with (go_at_call 145; refine (HQk _).out.mono ?_; rintro e W6 ⟨rfl, hx⟩; have HX6 := Lib.hid (HX.out.trans hx); clear hx)
            go_region
            all_goals
              go_wp2_with fail
              go_ret3
              exact ⟨by rw [← HN.out, ext_drop]; rfl, HX6.out.drew⟩
          · have d2 : (((s[k]'c0).toNat : Int) == 32) = false := u8_ne (n := 32) (by omega) c2
            have HN := Lib.hid ((named_no h0 HQS.out (by unfold namedOk; rw [HGD.out, HL.out]; simp [c1, c2])).symm.trans HE.out)
            go_wp2_with (go_at_call 145; refine (HQk _).out.mono ?_; rintro e W6 ⟨rfl, hx⟩; have HX6 := Lib.hid (HX.out.trans hx); clear hx)
            go_roundw
            case rel => exact ⟨k - 1, by omega, by rw [show ((k - 1 : Nat) : Int) = (k : Int) - 1 by omega], HN, HX6⟩
            case measure => simp [intOf]; omega
    · obtain rfl : k = 0 := by omega
      have HN : Hid (R = none) := Lib.hid HE.out.symm
      clear HQ
      go_wp2_with fail
      go_ret3
      exact ⟨by rw [HN.out]; rfl, HX.out⟩

end Go.Proofs.YtmnnhdegoapfcaaGreatDoor
