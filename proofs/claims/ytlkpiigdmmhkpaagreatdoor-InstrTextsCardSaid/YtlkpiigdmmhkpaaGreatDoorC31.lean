/- Layer 8, the program: the walk of skip. -/
import Derived.Test.YtlkpiigdmmhkpaaGreatDoorC22
import Derived.WalkMore
import Derived.Test.YtlkpiigdmmhkpaaGreatDoorC11
namespace Go.Proofs.YtlkpiigdmmhkpaaGreatDoor
open Go.RowKit Go.El

theorem blank_has (c : UInt8) : hasB ⟨#[32, 9, 10, 13]⟩ c = isBlank c := all_bytes (p := fun c => hasB ⟨#[32, 9, 10, 13]⟩ c = isBlank c) (by decide +kernel) c
theorem eol_drop (B : List UInt8) (k : Nat) (hk : k ≤ B.length) : Lib.indexByte (B.drop k) 10 = if eol B k < B.length then ((eol B k : Nat) : Int) - (k : Int) else -1 := by
  rw [index_line, List.length_drop]
  unfold eol rowTo
  split
  · rw [if_pos (by omega)]; omega
  · rw [if_neg (by omega)]
theorem eol_le {B : List UInt8} {k : Nat} (hk : k ≤ B.length) : eol B k ≤ B.length := rowTo_le hk

set_option maxRecDepth 100000 in
set_option maxHeartbeats 8000000 in
theorem skip_any (sb b off cap : Nat) (B : List UInt8) (i : Nat) (w : World) (h : ScAt w sb b off cap B i) :
    Calls Tryz.prog 99 #[.pointer (some ⟨sb, 0, none⟩)] w fun e w' => e = .returned (.bool (skipTo B i).2) ∧ ScIn w w' sb b off cap B (skipTo B i).1 := by
  have c0 := h.c0
  have c1 := h.c1
  have hat := h.at_
  have hcp := h.cap
  have hlen := h.len
  have H := Lib.hid h
  clear h
  go_enter Tryz.func99, Tryz.ntmps99
  go_wp2_with fail
  go_step3
  go_wp2_with fail
  go_step3
  go_wp2_with fail
  go_loopw [3, 14] (fun _ _ wr => ∃ k : Nat, Hid (ScIn w wr sb b off cap B k) ∧ Hid (skipTo B i = skipTo B k)) (fun _ _ wr => B.length - placeOf wr sb)
  case atStart => exact ⟨i, ScIn.start H.out, rfl⟩
  case round =>
    obtain ⟨k, HS, HR⟩ := hrel
    have d1 := HS.out.sc.c0
    have d2 := HS.out.sc.c1
    have hkl := HS.out.sc.at_
    have hplace := place_at HS.out.sc
    by_cases hlt : k < B.length
    · have ho : B[k]? = some B[k] := List.getElem?_eq_getElem hlt
      generalize B[k] = c at ho
      have d0 := HS.out.sc.cells ho
      have hin := blank_has c
      have hck : ¬ cap = k := by omega
      have HE := Lib.hid (skipTo_eq ho)
      go_upto_region 1 with fail
      go_quiet (fail)
      go_upto_region 2 with fail
      refine wp_abs (fun V => ScIn w V sb b off cap B k) (HS.out.drewN _) ?_
      clear d0 d1 d2 HS
      rintro wr HS'
      have HS := Lib.hid HS'
      clear HS'
      have d1 := HS.out.sc.c0
      have d2 := HS.out.sc.c1
      have d0 := HS.out.sc.cells ho
      cases hb : isBlank c
      · rw [hb] at hin
        go_quiet ((go_at_call 63; exact quiet_left (in8_any _ _ _)))
        rw [hin]
        go_upto_region 4 with fail
        refine wp_abs (fun V => ScIn w V sb b off cap B k) (HS.out.drewN _) ?_
        clear d0 d1 d2 HS hin
        rintro V hV
        have d1 := hV.sc.c0
        have d2 := hV.sc.c1
        have d0 := hV.sc.cells ho
        by_cases h37 : c = 37
        · have hq : ((c.toNat : Int) == (37 : Int)) = true := by rw [h37]; rfl
          have HN := Lib.hid (HR.out.trans (HE.out.trans (by rw [hb, if_neg (by simp), if_pos h37])))
          subst h37
          have hge := eol_gt ho
          have hel := eol_le (B := B) (k := k) (by omega)
          have hix := eol_drop B k (by omega)
          have HV := Lib.hid hV
          clear hV hb
          go_quiet (fail)
          go_upto_region 5 with fail
          refine wp_abs (fun V => ScIn w V sb b off cap B k) (HV.out.drewN _) ?_
          clear d0 d1 d2 HV
          rintro V hV
          have d1 := hV.sc.c0
          have d2 := hV.sc.c1
          have d0 := hV.sc.cells ho
          have HV := Lib.hid hV
          clear hV ho
          have hcall : ∀ n, Calls Tryz.prog 113 #[.slice (some ⟨b, off + k, none⟩) (B.length - k) (cap - k), .int .u8 10] (V.drewN n) fun e w' => e = .returned (.int .i64 (Lib.indexByte (B.drop k) 10)) ∧ V.drewN n = w' := fun n => by
            have h1 := indexByteB (cap - k) 10 (bytes_drop ((HV.out.drewN n).sc.src) k (by omega))
            rw [List.length_drop] at h1
            exact h1
          rw [hix] at hcall
          by_cases hin2 : eol B k < B.length
          · rw [if_pos hin2] at hcall
            have HC := Lib.hid hcall
            clear hcall hix
            generalize eol B k = e at *
            go_quiet ((go_at_call 113; exact quiet_left (HC.out _)))
            go_upto_region 8 with fail
            refine wp_abs (fun V => ScIn w V sb b off cap B k) (HV.out.drewN _) ?_
            clear d0 d1 d2 HV HC
            rintro U hU
            have d1 := hU.sc.c0
            have d2 := hU.sc.c1
            have f2 := hU.sc.frozen
            have HU := Lib.hid hU
            clear hU
            go_wp2_with fail
            go_roundw
            case rel => exact ⟨e, HU.out.to hel (by omega), HN.out⟩
            case measure =>
              have h2 := place_at (HU.out.to (j := e) (v := (k : Int) + ((e : Int) - (k : Int))) hel (by omega)).sc
              rw [h2, hplace]
              omega
          · rw [if_neg hin2] at hcall
            have he : eol B k = B.length := by omega
            rw [he] at HN
            have HC := Lib.hid hcall
            clear hcall hix
            go_quiet ((go_at_call 113; exact quiet_left (HC.out _)))
            go_upto_region 7 with fail
            go_quiet (fail)
            go_upto_region 8 with fail
            refine wp_abs (fun V => ScIn w V sb b off cap B k) ((HV.out.drewN _).drewN _) ?_
            clear d0 d1 d2 HV HC
            rintro U hU
            have d1 := hU.sc.c0
            have d2 := hU.sc.c1
            have f2 := hU.sc.frozen
            have HU := Lib.hid hU
            clear hU
            go_wp2_with fail
            go_roundw
            case rel => exact ⟨B.length, HU.out.to (Nat.le_refl _) (by omega), HN.out⟩
            case measure =>
              have h2 := place_at (HU.out.to (j := B.length) (v := (k : Int) + ((B.length : Int) - (k : Int))) (Nat.le_refl _) (by omega)).sc
              rw [h2, hplace]
              omega
        · have hq := u8_ne' (c := c) (n := 37) (z := 37) rfl (by omega) h37
          have hpre := pre2 47 42 ho
          by_cases hcm : c = 47 ∧ B[k + 1]? = some 42
          · have hk2 : k + 2 ≤ B.length := by have := (List.getElem?_eq_some_iff.1 hcm.2).1; omega
            rw [decide_eq_true hcm] at hpre
            have HN := Lib.hid (HR.out.trans (HE.out.trans (by rw [hb, if_neg (by simp), if_neg h37, if_pos hcm])))
            have HV := Lib.hid hV
            have HC := fun n => Lib.hid (starts_is (HV.out.drewN n).sc [47, 42] true hpre)
            clear hV ho hb h37 hcm hpre
            cases hcl : close B (k + 2) with
            | none =>
              have HM := Lib.hid hcl
              rw [hcl] at HN
              clear hcl
              go_quiet (fail)
              go_wp2_with (first | (go_at_call 114; refine (HC _).out.mono ?_; rintro e w' ⟨rfl, hx⟩; have HU := Lib.hid ((HV.out.drewN _).go hx); clear hx) | (go_at_call 115; refine (comment_any sb b off cap B k _ HU.out.sc hk2).mono ?_; rw [HM.out]; rintro e w' ⟨rfl, hy⟩; have HY := Lib.hid (HU.out.then hy); clear hy))
              rw [Exit.noGoto_ret]
              go_ret
              exact ⟨by rw [HN.out]; rfl, by rw [HN.out]; exact HY.out⟩
            | some e =>
              have HM := Lib.hid hcl
              obtain ⟨he1, he2⟩ := close_bd hcl
              rw [hcl] at HN
              clear hcl
              go_quiet (fail)
              go_wp2_with (first | (go_at_call 114; refine (HC _).out.mono ?_; rintro e' w' ⟨rfl, hx⟩; have HU := Lib.hid ((HV.out.drewN _).go hx); clear hx) | (go_at_call 115; refine (comment_any sb b off cap B k _ HU.out.sc hk2).mono ?_; rw [HM.out]; rintro e' w' ⟨rfl, hy⟩; have HY := Lib.hid (HU.out.then hy); clear hy))
              go_roundw
              case rel => exact ⟨e + 2, HY.out, HN.out⟩
              case measure =>
                have h2 := place_at HY.out.sc
                rw [h2, hplace]
                omega
          · rw [decide_eq_false hcm] at hpre
            have HN := Lib.hid (HR.out.trans (HE.out.trans (by rw [hb, if_neg (by simp), if_neg h37, if_neg hcm])))
            have HV := Lib.hid hV
            have HC := fun n => Lib.hid (starts_is (HV.out.drewN n).sc [47, 42] false hpre)
            clear hV ho hb h37 hcm hpre
            go_quiet (fail)
            go_wp2_with (go_at_call 114; refine (HC _).out.mono ?_; rintro e' w' ⟨rfl, hx⟩; have HU := Lib.hid ((HV.out.drewN _).go hx); clear hx)
            rw [Exit.noGoto_ret]
            go_ret
            exact ⟨by rw [HN.out]; rfl, by rw [HN.out]; exact HU.out⟩
      · rw [hb] at hin
        have HN := Lib.hid (HR.out.trans (HE.out.trans (by rw [hb, if_pos rfl])))
        clear ho hb
        go_quiet ((go_at_call 63; exact quiet_left (in8_any _ _ _)))
        rw [hin]
        go_upto_region 3 with fail
        refine wp_abs (fun V => ScIn w V sb b off cap B k) (HS.out.drewN _) ?_
        clear d0 d1 d2 HS
        rintro V hV
        have d1 := hV.sc.c0
        have d2 := hV.sc.c1
        have f2 := hV.sc.frozen
        have HV := Lib.hid hV
        clear hV
        go_wp2_with fail
        go_roundw
        case rel => exact ⟨k + 1, HV.out.to hlt (by omega), HN.out⟩
        case measure =>
          have h2 := place_at (HV.out.to (j := k + 1) (v := (k : Int) + 1) hlt (by omega)).sc
          rw [h2, hplace]
          omega
    · obtain rfl : k = B.length := by omega
      have HN := Lib.hid (HR.out.trans (skipTo_end (Nat.le_refl _)))
      go_upto_region 1 with fail
      go_quiet (fail)
      go_wp2_with fail
      rw [Exit.noGoto_ret]
      go_ret
      exact ⟨by rw [HN.out]; rfl, by rw [HN.out]; exact HS.out.drewN _⟩

end Go.Proofs.YtlkpiigdmmhkpaaGreatDoor
