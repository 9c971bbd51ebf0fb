/- Layer 8, the reference: the walk of Quote. -/
import Derived.Test.YtmnnhdegoapfcaaGreatDoorQ03
import Derived.Test.YtmnnhdegoapfcaaGreatDoorQ02
import Derived.Deep.RegionLaw
import Derived.Laws.OwnMore
import Derived.OwnWalk
import Derived.Shelf.Strings.Builder1
import Derived.Shelf.Small.Strs
import Derived.Test.YtmnnhdegoapfcaaGreatDoorProg
import Derived.Lib.SmallJoins
import Derived.Lib.QuietBelow
import Derived.WalkMore
import Derived.Lib.AppendStr
import Derived.Lib.OwnKind
namespace Go.Proofs.YtmnnhdegoapfcaaGreatDoor
open Go.RowKit Go.El
theorem hexL_lenR (c : UInt8) : (hexL c).length ≤ 2 := by
 unfold hexL
 split <;> simp
theorem sgnF_lenR (c : UInt8) : (sgnF c).length ≤ 5 := by
 have h1 := hexL_lenR c
 unfold sgnF
 split
 ·simp only [List.length_append, List.length_cons, List.length_nil]; omega
 ·unfold El.sgnS
  split
  ·decide
  ·split
   ·decide
   ·split <;> simp
theorem sgnW_lenR : ∀ l : List UInt8, (sgnW l).length ≤ 5 * l.length
 | [] => Nat.le_refl _
 | c :: l => by
  have := sgnW_lenR l
  have := sgnF_lenR c
  simp only [sgnW, List.flatMap_cons, List.length_append, List.length_cons] at *
  omega
theorem sgnW_stepR (l : List UInt8) (k : Nat) (c : UInt8) (h : l[k]? = some c) : sgnW (l.take (k + 1)) = sgnW (l.take k) ++ sgnF c := by
 rw [List.take_add_one, h]
 simp [sgnW]
theorem dig16 (m : Nat) (hm : m < 16) (h : m < (⟨#[48, 49, 50, 51, 52, 53, 54, 55, 56, 57, 97, 98, 99, 100, 101, 102]⟩ : ByteArray).size) : (⟨#[48, 49, 50, 51, 52, 53, 54, 55, 56, 57, 97, 98, 99, 100, 101, 102]⟩ : ByteArray)[m]'h = hexD m := by
 have key : ∀ i : Fin 16, ((#[48, 49, 50, 51, 52, 53, 54, 55, 56, 57, 97, 98, 99, 100, 101, 102] : Array UInt8)[i.val]'i.isLt) = hexD i.val := by decide +kernel
 exact key ⟨m, hm⟩
theorem sgnF_ctl {c : UInt8} (h : El.isCtl c = true) : sgnF c = [92, 120] ++ hexL c ++ [92] := by unfold sgnF; rw [if_pos h]
theorem sgnF_no {c : UInt8} (h : El.isCtl c = false) : sgnF c = El.sgnS c := by unfold sgnF; rw [h]; rfl
theorem ctl_hi {c : UInt8} (h : (16 ≤ c.toNat ∧ c.toNat < 32) ∨ c = 127) : El.isCtl c = true ∧ hexL c = [hexD (c.toNat / 16), hexD (c.toNat % 16)] ∧ c ≠ 39 ∧ c ≠ 92 ∧ c ≠ 10 ∧ c ≠ 9 := by
 have := all_bytes (p := fun c => (!((decide (16 ≤ c.toNat) && decide (c.toNat < 32)) || c == 127) || (El.isCtl c && hexL c == [hexD (c.toNat / 16), hexD (c.toNat % 16)] && c != 39 && c != 92 && c != 10 && c != 9)) = true) (by decide +kernel) c
 have hb : ((decide (16 ≤ c.toNat) && decide (c.toNat < 32)) || c == 127) = true := by simpa using h
 rw [hb] at this
 simpa [and_assoc] using this
theorem ctl_lo {c : UInt8} (h : c.toNat < 16) (h10 : c ≠ 10) (h9 : c ≠ 9) : El.isCtl c = true ∧ hexL c = [hexD c.toNat] ∧ c ≠ 39 ∧ c ≠ 92 := by
 have := all_bytes (p := fun c => (!(decide (c.toNat < 16) && c != 10 && c != 9) || (El.isCtl c && hexL c == [hexD c.toNat] && c != 39 && c != 92)) = true) (by decide +kernel) c
 have hb : (decide (c.toNat < 16) && c != 10 && c != 9) = true := by simp [h, h10, h9]
 rw [hb] at this
 simpa [and_assoc] using this
theorem ctl_no {c : UInt8} (h : ¬ c.toNat < 16) (h2 : ¬ ((16 ≤ c.toNat ∧ c.toNat < 32) ∨ c = 127)) : El.isCtl c = false := by
 have := all_bytes (p := fun c => (decide (c.toNat < 16) || (decide (16 ≤ c.toNat) && decide (c.toNat < 32)) || c == 127 || !El.isCtl c) = true) (by decide +kernel) c
 have hb : ((decide (16 ≤ c.toNat) && decide (c.toNat < 32)) || c == 127) = false := by
  rw [Bool.eq_false_iff]
  intro e
  exact h2 (by simpa using e)
 have ha : decide (c.toNat < 16) = false := by simp [h]
 rw [ha, Bool.false_or, hb] at this
 simpa using this
theorem GathB.one (X : World) (c : UInt8) : GathB X (X.alloc (.cells #[.int .u8 (c.toNat : Int)] 5)) (.slice (some ⟨X.heap.size, 0, none⟩) 1 1) [c] := by
 refine ⟨World.ownsRow_lit X #[.int .u8 (c.toNat : Int)] 1 (Nat.zero_le _) (by unfold maxLen; omega) rfl, fun b hb => ?_, (Ext.refl X).alloc _⟩
 have e1 : X.heap.size = b := by simpa [Value.ownBlock] using hb
 omega
set_option maxRecDepth 100000 in
set_option maxHeartbeats 8000000 in
theorem rQuote_any (l : List UInt8) (w : World) (hl : l.length ≤ 1000) :
  Calls Tryz.prog 76 #[.string (strB l)] w fun e w' => e = .returned (.string (strB (quoF l))) ∧ Ext w w' := by
 obtain ⟨i1, hi1, hz0, hz1, hz2⟩ := infoP u8Info
 have hsz := strB_size l
 have hpl : plainB (strB l) = plainL l := by unfold plainB; rw [strB_toList]
 have hP := rPlain_any (strB l) w (by omega)
 rw [hpl] at hP
 cases hp : plainL l
 ·rw [hp] at hP
  have HN := Lib.hid (show quoF l = [39] ++ sgnW l ++ [39] from by unfold quoF; rw [hp]; rfl)
  have hidx : ∀ (k : Nat) (h : k < (strB l).size) (c : UInt8), l[k]? = some c → (strB l)[k]'h = c := fun k h c hk => by
   obtain ⟨h1, h2⟩ := List.getElem?_eq_some_iff.1 hk
   rw [← h2]
   show (l.toArray)[k] = _
   simp
  generalize hgs : strB l = s at *
  have HI := Lib.hid hidx
  have HP := Lib.hid hP
  clear hidx hP hgs hp hpl
  go_enter Tryz.func76, Tryz.ntmps76
  go_upto_region 3 with (go_at_call 117; refine HP.out.mono ?_; rintro e w1 ⟨rfl, rfl⟩)
  have HG0 := Lib.hid (GathB.one w 39)
  go_wp2_with fail
  go_loopw [3, 4] (fun v i wr => ∃ k : Nat, k ≤ l.length ∧ i = .int .i64 k ∧ Hid (GathB w wr v ([39] ++ sgnW (l.take k)))) (fun _ i _ => l.length - (intOf i).toNat)
  case atStart => exact ⟨0, Nat.zero_le _, rfl, HG0.out⟩
  case round =>
   obtain ⟨k, hk, rfl, HG⟩ := hrel
   have hs3 := sgnW_lenR (l.take k)
   have hs4 : (l.take k).length ≤ 1000 := by rw [List.length_take]; omega
   have hs6 : ([39] ++ sgnW (l.take k)).length ≤ 5001 := by simp; omega
   by_cases hlt : k < l.length
   ·have ho : l[k]? = some l[k] := List.getElem?_eq_getElem hlt
    generalize l[k] = c at ho
    have hks : k < s.size := by omega
    have hc := HI.out k hks c ho
    have HST := Lib.hid (sgnW_stepR l k c ho)
    clear ho hs3 hs4
    generalize hF : [39] ++ sgnW (l.take k) = F at *
    have HF := Lib.hid hF
    clear hF
    have hcl := c.toNat_lt
    obtain ⟨A1, c1, rfl, hb1⟩ := HG.out.slice
    clear hb1
    by_cases h39 : c = 39
    ·subst h39
     have HSG := Lib.hid (show sgnF 39 = [92, 39] from rfl)
     go_wp2_with (at_builtin; refine wpList_append_src (P := Tryz.prog) rfl _ _ 61 rfl 5 i1 _ 1 1 Tryz.underlying61 hi1 hz0 hz1 hz2 rfl (by omega) _ rfl _ _ _ rfl F.length (F.map u8V) (own_ext HG.out.own ((Ext.refl wr).alloc _)) [.int .u8 92, .int .u8 39] (El.Src.new _ #[.int .u8 92, .int .u8 39] _ 2 1 rfl) (u8_one [92, 39]) (by unfold maxLen; omega) (by omega) ?_; intro v3 w3 ho3 hm3 hb3; have hG3 := Lib.hid (GathB.step (G := [92, 39]) HG.out ((Ext.refl wr).alloc _) ho3 hm3 hb3); clear ho3 hm3 hb3)
     go_roundw
     case rel =>
      refine ⟨k + 1, hlt, by go_num, ?_⟩
      rw [HST.out, ← List.append_assoc, HF.out, HSG.out]
      exact hG3
     case measure => simp [intOf]; omega
    by_cases h92 : c = 92
    ·subst h92
     have HSG := Lib.hid (show sgnF 92 = [92, 92] from rfl)
     go_wp2_with (at_builtin; refine wpList_append_src (P := Tryz.prog) rfl _ _ 61 rfl 5 i1 _ 1 1 Tryz.underlying61 hi1 hz0 hz1 hz2 rfl (by omega) _ rfl _ _ _ rfl F.length (F.map u8V) (own_ext HG.out.own ((Ext.refl wr).alloc _)) [.int .u8 92, .int .u8 92] (El.Src.new _ #[.int .u8 92, .int .u8 92] _ 2 1 rfl) (u8_one [92, 92]) (by unfold maxLen; omega) (by omega) ?_; intro v3 w3 ho3 hm3 hb3; have hG3 := Lib.hid (GathB.step (G := [92, 92]) HG.out ((Ext.refl wr).alloc _) ho3 hm3 hb3); clear ho3 hm3 hb3)
     go_roundw
     case rel =>
      refine ⟨k + 1, hlt, by go_num, ?_⟩
      rw [HST.out, ← List.append_assoc, HF.out, HSG.out]
      exact hG3
     case measure => simp [intOf]; omega
    have q39 := u8_ne' (c := c) (n := 39) (z := 39) rfl (by omega) h39
    have q92 := u8_ne' (c := c) (n := 92) (z := 92) rfl (by omega) h92
    by_cases h10 : c = 10
    ·subst h10
     have HSG := Lib.hid (show sgnF 10 = [92, 110] from rfl)
     go_wp2_with (at_builtin; refine wpList_append_src (P := Tryz.prog) rfl _ _ 61 rfl 5 i1 _ 1 1 Tryz.underlying61 hi1 hz0 hz1 hz2 rfl (by omega) _ rfl _ _ _ rfl F.length (F.map u8V) (own_ext HG.out.own ((Ext.refl wr).alloc _)) [.int .u8 92, .int .u8 110] (El.Src.new _ #[.int .u8 92, .int .u8 110] _ 2 1 rfl) (u8_one [92, 110]) (by unfold maxLen; omega) (by omega) ?_; intro v3 w3 ho3 hm3 hb3; have hG3 := Lib.hid (GathB.step (G := [92, 110]) HG.out ((Ext.refl wr).alloc _) ho3 hm3 hb3); clear ho3 hm3 hb3)
     go_roundw
     case rel =>
      refine ⟨k + 1, hlt, by go_num, ?_⟩
      rw [HST.out, ← List.append_assoc, HF.out, HSG.out]
      exact hG3
     case measure => simp [intOf]; omega
    by_cases h9 : c = 9
    ·subst h9
     have HSG := Lib.hid (show sgnF 9 = [92, 116] from rfl)
     go_wp2_with (at_builtin; refine wpList_append_src (P := Tryz.prog) rfl _ _ 61 rfl 5 i1 _ 1 1 Tryz.underlying61 hi1 hz0 hz1 hz2 rfl (by omega) _ rfl _ _ _ rfl F.length (F.map u8V) (own_ext HG.out.own ((Ext.refl wr).alloc _)) [.int .u8 92, .int .u8 116] (El.Src.new _ #[.int .u8 92, .int .u8 116] _ 2 1 rfl) (u8_one [92, 116]) (by unfold maxLen; omega) (by omega) ?_; intro v3 w3 ho3 hm3 hb3; have hG3 := Lib.hid (GathB.step (G := [92, 116]) HG.out ((Ext.refl wr).alloc _) ho3 hm3 hb3); clear ho3 hm3 hb3)
     go_roundw
     case rel =>
      refine ⟨k + 1, hlt, by go_num, ?_⟩
      rw [HST.out, ← List.append_assoc, HF.out, HSG.out]
      exact hG3
     case measure => simp [intOf]; omega
    have q10 := u8_ne' (c := c) (n := 10) (z := 10) rfl (by omega) h10
    have q9 := u8_ne' (c := c) (n := 9) (z := 9) rfl (by omega) h9
    by_cases hhi : (16 ≤ c.toNat ∧ c.toNat < 32) ∨ c = 127
    ·obtain ⟨e1, e2, _⟩ := ctl_hi hhi
     have HSG := Lib.hid (show sgnF c = [92, 120, hexD (c.toNat / 16), hexD (c.toNat % 16), 92] from by rw [sgnF_ctl e1, e2]; rfl)
     have d1 := dig16 (c.toNat / 16) (by omega)
     have w16 : IntKind.u8.wrap ((c.toNat : Int) / 16) = (c.toNat : Int) / 16 := IntWalk.u8_in _ (by omega)
     have b0 : 0 ≤ (c.toNat : Int) / 16 := by omega
     have b16 : (c.toNat : Int) / 16 < 16 := by omega
     have t16 : ((c.toNat : Int) / 16).toNat = c.toNat / 16 := by omega
     have tm0 : ((c.toNat : Int)).tmod 16 = (c.toNat : Int) % 16 := Int.tmod_eq_emod_of_nonneg (by omega)
     have b1 : 0 ≤ (c.toNat : Int) % 16 := by omega
     have bm : (c.toNat : Int) % 16 < 16 := by omega
     have tm : ((c.toNat : Int) % 16).toNat = c.toNat % 16 := by omega
     have d2 := dig16 (c.toNat % 16) (by omega)
     have hd : (16 ≤ (c.toNat : Int) ∧ (c.toNat : Int) < 32) ∨ (¬ ((c.toNat : Int) < 32) ∧ ((c.toNat : Int) == (127 : Int)) = true) := by
      rcases hhi with h | rfl
      ·exact .inl (by omega)
      ·exact .inr ⟨by decide, rfl⟩
     clear hhi e1 e2 h39 h92 h10 h9
     rcases hd with ⟨g1, g2⟩ | ⟨g1, g2⟩
     ·go_upto_region 16 with fail
      go_region_law ((refine step_append_src (P := Tryz.prog) rfl _ _ 61 rfl 5 i1 _ 1 1 Tryz.underlying61 hi1 hz0 hz1 hz2 rfl (by omega) _ rfl _ _ _ rfl F.length (F.map u8V) (own_ext HG.out.own ((Ext.refl wr).drew.alloc _)) [.int .u8 92, .int .u8 120, .int .u8 ((hexD (c.toNat / 16)).toNat : Int), .int .u8 ((hexD (c.toNat % 16)).toNat : Int), .int .u8 92] (El.Src.new _ #[.int .u8 92, .int .u8 120, .int .u8 ((hexD (c.toNat / 16)).toNat : Int), .int .u8 ((hexD (c.toNat % 16)).toNat : Int), .int .u8 92] _ 5 1 rfl) (u8_one [92, 120, hexD (c.toNat / 16), hexD (c.toNat % 16), 92]) (by unfold maxLen; omega) (by omega) ?_; intro v3 w3 ho3 hm3 hb3; have hG3 := Lib.hid (GathB.step (G := [92, 120, hexD (c.toNat / 16), hexD (c.toNat % 16), 92]) HG.out ((Ext.refl wr).drew.alloc _) ho3 hm3 hb3); clear ho3 hm3 hb3))
      all_goals
       go_wp2_with fail
       go_roundw
       case rel =>
        refine ⟨k + 1, hlt, by go_num, ?_⟩
        rw [HST.out, ← List.append_assoc, HF.out, HSG.out]
        exact hG3
       case measure => simp [intOf]; omega
     ·go_upto_region 16 with fail
      go_region_law ((refine step_append_src (P := Tryz.prog) rfl _ _ 61 rfl 5 i1 _ 1 1 Tryz.underlying61 hi1 hz0 hz1 hz2 rfl (by omega) _ rfl _ _ _ rfl F.length (F.map u8V) (own_ext HG.out.own ((Ext.refl wr).drew.alloc _)) [.int .u8 92, .int .u8 120, .int .u8 ((hexD (c.toNat / 16)).toNat : Int), .int .u8 ((hexD (c.toNat % 16)).toNat : Int), .int .u8 92] (El.Src.new _ #[.int .u8 92, .int .u8 120, .int .u8 ((hexD (c.toNat / 16)).toNat : Int), .int .u8 ((hexD (c.toNat % 16)).toNat : Int), .int .u8 92] _ 5 1 rfl) (u8_one [92, 120, hexD (c.toNat / 16), hexD (c.toNat % 16), 92]) (by unfold maxLen; omega) (by omega) ?_; intro v3 w3 ho3 hm3 hb3; have hG3 := Lib.hid (GathB.step (G := [92, 120, hexD (c.toNat / 16), hexD (c.toNat % 16), 92]) HG.out ((Ext.refl wr).drew.alloc _) ho3 hm3 hb3); clear ho3 hm3 hb3))
      all_goals
       go_wp2_with fail
       go_roundw
       case rel =>
        refine ⟨k + 1, hlt, by go_num, ?_⟩
        rw [HST.out, ← List.append_assoc, HF.out, HSG.out]
        exact hG3
       case measure => simp [intOf]; omega
    have q127 := u8_ne' (c := c) (n := 127) (z := 127) rfl (by omega) (fun e => hhi (.inr e))
    by_cases hlo : c.toNat < 16
    ·obtain ⟨e1, e2, _⟩ := ctl_lo hlo h10 h9
     have HSG := Lib.hid (show sgnF c = [92, 120, hexD c.toNat, 92] from by rw [sgnF_ctl e1, e2]; rfl)
     have d1 := dig16 c.toNat hlo
     clear hhi e1 e2 h39 h92 h10 h9
     go_wp2_with (at_builtin; refine wpList_append_src (P := Tryz.prog) rfl _ _ 61 rfl 5 i1 _ 1 1 Tryz.underlying61 hi1 hz0 hz1 hz2 rfl (by omega) _ rfl _ _ _ rfl F.length (F.map u8V) (own_ext HG.out.own ((Ext.refl wr).alloc _)) [.int .u8 92, .int .u8 120, .int .u8 ((hexD c.toNat).toNat : Int), .int .u8 92] (El.Src.new _ #[.int .u8 92, .int .u8 120, .int .u8 ((hexD c.toNat).toNat : Int), .int .u8 92] _ 4 1 rfl) (u8_one [92, 120, hexD c.toNat, 92]) (by unfold maxLen; omega) (by omega) ?_; intro v3 w3 ho3 hm3 hb3; have hG3 := Lib.hid (GathB.step (G := [92, 120, hexD c.toNat, 92]) HG.out ((Ext.refl wr).alloc _) ho3 hm3 hb3); clear ho3 hm3 hb3)
     go_roundw
     case rel =>
      refine ⟨k + 1, hlt, by go_num, ?_⟩
      rw [HST.out, ← List.append_assoc, HF.out, HSG.out]
      exact hG3
     case measure => simp [intOf]; omega
    have e1 := ctl_no hlo hhi
    have HSG := Lib.hid (show sgnF c = [c] from by rw [sgnF_no e1]; unfold El.sgnS; rw [if_neg h10, if_neg h9, if_neg (fun h => h.elim h39 h92)])
    have g1 : ¬ (c.toNat : Int) < 16 := by omega
    have g2 : ¬ (c.toNat : Int) < 32 := by
     intro h
     exact hhi (.inl ⟨by omega, by omega⟩)
    clear hhi hlo e1 h39 h92 h10 h9
    go_wp2_with (at_builtin; refine wpList_append_src (P := Tryz.prog) rfl _ _ 61 rfl 5 i1 _ 1 1 Tryz.underlying61 hi1 hz0 hz1 hz2 rfl (by omega) _ rfl _ _ _ rfl F.length (F.map u8V) (own_ext HG.out.own ((Ext.refl wr).alloc _)) [.int .u8 ((c).toNat : Int)] (El.Src.new _ #[.int .u8 ((c).toNat : Int)] _ 1 1 rfl) (u8_one [c]) (by unfold maxLen; omega) (by omega) ?_; intro v3 w3 ho3 hm3 hb3; have hG3 := Lib.hid (GathB.step (G := [c]) HG.out ((Ext.refl wr).alloc _) ho3 hm3 hb3); clear ho3 hm3 hb3)
    go_roundw
    case rel =>
     refine ⟨k + 1, hlt, by go_num, ?_⟩
     rw [HST.out, ← List.append_assoc, HF.out, HSG.out]
     exact hG3
    case measure => simp [intOf]; omega
   ·obtain rfl : k = l.length := by omega
    rw [List.take_length] at HG hs6
    clear hs3 hs4
    generalize hF : [39] ++ sgnW l = F at *
    have HF := Lib.hid hF
    clear hF
    obtain ⟨A1, c1, rfl, hb1⟩ := HG.out.slice
    clear hb1
    go_wp2_with (at_builtin; refine wpList_append_src (P := Tryz.prog) rfl _ _ 61 rfl 5 i1 _ 1 1 Tryz.underlying61 hi1 hz0 hz1 hz2 rfl (by omega) _ rfl _ _ _ rfl F.length (F.map u8V) (own_ext HG.out.own ((Ext.refl wr).alloc _)) [.int .u8 39] (El.Src.new _ #[.int .u8 39] _ 1 1 rfl) (u8_one [39]) (by unfold maxLen; omega) (by omega) ?_; intro v3 w3 ho3 hm3 hb3; have hG3 := Lib.hid (GathB.step (G := [39]) HG.out ((Ext.refl wr).alloc _) ho3 hm3 hb3); clear ho3 hm3 hb3; obtain ⟨A3, c3, rfl, hb3⟩ := hG3.out.slice; have hr : quoF l = F ++ [39] := (by rw [HN.out]); have hx := hG3.out.ext; generalize hF2 : F ++ [39] = F2 at *; have hcv := conv_str c3 hb3; have HR := Lib.hid hr; clear hb3 hF2 hr HN)
    go_ret
    exact ⟨by rw [HR.out]; rfl, hx⟩
 ·rw [hp] at hP
  have HN := Lib.hid (show quoF l = l from by unfold quoF; rw [hp]; rfl)
  generalize hgs : strB l = s at *
  have HGS := Lib.hid hgs
  have HP := Lib.hid hP
  clear hP hgs hp hpl
  go_enter Tryz.func76, Tryz.ntmps76
  go_wp2_with (go_at_call 117; refine HP.out.mono ?_; rintro e w1 ⟨rfl, rfl⟩)
  go_ret
  exact ⟨by rw [HN.out, HGS.out]; rfl, Ext.refl _⟩
end Go.Proofs.YtmnnhdegoapfcaaGreatDoor

/- strings.Builder's WriteByte, WriteString at this program (the numbers laid by hand: the kit's own laying stops at a type that no body names). -/
namespace Go.Proofs.YtmnnhdegoapfcaaGreatDoor
open Go.Shelf Go.Proofs Go.RowKit
def Tryz.lays167_ren : Go.Shelf.Ren := ⟨fun | 167 => 112 | 240 => 67 | 276 => 110 | n => n, fun | 0 => 0 | 3 => 3 | 4 => 4 | 5 => 5 | 9 => 9 | 20 => 20 | 37 => 61 | 70 => 60 | 72 => 63 | 75 => 65 | 80 => 69 | 164 => 156 | n => n, fun | n => n⟩
theorem Tryz.lays167 : Go.Proofs.Lays.n167 Tryz.prog Tryz.lays167_ren := {
 mixed := by kernel_rfl
 f167 := Tryz.func112.trans (congrArg some (by kernel_rfl))
 f240 := Tryz.func67.trans (congrArg some (by kernel_rfl))
 f276 := Tryz.func110.trans (congrArg some (by kernel_rfl))
 t0 := Tryz.underlying0
 a0 := Tryz.isAgg0
 z0 := Tryz.sizeOf0
 v0 := Tryz.zeroValue0
 t4 := Tryz.underlying4
 a4 := Tryz.isAgg4
 z4 := Tryz.sizeOf4
 v4 := Tryz.zeroValue4
 t5 := Tryz.underlying5
 a5 := Tryz.isAgg5
 z5 := Tryz.sizeOf5
 v5 := Tryz.zeroValue5
 t9 := Tryz.underlying9
 a9 := Tryz.isAgg9
 z9 := Tryz.sizeOf9
 v9 := Tryz.zeroValue9
 t20 := Tryz.underlying20
 a20 := Tryz.isAgg20
 z20 := Tryz.sizeOf20
 v20 := Tryz.zeroValue20
 t37 := Tryz.underlying61
 a37 := Tryz.isAgg61
 z37 := Tryz.sizeOf61
 v37 := Tryz.zeroValue61
 t70 := Tryz.underlying60
 a70 := Tryz.isAgg60
 z70 := Tryz.sizeOf60
 v70 := Tryz.zeroValue60
 t72 := Tryz.underlying63
 a72 := Tryz.isAgg63
 z72 := Tryz.sizeOf63
 v72 := Tryz.zeroValue63
 t75 := Tryz.underlying65
 a75 := Tryz.isAgg65
 z75 := Tryz.sizeOf65
 v75 := Tryz.zeroValue65
 t164 := Tryz.underlying156
 a164 := Tryz.isAgg156
 z164 := Tryz.sizeOf156
 v164 := Tryz.zeroValue156 }
theorem Tryz.Builder_Extra_167 : Builder.Extra Tryz.prog Tryz.lays167_ren := {
 sizeBuilder := by kernel_rfl
 liesBuilder := by kernel_rfl
 t5 := Tryz.underlying5
 a5 := Tryz.isAgg5
 z5 := Tryz.sizeOf5
 v5 := Tryz.zeroValue5
 infoByte := by kernel_rfl
 cellsByte := by kernel_rfl
 sizeByte := by kernel_rfl
 neB5 := by decide }
def Tryz.lays166_ren : Go.Shelf.Ren := ⟨fun | 166 => 27 | 240 => 67 | 276 => 110 | n => n, fun | 0 => 0 | 3 => 3 | 4 => 4 | 5 => 5 | 9 => 9 | 20 => 20 | 37 => 61 | 70 => 60 | 72 => 63 | 75 => 65 | 80 => 69 | 164 => 156 | n => n, fun | n => n⟩
theorem Tryz.lays166 : Go.Proofs.Lays.n166 Tryz.prog Tryz.lays166_ren := {
 mixed := by kernel_rfl
 f166 := Tryz.func27.trans (congrArg some (by kernel_rfl))
 f240 := Tryz.func67.trans (congrArg some (by kernel_rfl))
 f276 := Tryz.func110.trans (congrArg some (by kernel_rfl))
 t0 := Tryz.underlying0
 a0 := Tryz.isAgg0
 z0 := Tryz.sizeOf0
 v0 := Tryz.zeroValue0
 t3 := Tryz.underlying3
 a3 := Tryz.isAgg3
 z3 := Tryz.sizeOf3
 v3 := Tryz.zeroValue3
 t4 := Tryz.underlying4
 a4 := Tryz.isAgg4
 z4 := Tryz.sizeOf4
 v4 := Tryz.zeroValue4
 t9 := Tryz.underlying9
 a9 := Tryz.isAgg9
 z9 := Tryz.sizeOf9
 v9 := Tryz.zeroValue9
 t20 := Tryz.underlying20
 a20 := Tryz.isAgg20
 z20 := Tryz.sizeOf20
 v20 := Tryz.zeroValue20
 t37 := Tryz.underlying61
 a37 := Tryz.isAgg61
 z37 := Tryz.sizeOf61
 v37 := Tryz.zeroValue61
 t70 := Tryz.underlying60
 a70 := Tryz.isAgg60
 z70 := Tryz.sizeOf60
 v70 := Tryz.zeroValue60
 t72 := Tryz.underlying63
 a72 := Tryz.isAgg63
 z72 := Tryz.sizeOf63
 v72 := Tryz.zeroValue63
 t75 := Tryz.underlying65
 a75 := Tryz.isAgg65
 z75 := Tryz.sizeOf65
 v75 := Tryz.zeroValue65
 t164 := Tryz.underlying156
 a164 := Tryz.isAgg156
 z164 := Tryz.sizeOf156
 v164 := Tryz.zeroValue156 }
theorem Tryz.Builder_Extra_166 : Builder.Extra Tryz.prog Tryz.lays166_ren := {
 sizeBuilder := by kernel_rfl
 liesBuilder := by kernel_rfl
 t5 := Tryz.underlying5
 a5 := Tryz.isAgg5
 z5 := Tryz.sizeOf5
 v5 := Tryz.zeroValue5
 infoByte := by kernel_rfl
 cellsByte := by kernel_rfl
 sizeByte := by kernel_rfl
 neB5 := by decide }
theorem Tryz.Builder_WriteByte (B b : Nat) (bs : List Value) (c : Int) (w : World) (h : Lib.IsBuilder 63 5 B b bs w) (hlen : bs.length + 1 ≤ 140737488355328) (hBw : B ≤ w.heap.size) :
  Calls Tryz.prog 112 #[.pointer (some ⟨b, 0, none⟩), .int .u8 c] w fun e w' => e = .returned .nilIface ∧ (Lib.BuilderAt 63 5 B b (.pointer (some ⟨b, 0, none⟩)) (bs ++ [.int .u8 c]) w' ∧ Below B w w') := Any.Builder_WriteByte Tryz.lays167 Tryz.Builder_Extra_167 B b bs c w h hlen hBw
theorem Tryz.Builder_WriteString (B b : Nat) (bs : List Value) (s : ByteArray) (w : World) (h : Lib.IsBuilder 63 5 B b bs w) (hlen : bs.length + s.size ≤ 140737488355328) (hBw : B ≤ w.heap.size) :
  Calls Tryz.prog 27 #[.pointer (some ⟨b, 0, none⟩), .string s] w fun e w' => e = .returned (.tuple #[.int .i64 s.size, .nilIface]) ∧ (Lib.BuilderAt 63 5 B b (.pointer (some ⟨b, 0, none⟩)) (bs ++ Lib.strCells s) w' ∧ Below B w w') := Any.Builder_WriteString Tryz.lays166 Tryz.Builder_Extra_166 B b bs s w h hlen hBw
def Tryz.lays240_ren : Go.Shelf.Ren := ⟨fun | 240 => 67 | 276 => 110 | n => n, fun | 0 => 0 | 4 => 4 | 5 => 5 | 9 => 9 | 20 => 20 | 37 => 61 | 70 => 60 | 72 => 63 | 75 => 65 | 80 => 69 | 164 => 156 | n => n, fun | n => n⟩
theorem Tryz.lays240 : Go.Proofs.Lays.n240 Tryz.prog Tryz.lays240_ren := {
 mixed := by kernel_rfl
 f240 := Tryz.func67.trans (congrArg some (by kernel_rfl))
 f276 := Tryz.func110.trans (congrArg some (by kernel_rfl))
 t0 := Tryz.underlying0
 a0 := Tryz.isAgg0
 z0 := Tryz.sizeOf0
 v0 := Tryz.zeroValue0
 t4 := Tryz.underlying4
 a4 := Tryz.isAgg4
 z4 := Tryz.sizeOf4
 v4 := Tryz.zeroValue4
 t9 := Tryz.underlying9
 a9 := Tryz.isAgg9
 z9 := Tryz.sizeOf9
 v9 := Tryz.zeroValue9
 t20 := Tryz.underlying20
 a20 := Tryz.isAgg20
 z20 := Tryz.sizeOf20
 v20 := Tryz.zeroValue20
 t70 := Tryz.underlying60
 a70 := Tryz.isAgg60
 z70 := Tryz.sizeOf60
 v70 := Tryz.zeroValue60
 t72 := Tryz.underlying63
 a72 := Tryz.isAgg63
 z72 := Tryz.sizeOf63
 v72 := Tryz.zeroValue63
 t164 := Tryz.underlying156
 a164 := Tryz.isAgg156
 z164 := Tryz.sizeOf156
 v164 := Tryz.zeroValue156 }
theorem Tryz.Builder_X72 : Builder.X72 Tryz.prog Tryz.lays240_ren := {
 sizeBuilder := by kernel_rfl
 liesBuilder := by kernel_rfl }
theorem Tryz.copyCheck_used (b : Nat) (w : World) (h0 : w.cell? ⟨b, 0, none⟩ = some (.pointer (some ⟨b, 0, none⟩))) :
  Calls Tryz.prog 67 #[.pointer (some ⟨b, 0, none⟩)] w fun e w' => e = .returned (.tuple #[]) ∧ w' = w := Any.Builder_copyCheck_used Tryz.lays240 Tryz.Builder_X72 b w h0
end Go.Proofs.YtmnnhdegoapfcaaGreatDoor

/- Layer 8, the reference: the walk of one, kind by kind of its first byte. -/
namespace Go.Proofs.YtmnnhdegoapfcaaGreatDoor
open Go.RowKit Go.El
theorem ext_box (w : World) (o : Obj) : Ext w (w.alloc o) := (Ext.refl w).alloc o
end Go.Proofs.YtmnnhdegoapfcaaGreatDoor

/- Layer 8, the program: the walk of sign at bytes that want no hex. -/
namespace Go.Proofs.YtmnnhdegoapfcaaGreatDoor
open Go.RowKit Go.El
def sgnS (c : UInt8) : List UInt8 := if c = 10 then [92, 110] else if c = 9 then [92, 116] else if c = 39 ∨ c = 92 then [92, c] else [c]
def isCtl (c : UInt8) : Bool := (c < 32 && c != 10 && c != 9) || c == 127
theorem str_app (a b : List UInt8) : (strB a) ++ (strB b) = strB (a ++ b) := by
 have h : ((strB a) ++ (strB b)).data.toList = a ++ b := by
  rw [ByteArray.data_append, Array.toList_append, strB_toList, strB_toList]
 rw [← strB_mk ((strB a) ++ (strB b)), h]
set_option maxRecDepth 100000 in
set_option maxHeartbeats 2000000 in
theorem sgn_any (c : UInt8) (w : World) (hc : isCtl c = false) :
  Calls Tryz.prog 113 #[.int .u8 (c.toNat : Int)] w fun e w' => e = .returned (.string (strB (sgnS c))) ∧ Ext w w' := by
 have hcl := c.toNat_lt
 by_cases h10 : c = 10
 ·subst h10
  go_enter Tryz.func113, Tryz.ntmps113
  go_wp2_with fail
  go_ret
  exact ⟨rfl, Ext.refl _⟩
 by_cases h9 : c = 9
 ·subst h9
  go_enter Tryz.func113, Tryz.ntmps113
  go_wp2_with fail
  go_ret
  exact ⟨rfl, Ext.refl _⟩
 have q10 := u8_ne' (c := c) (n := 10) (z := 10) rfl (by omega) h10
 have q9 := u8_ne' (c := c) (n := 9) (z := 9) rfl (by omega) h9
 have hb1 : BytesAt (w.alloc (.cells #[.int .u8 (c.toNat : Int)] 5)) (some ⟨w.heap.size, 0, none⟩) [c] := El.Src.new w #[.int .u8 (c.toNat : Int)] 5 1 1 rfl
 have hcv : (convert 61 9 (.slice (some ⟨w.heap.size, 0, none⟩) 1 1)).run Tryz.prog (w.alloc (.cells #[.int .u8 (c.toNat : Int)] 5)) = .ok (.string (strB [c])) _ := conv_str 1 hb1
 clear hb1
 by_cases hq : c = 39 ∨ c = 92
 ·have HN := Lib.hid (show sgnS c = [92] ++ [c] from by unfold sgnS; rw [if_neg h10, if_neg h9, if_pos hq]; rfl)
  have hd : ((c.toNat : Int) == (39 : Int)) = true ∨ (((c.toNat : Int) == (39 : Int)) = false ∧ ((c.toNat : Int) == (92 : Int)) = true) := by
   rcases hq with rfl | rfl
   ·exact .inl rfl
   ·exact .inr ⟨rfl, rfl⟩
  have happ := str_app [92] [c]
  generalize hgs : strB [c] = s at hcv happ
  have hsz : s.size = 1 := by rw [← hgs]; exact strB_size [c]
  have HA := Lib.hid happ
  clear hq h10 h9 hc hgs happ
  rcases hd with h | ⟨h1, h2⟩
  all_goals
   go_enter Tryz.func113, Tryz.ntmps113
   go_wp2_with fail
   go_ret
   refine ⟨?_, ext_box _ _⟩
   rw [HN.out, ← HA.out]
   rfl
 ·have HN := Lib.hid (show sgnS c = [c] from by unfold sgnS; rw [if_neg h10, if_neg h9, if_neg hq])
  have q39 := u8_ne' (c := c) (n := 39) (z := 39) rfl (by omega) (fun e => hq (.inl e))
  have q92 := u8_ne' (c := c) (n := 92) (z := 92) rfl (by omega) (fun e => hq (.inr e))
  have g1 : 32 ≤ c.toNat ∧ c ≠ 127 := by
   have := all_bytes (p := fun c => (isCtl c || c == 10 || c == 9 || (decide (32 ≤ c.toNat) && c != 127)) = true) (by decide +kernel) c
   rw [hc] at this
   simpa [h10, h9] using this
  obtain ⟨g1, g2⟩ := g1
  have q127 := u8_ne' (c := c) (n := 127) (z := 127) rfl (by omega) g2
  generalize hgs : strB [c] = s at hcv
  have HGS := Lib.hid hgs
  clear hq h10 h9 hc hgs g2
  go_enter Tryz.func113, Tryz.ntmps113
  go_wp2_with fail
  go_ret
  refine ⟨?_, ext_box _ _⟩
  rw [HN.out, HGS.out]
  rfl
end Go.Proofs.YtmnnhdegoapfcaaGreatDoor
/- strings.Builder: WriteString at a builder that was written to, with the blocks that it turns. -/
namespace Go.Proofs.YtmnnhdegoapfcaaGreatDoor
open Go.RowKit Go.El
structure BuAt (base : Nat) (w : World) (b : Nat) (v : Value) (F : List UInt8) : Prop where
 blk : Blk w b 63 #[.pointer (some ⟨b, 0, none⟩), v]
 own : w.ownsRow base 5 1 v F.length (F.map u8V)
theorem own_heap {w : World} {base : Nat} {e : TypeId} {k : Nat} {v : Value} {n : Nat} {xs : List Value} {g : Nat} {t : TypeId} {cs : Array Value} {m : Nat × Nat} (h : w.ownsRow base e k v n xs) (hg : w.heap[g]? = some (.cells cs t m)) (ht : t ≠ e ∨ m ≠ (0, 0)) : g ∉ ownL v := by
 intro hm
 have hb := mem_ownL hm
 rcases h.2 with ⟨rfl, _⟩ | ⟨g', cap, cur, rfl, _, hc, _⟩
 ·simp [Value.ownBlock] at hb
 ·have e1 : g' = g := by simpa [Value.ownBlock] using hb
  subst e1
  rw [hg] at hc
  injection hc with hc
  injection hc with h1 h2 h3
  rcases ht with ht | ht
  ·exact ht h2
  ·exact ht h3
theorem BuAt.far {base : Nat} {w : World} {b : Nat} {v : Value} {F : List UInt8} (h : BuAt base w b v F) : ∀ x ∈ ownL v, base ≤ x := by
 intro x hx
 have hb := mem_ownL hx
 rcases h.own.2 with ⟨rfl, _⟩ | ⟨g', cap, cur, rfl, hg, _⟩
 ·simp [Value.ownBlock] at hb
 ·have e1 : g' = x := by simpa [Value.ownBlock] using hb
  omega
theorem BuAt.no {base : Nat} {w : World} {b : Nat} {v : Value} {F : List UInt8} (h : BuAt base w b v F) : b ∉ ownL v := own_heap h.own h.blk (.inl (by decide))
set_option maxRecDepth 100000 in
set_option maxHeartbeats 4000000 in
theorem writeString_any (base b : Nat) (v : Value) (F : List UInt8) (s : ByteArray) (w : World) (h : BuAt base w b v F) (hbw : base ≤ w.heap.size) (hl : F.length + s.size ≤ 1000000) :
  Calls Tryz.prog 27 #[.pointer (some ⟨b, 0, none⟩), .string s] w fun e w' => e = .returned (.tuple #[.int .i64 s.size, .nilIface]) ∧ ∃ v', BuAt base w' b v' (F ++ s.data.toList) ∧ Mods (b :: ownL v) w w' := by
 obtain ⟨i1, hi1, hz0, hz1, hz2⟩ := infoP u8Info
 obtain ⟨A, c, rfl⟩ := own_value h.own
 have d0 : w.cell? ⟨b, 0, none⟩ = some (.pointer (some ⟨b, 0, none⟩)) := h.blk.cell 0
 have d1 : w.cell? ⟨b, 1, none⟩ = some (.slice A F.length c) := h.blk.cell 1
 have hsl : s.size ≤ 9223372036854775807 := by omega
 have H := Lib.hid h
 have HN := Lib.hid h.no
 clear h
 go_enter Tryz.func27, Tryz.ntmps27
 go_wp2_with (first | (go_at_call 67; refine (Tryz.copyCheck_used b w (H.out.blk.cell 0)).mono ?_; rintro e w' ⟨rfl, rfl⟩) | (at_builtin; refine Lib.wpList_append_own_string (P := Tryz.prog) _ rfl _ _ 61 9 rfl base 5 i1 Tryz.underlying61 Tryz.underlying9 hi1 hz0 hz1 hz2 _ F.length (F.map u8V) rfl H.out.own s rfl (by unfold maxLen; omega) (by omega) hbw ?_; intro v3 w3 ho3 hm3 _; obtain ⟨A3, c3, rfl⟩ := own_value ho3; have hM := grown_mods hm3; have hbk := H.out.blk.mods hM HN.out; have k1 : w3.cell? ⟨b, 1, none⟩ = some (.slice A F.length c) := hbk.cell 1; have kf := hbk.frozen 1; have HO := Lib.hid ho3; have HM := Lib.hid hM; have HBK := Lib.hid hbk; clear ho3 hm3 hM hbk))
 go_ret2
 refine ⟨rfl, _, ⟨HBK.out.set_ 1 _, ?_⟩, ?_⟩
 ·have hno := own_heap HO.out HBK.out (.inl (by decide))
  rw [List.length_append, List.map_append]
  have h1 := own_mods HO.out ((Mods.refl [b] w3).setCell (p := ⟨b, 1, none⟩) (.inl (by simp)) (.slice A3 (F.length + s.size) c3)) (fun x hx hm => by
   rw [List.mem_singleton] at hm
   exact hno (by simp [ownL, hx, hm]))
  have e : s.data.toList.length = s.size := by simp
  rw [e]
  exact h1
 ·exact (HM.out.mono (fun x hx => List.mem_cons_of_mem _ hx)).setCell (.inl (by simp)) _
end Go.Proofs.YtmnnhdegoapfcaaGreatDoor

/- Layer 8, the program: the walk of Quote at names that want no hex digits. -/
namespace Go.Proofs.YtmnnhdegoapfcaaGreatDoor
open Go.RowKit Go.El
theorem sgnS_len (c : UInt8) : (sgnS c).length ≤ 2 := by
 unfold sgnS
 split
 ·decide
 ·split
  ·decide
  ·split <;> simp
end Go.Proofs.YtmnnhdegoapfcaaGreatDoor
