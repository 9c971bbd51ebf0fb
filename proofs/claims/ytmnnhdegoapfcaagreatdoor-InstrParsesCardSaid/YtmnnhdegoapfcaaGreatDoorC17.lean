/- Layer 8, the reference: the walk of Quote. -/
import Derived.Test.YtmnnhdegoapfcaaGreatDoorC10
import Derived.Test.YtmnnhdegoapfcaaGreatDoorC05
import Derived.Deep.RegionLaw
import Derived.Laws.OwnMore
import Derived.OwnWalk
import Derived.Shelf.Strings.Builder1
import Derived.Shelf.Small.Strs
import Derived.Test.YtmnnhdegoapfcaaGreatDoorProg
namespace Go.Proofs.YtmnnhdegoapfcaaGreatDoor
open Go.RowKit Go.El

theorem hexL_lenR (c : UInt8) : (hexL c).length ≤ 2 := by
  unfold hexL
  split <;> simp
theorem sgnF_lenR (c : UInt8) : (sgnF c).length ≤ 5 := by
  have h1 := hexL_lenR c
  unfold sgnF
  split
  · simp only [List.length_append, List.length_cons, List.length_nil]; omega
  · unfold El.sgnS
    split
    · decide
    · split
      · decide
      · split <;> simp
theorem sgnW_lenR : ∀ l : List UInt8, (sgnW l).length ≤ 5 * l.length
  | [] => Nat.le_refl _
  | c :: l => by
    have := sgnW_lenR l
    have := sgnF_lenR c
    simp only [sgnW, List.flatMap_cons, List.length_append, List.length_cons] at *
    omega
theorem sgnW_stepR (l : List UInt8) (k : Nat) (c : UInt8) (h : l[k]? = some c) : sgnW (l.take (k + 1)) = sgnW (l.take k) ++ sgnF c := by
  rw [List.take_add_one, h]
  simp [sgnW]
theorem dig16 (m : Nat) (hm : m < 16) (h : m < (⟨#[48, 49, 50, 51, 52, 53, 54, 55, 56, 57, 97, 98, 99, 100, 101, 102]⟩ : ByteArray).size) : (⟨#[48, 49, 50, 51, 52, 53, 54, 55, 56, 57, 97, 98, 99, 100, 101, 102]⟩ : ByteArray)[m]'h = hexD m := by
  have key : ∀ i : Fin 16, ((#[48, 49, 50, 51, 52, 53, 54, 55, 56, 57, 97, 98, 99, 100, 101, 102] : Array UInt8)[i.val]'i.isLt) = hexD i.val := by decide +kernel
  exact key ⟨m, hm⟩
theorem sgnF_ctl {c : UInt8} (h : El.isCtl c = true) : sgnF c = [92, 120] ++ hexL c ++ [92] := by unfold sgnF; rw [if_pos h]
theorem sgnF_no {c : UInt8} (h : El.isCtl c = false) : sgnF c = El.sgnS c := by unfold sgnF; rw [h]; rfl
theorem ctl_hi {c : UInt8} (h : (16 ≤ c.toNat ∧ c.toNat < 32) ∨ c = 127) : El.isCtl c = true ∧ hexL c = [hexD (c.toNat / 16), hexD (c.toNat % 16)] ∧ c ≠ 39 ∧ c ≠ 92 ∧ c ≠ 10 ∧ c ≠ 9 := by
  have := all_bytes (p := fun c => (!((decide (16 ≤ c.toNat) && decide (c.toNat < 32)) || c == 127) || (El.isCtl c && hexL c == [hexD (c.toNat / 16), hexD (c.toNat % 16)] && c != 39 && c != 92 && c != 10 && c != 9)) = true) (by decide +kernel) c
  have hb : ((decide (16 ≤ c.toNat) && decide (c.toNat < 32)) || c == 127) = true := by simpa using h
  rw [hb] at this
  simpa [and_assoc] using this
theorem ctl_lo {c : UInt8} (h : c.toNat < 16) (h10 : c ≠ 10) (h9 : c ≠ 9) : El.isCtl c = true ∧ hexL c = [hexD c.toNat] ∧ c ≠ 39 ∧ c ≠ 92 := by
  have := all_bytes (p := fun c => (!(decide (c.toNat < 16) && c != 10 && c != 9) || (El.isCtl c && hexL c == [hexD c.toNat] && c != 39 && c != 92)) = true) (by decide +kernel) c
  have hb : (decide (c.toNat < 16) && c != 10 && c != 9) = true := by simp [h, h10, h9]
  rw [hb] at this
  simpa [and_assoc] using this
theorem ctl_no {c : UInt8} (h : ¬ c.toNat < 16) (h2 : ¬ ((16 ≤ c.toNat ∧ c.toNat < 32) ∨ c = 127)) : El.isCtl c = false := by
  have := all_bytes (p := fun c => (decide (c.toNat < 16) || (decide (16 ≤ c.toNat) && decide (c.toNat < 32)) || c == 127 || !El.isCtl c) = true) (by decide +kernel) c
  have hb : ((decide (16 ≤ c.toNat) && decide (c.toNat < 32)) || c == 127) = false := by
    rw [Bool.eq_false_iff]
    intro e
    exact h2 (by simpa using e)
  have ha : decide (c.toNat < 16) = false := by simp [h]
  rw [ha, Bool.false_or, hb] at this
  simpa using this

theorem GathB.one (X : World) (c : UInt8) : GathB X (X.alloc (.cells #[.int .u8 (c.toNat : Int)] 5)) (.slice (some ⟨X.heap.size, 0, none⟩) 1 1) [c] := by
  refine ⟨World.ownsRow_lit X #[.int .u8 (c.toNat : Int)] 1 (Nat.zero_le _) (by unfold maxLen; omega) rfl, fun b hb => ?_, (Ext.refl X).alloc _⟩
  have e1 : X.heap.size = b := by simpa [Value.ownBlock] using hb
  omega

set_option maxRecDepth 100000 in
set_option maxHeartbeats 8000000 in
theorem rQuote_any (l : List UInt8) (w : World) (hl : l.length ≤ 1000) :
    Calls Tryz.prog 76 #[.string (strB l)] w fun e w' => e = .returned (.string (strB (quoF l))) ∧ Ext w w' := by
  obtain ⟨i1, hi1, hz0, hz1, hz2⟩ := infoP u8Info
  have hsz := strB_size l
  have hpl : plainB (strB l) = plainL l := by unfold plainB; rw [strB_toList]
  have hP := rPlain_any (strB l) w (by omega)
  rw [hpl] at hP
  cases hp : plainL l
  · rw [hp] at hP
    have HN := Lib.hid (show quoF l = [39] ++ sgnW l ++ [39] from by unfold quoF; rw [hp]; rfl)
    have hidx : ∀ (k : Nat) (h : k < (strB l).size) (c : UInt8), l[k]? = some c → (strB l)[k]'h = c := fun k h c hk => by
      obtain ⟨h1, h2⟩ := List.getElem?_eq_some_iff.1 hk
      rw [← h2]
      show (l.toArray)[k] = _
      simp
    generalize hgs : strB l = s at *
    have HI := Lib.hid hidx
    have HP := Lib.hid hP
    clear hidx hP hgs hp hpl
    go_enter Tryz.func76, Tryz.ntmps76
    go_upto_region 3 with (go_at_call 117; refine HP.out.mono ?_; rintro e w1 ⟨rfl, rfl⟩)
    have HG0 := Lib.hid (GathB.one w 39)
    go_wp2_with fail
    go_loopw [3, 4] (fun v i wr => ∃ k : Nat, k ≤ l.length ∧ i = .int .i64 k ∧ Hid (GathB w wr v ([39] ++ sgnW (l.take k)))) (fun _ i _ => l.length - (intOf i).toNat)
    case atStart => exact ⟨0, Nat.zero_le _, rfl, HG0.out⟩
    case round =>
      obtain ⟨k, hk, rfl, HG⟩ := hrel
      have hs3 := sgnW_lenR (l.take k)
      have hs4 : (l.take k).length ≤ 1000 := by rw [List.length_take]; omega
      have hs6 : ([39] ++ sgnW (l.take k)).length ≤ 5001 := by simp; omega
      by_cases hlt : k < l.length
      · have ho : l[k]? = some l[k] := List.getElem?_eq_getElem hlt
        generalize l[k] = c at ho
        have hks : k < s.size := by omega
        have hc := HI.out k hks c ho
        have HST := Lib.hid (sgnW_stepR l k c ho)
        clear ho hs3 hs4
        generalize hF : [39] ++ sgnW (l.take k) = F at *
        have HF := Lib.hid hF
        clear hF
        have hcl := c.toNat_lt
        obtain ⟨A1, c1, rfl, hb1⟩ := HG.out.slice
        clear hb1
        by_cases h39 : c = 39
        · subst h39
          have HSG := Lib.hid (show sgnF 39 = [92, 39] from rfl)
          go_wp2_with (at_builtin; refine wpList_append_src (P := Tryz.prog) rfl _ _ 61 rfl 5 i1 _ 1 1 Tryz.underlying61 hi1 hz0 hz1 hz2 rfl (by omega) _ rfl _ _ _ rfl F.length (F.map u8V) (own_ext HG.out.own ((Ext.refl wr).alloc _)) [.int .u8 92, .int .u8 39] (El.Src.new _ #[.int .u8 92, .int .u8 39] _ 2 1 rfl) (u8_one [92, 39]) (by unfold maxLen; omega) (by omega) ?_; intro v3 w3 ho3 hm3 hb3; have hG3 := Lib.hid (GathB.step (G := [92, 39]) HG.out ((Ext.refl wr).alloc _) ho3 hm3 hb3); clear ho3 hm3 hb3)
          go_roundw
          case rel =>
            refine ⟨k + 1, hlt, by go_num, ?_⟩
            rw [HST.out, ← List.append_assoc, HF.out, HSG.out]
            exact hG3
          case measure => simp [intOf]; omega
        by_cases h92 : c = 92
        · subst h92
          have HSG := Lib.hid (show sgnF 92 = [92, 92] from rfl)
          go_wp2_with (at_builtin; refine wpList_append_src (P := Tryz.prog) rfl _ _ 61 rfl 5 i1 _ 1 1 Tryz.underlying61 hi1 hz0 hz1 hz2 rfl (by omega) _ rfl _ _ _ rfl F.length (F.map u8V) (own_ext HG.out.own ((Ext.refl wr).alloc _)) [.int .u8 92, .int .u8 92] (El.Src.new _ #[.int .u8 92, .int .u8 92] _ 2 1 rfl) (u8_one [92, 92]) (by unfold maxLen; omega) (by omega) ?_; intro v3 w3 ho3 hm3 hb3; have hG3 := Lib.hid (GathB.step (G := [92, 92]) HG.out ((Ext.refl wr).alloc _) ho3 hm3 hb3); clear ho3 hm3 hb3)
          go_roundw
          case rel =>
            refine ⟨k + 1, hlt, by go_num, ?_⟩
            rw [HST.out, ← List.append_assoc, HF.out, HSG.out]
            exact hG3
          case measure => simp [intOf]; omega
        have q39 := u8_ne' (c := c) (n := 39) (z := 39) rfl (by omega) h39
        have q92 := u8_ne' (c := c) (n := 92) (z := 92) rfl (by omega) h92
        by_cases h10 : c = 10
        · subst h10
          have HSG := Lib.hid (show sgnF 10 = [92, 110] from rfl)
          go_wp2_with (at_builtin; refine wpList_append_src (P := Tryz.prog) rfl _ _ 61 rfl 5 i1 _ 1 1 Tryz.underlying61 hi1 hz0 hz1 hz2 rfl (by omega) _ rfl _ _ _ rfl F.length (F.map u8V) (own_ext HG.out.own ((Ext.refl wr).alloc _)) [.int .u8 92, .int .u8 110] (El.Src.new _ #[.int .u8 92, .int .u8 110] _ 2 1 rfl) (u8_one [92, 110]) (by unfold maxLen; omega) (by omega) ?_; intro v3 w3 ho3 hm3 hb3; have hG3 := Lib.hid (GathB.step (G := [92, 110]) HG.out ((Ext.refl wr).alloc _) ho3 hm3 hb3); clear ho3 hm3 hb3)
          go_roundw
          case rel =>
            refine ⟨k + 1, hlt, by go_num, ?_⟩
            rw [HST.out, ← List.append_assoc, HF.out, HSG.out]
            exact hG3
          case measure => simp [intOf]; omega
        by_cases h9 : c = 9
        · subst h9
          have HSG := Lib.hid (show sgnF 9 = [92, 116] from rfl)
          go_wp2_with (at_builtin; refine wpList_append_src (P := Tryz.prog) rfl _ _ 61 rfl 5 i1 _ 1 1 Tryz.underlying61 hi1 hz0 hz1 hz2 rfl (by omega) _ rfl _ _ _ rfl F.length (F.map u8V) (own_ext HG.out.own ((Ext.refl wr).alloc _)) [.int .u8 92, .int .u8 116] (El.Src.new _ #[.int .u8 92, .int .u8 116] _ 2 1 rfl) (u8_one [92, 116]) (by unfold maxLen; omega) (by omega) ?_; intro v3 w3 ho3 hm3 hb3; have hG3 := Lib.hid (GathB.step (G := [92, 116]) HG.out ((Ext.refl wr).alloc _) ho3 hm3 hb3); clear ho3 hm3 hb3)
          go_roundw
          case rel =>
            refine ⟨k + 1, hlt, by go_num, ?_⟩
            rw [HST.out, ← List.append_assoc, HF.out, HSG.out]
            exact hG3
          case measure => simp [intOf]; omega
        have q10 := u8_ne' (c := c) (n := 10) (z := 10) rfl (by omega) h10
        have q9 := u8_ne' (c := c) (n := 9) (z := 9) rfl (by omega) h9
        by_cases hhi : (16 ≤ c.toNat ∧ c.toNat < 32) ∨ c = 127
        · obtain ⟨e1, e2, _⟩ := ctl_hi hhi
          have HSG := Lib.hid (show sgnF c = [92, 120, hexD (c.toNat / 16), hexD (c.toNat % 16), 92] from by rw [sgnF_ctl e1, e2]; rfl)
          have d1 := dig16 (c.toNat / 16) (by omega)
          have w16 : IntKind.u8.wrap ((c.toNat : Int) / 16) = (c.toNat : Int) / 16 := IntWalk.u8_in _ (by omega)
          have b0 : 0 ≤ (c.toNat : Int) / 16 := by omega
          have b16 : (c.toNat : Int) / 16 < 16 := by omega
          have t16 : ((c.toNat : Int) / 16).toNat = c.toNat / 16 := by omega
          have tm0 : ((c.toNat : Int)).tmod 16 = (c.toNat : Int) % 16 := Int.tmod_eq_emod_of_nonneg (by omega)
          have b1 : 0 ≤ (c.toNat : Int) % 16 := by omega
          have bm : (c.toNat : Int) % 16 < 16 := by omega
          have tm : ((c.toNat : Int) % 16).toNat = c.toNat % 16 := by omega
          have d2 := dig16 (c.toNat % 16) (by omega)
          have hd : (16 ≤ (c.toNat : Int) ∧ (c.toNat : Int) < 32) ∨ (¬ ((c.toNat : Int) < 32) ∧ ((c.toNat : Int) == (127 : Int)) = true) := by
            rcases hhi with h | rfl
            · exact .inl (by omega)
            · exact .inr ⟨by decide, rfl⟩
          clear hhi e1 e2 h39 h92 h10 h9
          rcases hd with ⟨g1, g2⟩ | ⟨g1, g2⟩
          · go_upto_region 16 with fail
            go_region_law ((refine step_append_src (P := Tryz.prog) rfl _ _ 61 rfl 5 i1 _ 1 1 Tryz.underlying61 hi1 hz0 hz1 hz2 rfl (by omega) _ rfl _ _ _ rfl F.length (F.map u8V) (own_ext HG.out.own ((Ext.refl wr).drew.alloc _)) [.int .u8 92, .int .u8 120, .int .u8 ((hexD (c.toNat / 16)).toNat : Int), .int .u8 ((hexD (c.toNat % 16)).toNat : Int), .int .u8 92] (El.Src.new _ #[.int .u8 92, .int .u8 120, .int .u8 ((hexD (c.toNat / 16)).toNat : Int), .int .u8 ((hexD (c.toNat % 16)).toNat : Int), .int .u8 92] _ 5 1 rfl) (u8_one [92, 120, hexD (c.toNat / 16), hexD (c.toNat % 16), 92]) (by unfold maxLen; omega) (by omega) ?_; intro v3 w3 ho3 hm3 hb3; have hG3 := Lib.hid (GathB.step (G := [92, 120, hexD (c.toNat / 16), hexD (c.toNat % 16), 92]) HG.out ((Ext.refl wr).drew.alloc _) ho3 hm3 hb3); clear ho3 hm3 hb3))
            all_goals
              go_wp2_with fail
              go_roundw
              case rel =>
                refine ⟨k + 1, hlt, by go_num, ?_⟩
                rw [HST.out, ← List.append_assoc, HF.out, HSG.out]
                exact hG3
              case measure => simp [intOf]; omega
          · go_upto_region 16 with fail
            go_region_law ((refine step_append_src (P := Tryz.prog) rfl _ _ 61 rfl 5 i1 _ 1 1 Tryz.underlying61 hi1 hz0 hz1 hz2 rfl (by omega) _ rfl _ _ _ rfl F.length (F.map u8V) (own_ext HG.out.own ((Ext.refl wr).drew.alloc _)) [.int .u8 92, .int .u8 120, .int .u8 ((hexD (c.toNat / 16)).toNat : Int), .int .u8 ((hexD (c.toNat % 16)).toNat : Int), .int .u8 92] (El.Src.new _ #[.int .u8 92, .int .u8 120, .int .u8 ((hexD (c.toNat / 16)).toNat : Int), .int .u8 ((hexD (c.toNat % 16)).toNat : Int), .int .u8 92] _ 5 1 rfl) (u8_one [92, 120, hexD (c.toNat / 16), hexD (c.toNat % 16), 92]) (by unfold maxLen; omega) (by omega) ?_; intro v3 w3 ho3 hm3 hb3; have hG3 := Lib.hid (GathB.step (G := [92, 120, hexD (c.toNat / 16), hexD (c.toNat % 16), 92]) HG.out ((Ext.refl wr).drew.alloc _) ho3 hm3 hb3); clear ho3 hm3 hb3))
            all_goals
              go_wp2_with fail
              go_roundw
              case rel =>
                refine ⟨k + 1, hlt, by go_num, ?_⟩
                rw [HST.out, ← List.append_assoc, HF.out, HSG.out]
                exact hG3
              case measure => simp [intOf]; omega
        have q127 := u8_ne' (c := c) (n := 127) (z := 127) rfl (by omega) (fun e => hhi (.inr e))
        by_cases hlo : c.toNat < 16
        · obtain ⟨e1, e2, _⟩ := ctl_lo hlo h10 h9
          have HSG := Lib.hid (show sgnF c = [92, 120, hexD c.toNat, 92] from by rw [sgnF_ctl e1, e2]; rfl)
          have d1 := dig16 c.toNat hlo
          clear hhi e1 e2 h39 h92 h10 h9
          go_wp2_with (at_builtin; refine wpList_append_src (P := Tryz.prog) rfl _ _ 61 rfl 5 i1 _ 1 1 Tryz.underlying61 hi1 hz0 hz1 hz2 rfl (by omega) _ rfl _ _ _ rfl F.length (F.map u8V) (own_ext HG.out.own ((Ext.refl wr).alloc _)) [.int .u8 92, .int .u8 120, .int .u8 ((hexD c.toNat).toNat : Int), .int .u8 92] (El.Src.new _ #[.int .u8 92, .int .u8 120, .int .u8 ((hexD c.toNat).toNat : Int), .int .u8 92] _ 4 1 rfl) (u8_one [92, 120, hexD c.toNat, 92]) (by unfold maxLen; omega) (by omega) ?_; intro v3 w3 ho3 hm3 hb3; have hG3 := Lib.hid (GathB.step (G := [92, 120, hexD c.toNat, 92]) HG.out ((Ext.refl wr).alloc _) ho3 hm3 hb3); clear ho3 hm3 hb3)
          go_roundw
          case rel =>
            refine ⟨k + 1, hlt, by go_num, ?_⟩
            rw [HST.out, ← List.append_assoc, HF.out, HSG.out]
            exact hG3
          case measure => simp [intOf]; omega
        have e1 := ctl_no hlo hhi
        have HSG := Lib.hid (show sgnF c = [c] from by rw [sgnF_no e1]; unfold El.sgnS; rw [if_neg h10, if_neg h9, if_neg (fun h => h.elim h39 h92)])
        have g1 : ¬ (c.toNat : Int) < 16 := by omega
        have g2 : ¬ (c.toNat : Int) < 32 := by
          intro h
          exact hhi (.inl ⟨by omega, by omega⟩)
        clear hhi hlo e1 h39 h92 h10 h9
        go_wp2_with (at_builtin; refine wpList_append_src (P := Tryz.prog) rfl _ _ 61 rfl 5 i1 _ 1 1 Tryz.underlying61 hi1 hz0 hz1 hz2 rfl (by omega) _ rfl _ _ _ rfl F.length (F.map u8V) (own_ext HG.out.own ((Ext.refl wr).alloc _)) [.int .u8 ((c).toNat : Int)] (El.Src.new _ #[.int .u8 ((c).toNat : Int)] _ 1 1 rfl) (u8_one [c]) (by unfold maxLen; omega) (by omega) ?_; intro v3 w3 ho3 hm3 hb3; have hG3 := Lib.hid (GathB.step (G := [c]) HG.out ((Ext.refl wr).alloc _) ho3 hm3 hb3); clear ho3 hm3 hb3)
        go_roundw
        case rel =>
          refine ⟨k + 1, hlt, by go_num, ?_⟩
          rw [HST.out, ← List.append_assoc, HF.out, HSG.out]
          exact hG3
        case measure => simp [intOf]; omega
      · obtain rfl : k = l.length := by omega
        rw [List.take_length] at HG hs6
        clear hs3 hs4
        generalize hF : [39] ++ sgnW l = F at *
        have HF := Lib.hid hF
        clear hF
        obtain ⟨A1, c1, rfl, hb1⟩ := HG.out.slice
        clear hb1
        go_wp2_with (at_builtin; refine wpList_append_src (P := Tryz.prog) rfl _ _ 61 rfl 5 i1 _ 1 1 Tryz.underlying61 hi1 hz0 hz1 hz2 rfl (by omega) _ rfl _ _ _ rfl F.length (F.map u8V) (own_ext HG.out.own ((Ext.refl wr).alloc _)) [.int .u8 39] (El.Src.new _ #[.int .u8 39] _ 1 1 rfl) (u8_one [39]) (by unfold maxLen; omega) (by omega) ?_; intro v3 w3 ho3 hm3 hb3; have hG3 := Lib.hid (GathB.step (G := [39]) HG.out ((Ext.refl wr).alloc _) ho3 hm3 hb3); clear ho3 hm3 hb3; obtain ⟨A3, c3, rfl, hb3⟩ := hG3.out.slice; have hr : quoF l = F ++ [39] := (by rw [HN.out]); have hx := hG3.out.ext; generalize hF2 : F ++ [39] = F2 at *; have hcv := conv_str c3 hb3; have HR := Lib.hid hr; clear hb3 hF2 hr HN)
        go_ret
        exact ⟨by rw [HR.out]; rfl, hx⟩
  · rw [hp] at hP
    have HN := Lib.hid (show quoF l = l from by unfold quoF; rw [hp]; rfl)
    generalize hgs : strB l = s at *
    have HGS := Lib.hid hgs
    have HP := Lib.hid hP
    clear hP hgs hp hpl
    go_enter Tryz.func76, Tryz.ntmps76
    go_wp2_with (go_at_call 117; refine HP.out.mono ?_; rintro e w1 ⟨rfl, rfl⟩)
    go_ret
    exact ⟨by rw [HN.out, HGS.out]; rfl, Ext.refl _⟩

end Go.Proofs.YtmnnhdegoapfcaaGreatDoor

/- strings.Builder's WriteByte, WriteString at this program (the numbers laid by hand: the kit's own laying stops at a type that no body names). -/
namespace Go.Proofs.YtmnnhdegoapfcaaGreatDoor
open Go.Shelf Go.Proofs Go.RowKit
def Tryz.lays167_ren : Go.Shelf.Ren := ⟨fun | 167 => 112 | 240 => 67 | 276 => 110 | n => n, fun | 0 => 0 | 3 => 3 | 4 => 4 | 5 => 5 | 9 => 9 | 20 => 20 | 37 => 61 | 70 => 60 | 72 => 63 | 75 => 65 | 80 => 69 | 164 => 156 | n => n, fun | n => n⟩
theorem Tryz.lays167 : Go.Proofs.Lays.n167 Tryz.prog Tryz.lays167_ren := {
  mixed := by kernel_rfl
  f167 := Tryz.func112.trans (congrArg some (by kernel_rfl))
  f240 := Tryz.func67.trans (congrArg some (by kernel_rfl))
  f276 := Tryz.func110.trans (congrArg some (by kernel_rfl))
  t0 := Tryz.underlying0
  a0 := Tryz.isAgg0
  z0 := Tryz.sizeOf0
  v0 := Tryz.zeroValue0
  t4 := Tryz.underlying4
  a4 := Tryz.isAgg4
  z4 := Tryz.sizeOf4
  v4 := Tryz.zeroValue4
  t5 := Tryz.underlying5
  a5 := Tryz.isAgg5
  z5 := Tryz.sizeOf5
  v5 := Tryz.zeroValue5
  t9 := Tryz.underlying9
  a9 := Tryz.isAgg9
  z9 := Tryz.sizeOf9
  v9 := Tryz.zeroValue9
  t20 := Tryz.underlying20
  a20 := Tryz.isAgg20
  z20 := Tryz.sizeOf20
  v20 := Tryz.zeroValue20
  t37 := Tryz.underlying61
  a37 := Tryz.isAgg61
  z37 := Tryz.sizeOf61
  v37 := Tryz.zeroValue61
  t70 := Tryz.underlying60
  a70 := Tryz.isAgg60
  z70 := Tryz.sizeOf60
  v70 := Tryz.zeroValue60
  t72 := Tryz.underlying63
  a72 := Tryz.isAgg63
  z72 := Tryz.sizeOf63
  v72 := Tryz.zeroValue63
  t75 := Tryz.underlying65
  a75 := Tryz.isAgg65
  z75 := Tryz.sizeOf65
  v75 := Tryz.zeroValue65
  t164 := Tryz.underlying156
  a164 := Tryz.isAgg156
  z164 := Tryz.sizeOf156
  v164 := Tryz.zeroValue156 }
theorem Tryz.Builder_Extra_167 : Builder.Extra Tryz.prog Tryz.lays167_ren := {
  sizeBuilder := by kernel_rfl
  liesBuilder := by kernel_rfl
  t5 := Tryz.underlying5
  a5 := Tryz.isAgg5
  z5 := Tryz.sizeOf5
  v5 := Tryz.zeroValue5
  infoByte := by kernel_rfl
  cellsByte := by kernel_rfl
  sizeByte := by kernel_rfl
  neB5 := by decide }
def Tryz.lays166_ren : Go.Shelf.Ren := ⟨fun | 166 => 27 | 240 => 67 | 276 => 110 | n => n, fun | 0 => 0 | 3 => 3 | 4 => 4 | 5 => 5 | 9 => 9 | 20 => 20 | 37 => 61 | 70 => 60 | 72 => 63 | 75 => 65 | 80 => 69 | 164 => 156 | n => n, fun | n => n⟩
theorem Tryz.lays166 : Go.Proofs.Lays.n166 Tryz.prog Tryz.lays166_ren := {
  mixed := by kernel_rfl
  f166 := Tryz.func27.trans (congrArg some (by kernel_rfl))
  f240 := Tryz.func67.trans (congrArg some (by kernel_rfl))
  f276 := Tryz.func110.trans (congrArg some (by kernel_rfl))
  t0 := Tryz.underlying0
  a0 := Tryz.isAgg0
  z0 := Tryz.sizeOf0
  v0 := Tryz.zeroValue0
  t3 := Tryz.underlying3
  a3 := Tryz.isAgg3
  z3 := Tryz.sizeOf3
  v3 := Tryz.zeroValue3
  t4 := Tryz.underlying4
  a4 := Tryz.isAgg4
  z4 := Tryz.sizeOf4
  v4 := Tryz.zeroValue4
  t9 := Tryz.underlying9
  a9 := Tryz.isAgg9
  z9 := Tryz.sizeOf9
  v9 := Tryz.zeroValue9
  t20 := Tryz.underlying20
  a20 := Tryz.isAgg20
  z20 := Tryz.sizeOf20
  v20 := Tryz.zeroValue20
  t37 := Tryz.underlying61
  a37 := Tryz.isAgg61
  z37 := Tryz.sizeOf61
  v37 := Tryz.zeroValue61
  t70 := Tryz.underlying60
  a70 := Tryz.isAgg60
  z70 := Tryz.sizeOf60
  v70 := Tryz.zeroValue60
  t72 := Tryz.underlying63
  a72 := Tryz.isAgg63
  z72 := Tryz.sizeOf63
  v72 := Tryz.zeroValue63
  t75 := Tryz.underlying65
  a75 := Tryz.isAgg65
  z75 := Tryz.sizeOf65
  v75 := Tryz.zeroValue65
  t164 := Tryz.underlying156
  a164 := Tryz.isAgg156
  z164 := Tryz.sizeOf156
  v164 := Tryz.zeroValue156 }
theorem Tryz.Builder_Extra_166 : Builder.Extra Tryz.prog Tryz.lays166_ren := {
  sizeBuilder := by kernel_rfl
  liesBuilder := by kernel_rfl
  t5 := Tryz.underlying5
  a5 := Tryz.isAgg5
  z5 := Tryz.sizeOf5
  v5 := Tryz.zeroValue5
  infoByte := by kernel_rfl
  cellsByte := by kernel_rfl
  sizeByte := by kernel_rfl
  neB5 := by decide }
theorem Tryz.Builder_WriteByte (B b : Nat) (bs : List Value) (c : Int) (w : World) (h : Lib.IsBuilder 63 5 B b bs w) (hlen : bs.length + 1 ≤ 140737488355328) (hBw : B ≤ w.heap.size) :
    Calls Tryz.prog 112 #[.pointer (some ⟨b, 0, none⟩), .int .u8 c] w fun e w' => e = .returned .nilIface ∧ (Lib.BuilderAt 63 5 B b (.pointer (some ⟨b, 0, none⟩)) (bs ++ [.int .u8 c]) w' ∧ Below B w w') := Any.Builder_WriteByte Tryz.lays167 Tryz.Builder_Extra_167 B b bs c w h hlen hBw
theorem Tryz.Builder_WriteString (B b : Nat) (bs : List Value) (s : ByteArray) (w : World) (h : Lib.IsBuilder 63 5 B b bs w) (hlen : bs.length + s.size ≤ 140737488355328) (hBw : B ≤ w.heap.size) :
    Calls Tryz.prog 27 #[.pointer (some ⟨b, 0, none⟩), .string s] w fun e w' => e = .returned (.tuple #[.int .i64 s.size, .nilIface]) ∧ (Lib.BuilderAt 63 5 B b (.pointer (some ⟨b, 0, none⟩)) (bs ++ Lib.strCells s) w' ∧ Below B w w') := Any.Builder_WriteString Tryz.lays166 Tryz.Builder_Extra_166 B b bs s w h hlen hBw

def Tryz.lays240_ren : Go.Shelf.Ren := ⟨fun | 240 => 67 | 276 => 110 | n => n, fun | 0 => 0 | 4 => 4 | 5 => 5 | 9 => 9 | 20 => 20 | 37 => 61 | 70 => 60 | 72 => 63 | 75 => 65 | 80 => 69 | 164 => 156 | n => n, fun | n => n⟩
theorem Tryz.lays240 : Go.Proofs.Lays.n240 Tryz.prog Tryz.lays240_ren := {
  mixed := by kernel_rfl
  f240 := Tryz.func67.trans (congrArg some (by kernel_rfl))
  f276 := Tryz.func110.trans (congrArg some (by kernel_rfl))
  t0 := Tryz.underlying0
  a0 := Tryz.isAgg0
  z0 := Tryz.sizeOf0
  v0 := Tryz.zeroValue0
  t4 := Tryz.underlying4
  a4 := Tryz.isAgg4
  z4 := Tryz.sizeOf4
  v4 := Tryz.zeroValue4
  t9 := Tryz.underlying9
  a9 := Tryz.isAgg9
  z9 := Tryz.sizeOf9
  v9 := Tryz.zeroValue9
  t20 := Tryz.underlying20
  a20 := Tryz.isAgg20
  z20 := Tryz.sizeOf20
  v20 := Tryz.zeroValue20
  t70 := Tryz.underlying60
  a70 := Tryz.isAgg60
  z70 := Tryz.sizeOf60
  v70 := Tryz.zeroValue60
  t72 := Tryz.underlying63
  a72 := Tryz.isAgg63
  z72 := Tryz.sizeOf63
  v72 := Tryz.zeroValue63
  t164 := Tryz.underlying156
  a164 := Tryz.isAgg156
  z164 := Tryz.sizeOf156
  v164 := Tryz.zeroValue156 }
theorem Tryz.Builder_X72 : Builder.X72 Tryz.prog Tryz.lays240_ren := {
  sizeBuilder := by kernel_rfl
  liesBuilder := by kernel_rfl }
theorem Tryz.copyCheck_used (b : Nat) (w : World) (h0 : w.cell? ⟨b, 0, none⟩ = some (.pointer (some ⟨b, 0, none⟩))) :
    Calls Tryz.prog 67 #[.pointer (some ⟨b, 0, none⟩)] w fun e w' => e = .returned (.tuple #[]) ∧ w' = w := Any.Builder_copyCheck_used Tryz.lays240 Tryz.Builder_X72 b w h0
theorem Tryz.copyCheck_fresh (b : Nat) (w : World) (h0 : w.cell? ⟨b, 0, none⟩ = some (.pointer none)) (hsh : w.shape? b = some (63, 2)) (hfz : w.frozen? ⟨b, 0, none⟩ = false) :
    Calls Tryz.prog 67 #[.pointer (some ⟨b, 0, none⟩)] w fun e w' => e = .returned (.tuple #[]) ∧ w' = w.setCell ⟨b, 0, none⟩ (.pointer (some ⟨b, 0, none⟩)) := Any.Builder_copyCheck_fresh Tryz.lays240 Tryz.Builder_X72 b w h0 hsh hfz

end Go.Proofs.YtmnnhdegoapfcaaGreatDoor
