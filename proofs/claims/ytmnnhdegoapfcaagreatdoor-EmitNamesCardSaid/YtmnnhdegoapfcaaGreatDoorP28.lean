/- Layer 8, the program: the walk of Quote at any name. -/
import Derived.Test.YtmnnhdegoapfcaaGreatDoorP27
import Derived.Test.YtmnnhdegoapfcaaGreatDoorP03
namespace Go.Proofs.YtmnnhdegoapfcaaGreatDoor
open Go.RowKit Go.El
theorem TzAt.ext {w w' : World} (h : TzAt w) (x : Ext w w') : TzAt w' := x.cell h
theorem hexL_len (c : UInt8) : (hexL c).length ≤ 2 := by
 unfold hexL
 split <;> simp
theorem sgnF_len (c : UInt8) : (sgnF c).length ≤ 5 := by
 have h1 := hexL_len c
 have h2 : (El.sgnS c).length ≤ 2 := sgnS_len c
 unfold sgnF
 split
 ·simp only [List.length_append, List.length_cons, List.length_nil]; omega
 ·omega
theorem sgnW_len : ∀ l : List UInt8, (sgnW l).length ≤ 5 * l.length
 | [] => Nat.le_refl _
 | c :: l => by
  have := sgnW_len l
  have := sgnF_len c
  simp only [sgnW, List.flatMap_cons, List.length_append, List.length_cons] at *
  omega
theorem sgnW_step (l : List UInt8) (k : Nat) (c : UInt8) (h : l[k]? = some c) : sgnW (l.take (k + 1)) = sgnW (l.take k) ++ sgnF c := by
 rw [List.take_add_one, h]
 simp [sgnW]
set_option maxRecDepth 100000 in
set_option maxHeartbeats 2000000 in
theorem sgnF_any (c : UInt8) (w : World) (h0 : TzAt w) :
  Calls Tryz.prog 113 #[.int .u8 (c.toNat : Int)] w fun e w' => e = .returned (.string (strB (sgnF c))) ∧ Ext w w' := by
 cases hc : El.isCtl c
 ·have hs := sgn_any c w hc
  have e : sgnF c = sgnS c := by unfold sgnF; rw [hc]; rfl
  rw [e]
  exact hs
 ·have hcl := c.toNat_lt
  have e : sgnF c = [92, 120] ++ hexL c ++ [92] := by unfold sgnF; rw [hc]; rfl
  have g : c ≠ 10 ∧ c ≠ 9 ∧ c ≠ 39 ∧ c ≠ 92 ∧ (c.toNat < 32 ∨ c = 127) := by
   have := all_bytes (p := fun c => (!El.isCtl c || (c != 10 && c != 9 && c != 39 && c != 92 && (decide (c.toNat < 32) || c == 127))) = true) (by decide +kernel) c
   rw [hc] at this
   simpa [and_assoc] using this
  obtain ⟨g10, g9, g39, g92, g0⟩ := g
  have q10 := u8_ne' (c := c) (n := 10) (z := 10) rfl (by omega) g10
  have q9 := u8_ne' (c := c) (n := 9) (z := 9) rfl (by omega) g9
  have q39 := u8_ne' (c := c) (n := 39) (z := 39) rfl (by omega) g39
  have q92 := u8_ne' (c := c) (n := 92) (z := 92) rfl (by omega) g92
  have HF := Lib.hid (fmt_any c.toNat hcl w h0)
  have hh : (if c.toNat < 16 then [hexD c.toNat] else [hexD (c.toNat / 16), hexD (c.toNat % 16)]) = hexL c := rfl
  rw [hh] at HF
  have hl := hexL_len c
  have hsz := strB_size (hexL c)
  have happ : strB [92, 120] ++ strB (hexL c) ++ strB [92] = strB (sgnF c) := by rw [e, str_app, str_app]
  generalize hgs : strB (hexL c) = s at hsz happ HF
  have HA := Lib.hid happ
  have hd : ((c.toNat : Int) < 32) ∨ (¬ ((c.toNat : Int) < 32) ∧ ((c.toNat : Int) == (127 : Int)) = true) := by
   rcases g0 with h | rfl
   ·exact .inl (by omega)
   ·exact .inr ⟨by decide, rfl⟩
  clear hc g10 g9 g39 g92 g0 hgs happ e hh
  rcases hd with h | ⟨h1, h2⟩
  all_goals
   go_enter Tryz.func113, Tryz.ntmps113
   go_wp2_with (go_at_call 148; refine HF.out.mono ?_; rintro e w' ⟨rfl, hx⟩; have HX := Lib.hid hx; clear hx)
   go_ret
   refine ⟨?_, HX.out⟩
   rw [← HA.out]
   rfl
set_option maxRecDepth 100000 in
set_option maxHeartbeats 4000000 in
theorem quoteF_any (l : List UInt8) (w : World) (hl : l.length ≤ 1000) (h0 : TzAt w) :
  Calls Tryz.prog 69 #[.string (strB l)] w fun e w' => e = .returned (.string (strB (quoF l))) ∧ Ext w w' := by
 have hpl : plainB (strB l) = plainL l := by unfold plainB; rw [strB_toList]
 have hP := plain_any (strB l) w
 rw [hpl] at hP
 cases hp : plainL l
 ·rw [hp] at hP
  have HN := Lib.hid (show quoF l = [39] ++ sgnW l ++ [39] from by unfold quoF; rw [hp]; rfl)
  have HTZ := Lib.hid h0
  have hsz := strB_size l
  have hcv := fun W : World => Lib.run_convert_string_bytes (P := Tryz.prog) W 9 61 5 (strB l) Tryz.underlying9 Tryz.underlying61 Tryz.underlying5
  have hcells : ∀ (W : World) k c, l[k]? = some c → (Lib.bytesWorld W 5 (strB l)).cell? ⟨W.heap.size, k, none⟩ = some (.int .u8 (c.toNat : Int)) := fun W k c hk => by
   have hlt := (List.getElem?_eq_some_iff.1 hk).1
   rw [Lib.bytesWorld_cell W _ _ k (by rw [hsz]; exact hlt), strB_toList]
   simp [List.getD, hk]
  generalize hgs : strB l = s at *
  have HL := Lib.hid hcells
  have HP := Lib.hid hP
  clear hcells hP hgs h0 hp hpl
  go_enter Tryz.func69, Tryz.ntmps69
  go_upto_region 3 with (go_at_call 111; refine HP.out.mono ?_; rintro e w1 ⟨rfl, hx⟩; have HX := Lib.hid (show Ext w w1 from hx); clear hx)
  have HB0 := Lib.hid (show Lib.IsBuilder 63 5 w1.heap.size w1.heap.size [] (w1.alloc (.cells #[.pointer none, .slice none 0 0] 63)) from .inl ⟨Nat.le_refl _, .slice none 0 0, Blk.new _ _ _, World.ownsRow_nil _ _ _ _, by simp [Value.ownBlock]⟩)
  go_upto_region 5 with (go_at_call 112; refine (Tryz.Builder_WriteByte w1.heap.size _ _ _ _ HB0.out (by simp) (by simp)).mono ?_; rintro e w2 ⟨rfl, hb, hx⟩; have HB := Lib.hid (show Lib.BuilderAt 63 5 w1.heap.size w1.heap.size (.pointer (some ⟨w1.heap.size, 0, none⟩)) (Lib.byteCells [39]) w2 from hb); have HY := Lib.hid (show Ext w1 w2 from Below.trans (ext_box w1 _) hx); clear hb hx)
  have hcv2 := hcv w2
  have hl2 := HL.out w2
  have HCL := Lib.hid hl2
  have hnew := Lib.bytesWorld_at_new w2 5 s
  have hbu : ∃ v, BuAt w1.heap.size (Lib.bytesWorld w2 5 s) w1.heap.size v [39] := by
   obtain ⟨_, v, h2, h3, _⟩ := HB.out
   have hx := ext_bytes w2 5 s
   exact ⟨v, hx.heap h2, own_ext h3 hx⟩
  obtain ⟨v0, hv0⟩ := hbu
  have HB1 := Lib.hid hv0
  have HX1 := Lib.hid (Ext.trans HX.out (Ext.trans HY.out (ext_bytes w2 5 s)))
  have hw1 : w1.heap.size ≤ w2.heap.size := HY.out.size
  have hww : w.heap.size ≤ w1.heap.size := HX.out.size
  have hbs := Lib.bytesWorld_size w2 5 s
  have HNEW := Lib.hid hnew
  have hlt2 : w1.heap.size < w2.heap.size := by
   obtain ⟨_, v, h2, _⟩ := HB.out
   exact heap_lt h2
  clear hcv hl2 HL hv0 hnew HB
  go_wp2_with fail
  go_loopw [13] (fun i wr => ∃ k : Nat, ∃ v : Value, k ≤ l.length ∧ i = .int .i64 k ∧ Hid (BuAt w1.heap.size wr w1.heap.size v ([39] ++ sgnW (l.take k))) ∧ Hid (Ext w wr) ∧ Hid (wr.heap[w2.heap.size]? = (Lib.bytesWorld w2 5 s).heap[w2.heap.size]?) ∧ w2.heap.size < wr.heap.size) (fun i _ => l.length - (intOf i).toNat)
  case atStart => exact ⟨0, v0, Nat.zero_le _, rfl, HB1.out, HX1.out, rfl, by omega⟩
  case round =>
   obtain ⟨k, v, hk, rfl, HV, HW, HK, hkw⟩ := hrel
   by_cases hlt : k < l.length
   ·have ho : l[k]? = some l[k] := List.getElem?_eq_getElem hlt
    generalize l[k] = c at ho
    have d0 : wr.cell? ⟨w2.heap.size, k, none⟩ = some (.int .u8 (c.toNat : Int)) := (World.cell?_of_block (a := ⟨w2.heap.size, k, none⟩) HK.out).trans (HCL.out k c ho)
    have HST := Lib.hid (sgnW_step l k c ho)
    have HSG := Lib.hid (sgnF_any c wr (TzAt.ext HTZ.out HW.out))
    have hs2 := sgnF_len c
    have hs3 := sgnW_len (l.take k)
    have hs4 : (l.take k).length ≤ 1000 := by rw [List.length_take]; omega
    have hs5 := strB_size (sgnF c)
    have hs6 : ([39] ++ sgnW (l.take k)).length ≤ 5001 := by simp; omega
    have HS5 := Lib.hid hs5
    clear ho
    go_wp2_with (first | (go_at_call 113; refine HSG.out.mono ?_; rintro e w3 ⟨rfl, hx⟩; have HV3 := Lib.hid (show BuAt w1.heap.size w3 w1.heap.size v ([39] ++ sgnW (l.take k)) from ⟨HV.out.blk.ext hx, own_ext HV.out.own hx⟩); have HW3 := Lib.hid (HW.out.trans hx); have HK3 := Lib.hid ((hx.block _ hkw).trans HK.out); have hk3 : w2.heap.size < w3.heap.size := Nat.lt_of_lt_of_le hkw hx.size; clear hx) | (go_at_call 27; refine (writeString_any w1.heap.size _ v _ _ _ HV3.out (by omega) (by rw [HS5.out]; omega)).mono ?_; rintro e w4 ⟨rfl, v4, h4, hm4⟩; have HV4 := Lib.hid h4; have HM4 := Lib.hid hm4; clear h4 hm4))
    have hfar := HV3.out.far
    have hno := own_heap HV3.out.own (HK3.out.trans HNEW.out) (.inr (by simp))
    go_roundw
    case rel =>
     refine ⟨k + 1, v4, hlt, by go_num, ?_, ext_mods HW3.out HM4.out (fun x hx => ?_), (HM4.out.block _ hk3 ?_).trans HK3.out, Nat.lt_of_lt_of_le hk3 HM4.out.size⟩
     ·have h4 := HV4.out
      rw [strB_toList] at h4
      rw [HST.out, ← List.append_assoc]
      exact h4
     ·rcases List.mem_cons.1 hx with rfl | hx
      ·exact hww
      ·exact Nat.le_trans hww (hfar x hx)
     ·intro hm
      rcases List.mem_cons.1 hm with h | h
      ·omega
      ·exact hno h
    case measure => simp [intOf]; omega
   ·obtain rfl : k = l.length := by omega
    rw [List.take_length] at HV
    have hlen := sgnW_len l
    have hbl : Lib.IsBuilder 63 5 w1.heap.size w1.heap.size (Lib.byteCells ([39] ++ sgnW l)) wr := by
     refine .inr ⟨Nat.le_refl _, v, HV.out.blk, ?_, fun h => HV.out.no (by simp [ownL, h])⟩
     have h1 := HV.out.own
     rw [show (Lib.byteCells ([39] ++ sgnW l)).length = ([39] ++ sgnW l).length from by simp [Lib.byteCells]]
     exact h1
    have HBL := Lib.hid hbl
    have hbw : w1.heap.size ≤ wr.heap.size := by omega
    have hbl2 : (Lib.byteCells ([39] ++ sgnW l)).length + 1 ≤ 140737488355328 := by simp [Lib.byteCells]; omega
    clear hbl
    go_wp2_with (first | (go_at_call 112; refine (Tryz.Builder_WriteByte w1.heap.size _ _ _ _ HBL.out hbl2 hbw).mono ?_; rintro e w5 ⟨rfl, hb, hx⟩; have HB5 := Lib.hid (show Lib.IsBuilder 63 5 w1.heap.size w1.heap.size (Lib.byteCells ([39] ++ sgnW l ++ [39])) w5 from .inr (by simpa [Lib.byteCells] using hb)); have HX5 := Lib.hid hx; have hs5 := hx.size; clear hb hx) | (go_at_call 29; refine (Tryz.Builder_String_any w1.heap.size _ _ _ HB5.out (by omega)).mono ?_; rintro e w6 ⟨rfl, hx⟩; have HX6 := Lib.hid hx; clear hx))
    go_ret
    refine ⟨by rw [HN.out]; rfl, ?_⟩
    exact Below.trans HW.out (Below.mono (Below.trans HX5.out HX6.out) hww)
 ·rw [hp] at hP
  have HN := Lib.hid (show quoF l = l from by unfold quoF; rw [hp]; rfl)
  generalize hgs : strB l = s at *
  have HGS := Lib.hid hgs
  have HP := Lib.hid hP
  clear hP hgs h0 hp hpl
  go_enter Tryz.func69, Tryz.ntmps69
  go_wp2_with (go_at_call 111; refine HP.out.mono ?_; rintro e w1 ⟨rfl, hx⟩; have HX := Lib.hid (show Ext w w1 from hx); clear hx)
  go_ret
  exact ⟨by rw [HN.out, HGS.out]; rfl, HX.out⟩
end Go.Proofs.YtmnnhdegoapfcaaGreatDoor
