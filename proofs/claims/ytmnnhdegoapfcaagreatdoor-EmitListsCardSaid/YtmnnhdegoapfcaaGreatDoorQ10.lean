/- The reference of layer 16: the walk of May. -/
import Derived.Test.YtmnnhdegoapfcaaGreatDoorQ08
import Derived.Test.YtmnnhdegoapfcaaGreatDoorQ09
namespace Go.Proofs.YtmnnhdegoapfcaaGreatDoor
open Go.RowKit Go.El
theorem rHas_lit (s : ByteArray) (c : UInt8) (b : Bool) (n : Int) (hn : n = (c.toNat : Int)) (hs : s.size ≤ 1000) (hb : s.data.toList.contains c = b) (w : World) :
  Calls Tryz.prog 116 #[.string s, .int .u8 n] w fun e w' => e = .returned (.bool b) ∧ w = w' := by
 subst hn hb
 exact rHas_any s c w hs
theorem str_empty {s : ByteArray} (h : s.size = 0) : s.toList = [] := by
 rw [ByteArray.toList_eq]
 exact List.eq_nil_of_length_eq_zero (by simpa using h)
theorem str_full {s : ByteArray} (h : ¬ s.size = 0) : s.toList ≠ [] := by
 rw [ByteArray.toList_eq]
 intro e
 apply h
 have := congrArg List.length e
 simpa using this
set_option maxRecDepth 100000 in
set_option maxHeartbeats 2000000 in
theorem rMay_va (op n v a : Int) (s : ByteArray) (w : World) (ho : 0 ≤ op ∧ op < 31) (hn : nameF op ≠ []) (hs : ¬ 64 < s.size) (hf : formL op = [118, 97]) (hm : insMay ⟨op, s, n, v, a⟩ = decide ((-64 ≤ v ∧ v ≤ 255 ∧ v ≠ 0) ∧ (1 ≤ a ∧ a ≤ 255) ∧ (n = 0) ∧ (s.size = 0))) :
  Calls Tryz.prog 72 #[insVal ⟨op, s, n, v, a⟩] w fun e w' => e = .returned (.bool (insMay ⟨op, s, n, v, a⟩)) ∧ Ext w w' := by
 have HM := Lib.hid hm
 obtain ⟨R, hR⟩ : ∃ R, insMay ⟨op, s, n, v, a⟩ = R := ⟨_, rfl⟩
 rw [hR] at HM ⊢
 have hx := ext_boxI w (.cells #[.int .i64 op, .string s, .int .i64 n, .int .i64 v, .int .i64 a] 25)
 have HB := Lib.hid (Blk.new w 25 #[.int .i64 op, .string s, .int .i64 n, .int .i64 v, .int .i64 a])
 have HX0 := Lib.hid hx
 have HN := Lib.hid (rName_any op (w.alloc (.cells #[.int .i64 op, .string s, .int .i64 n, .int .i64 v, .int .i64 a] 25)))
 have HF := fun W => Lib.hid (rForm_any op ho.1 ho.2 W)
 rw [hf] at HF
 have q0 := HB.out.cell 0
 have q1 := HB.out.cell 1
 have hn1 : ((mkB (nameF op)).toList == []) = false := by
  rw [ByteArray.toList_eq, mkB_list]
  simpa using hn
 have hn2 : (mkB (nameF op)).toList ≠ [] := by
  rw [ByteArray.toList_eq, mkB_list]
  exact hn
 have hn3 : (mkB (nameF op)).toList.isEmpty = false := by simpa using hn2
 have hs64 : ¬ (64 : Int) < (s.size : Int) := by omega
 have H_v := fun W => Lib.hid (rHas_lit (mkB [118, 97]) 118 true 118 rfl (by decide) (by decide +kernel) W)
 have H_a := fun W => Lib.hid (rHas_lit (mkB [118, 97]) 97 true 97 rfl (by decide) (by decide +kernel) W)
 have H_l := fun W => Lib.hid (rHas_lit (mkB [118, 97]) 108 false 108 rfl (by decide) (by decide +kernel) W)
 have H_n := fun W => Lib.hid (rHas_lit (mkB [118, 97]) 110 false 110 rfl (by decide) (by decide +kernel) W)
 have H_f := fun W => Lib.hid (rHas_lit (mkB [118, 97]) 102 false 102 rfl (by decide) (by decide +kernel) W)
 have H_p := fun W => Lib.hid (rHas_lit (mkB [118, 97]) 112 false 112 rfl (by decide) (by decide +kernel) W)
 have H_e := fun W => Lib.hid (rHas_lit (mkB [118, 97]) 101 false 101 rfl (by decide) (by decide +kernel) W)
 have H_s := fun W => Lib.hid (rHas_lit (mkB [118, 97]) 115 false 115 rfl (by decide) (by decide +kernel) W)
 generalize mkB (nameF op) = nm at *
 unfold insVal
 clear hm hR hx hf hn hs ho
 go_enter Tryz.func72, Tryz.ntmps72
 go_upto_region 3 with (go_at_call 14; refine HN.out.mono ?_; rintro e W1 ⟨rfl, x1⟩; have HX1 := Lib.hid x1; have p0 := x1.cell q0; have p1 := x1.cell q1; clear x1)
 go_upto_region 4 with (go_at_call 73; refine (HF _).out.mono ?_; rintro e W2 ⟨rfl, x2⟩; have HX := Lib.hid ((HX0.out.trans HX1.out).trans x2); have hb := HB.out.ext (HX1.out.trans x2); have y1 := hb.cell 1; have y2 := hb.cell 2; have y3 := hb.cell 3; have y4 := hb.cell 4; clear x2 hb)
 simp only [List.getElem?_toArray, List.getElem?_cons_zero, List.getElem?_cons_succ] at y1 y2 y3 y4
 clear q0 q1 p0 p1 HN HF HB HX0 HX1 hn1 hn2 hn3 hs64
 by_cases k1 : v < -64
 ·skip
  go_wp2_with (go_at_call 116; first | ((with_reducible refine (H_v _).out.mono ?_); rintro e W9 ⟨rfl, rfl⟩) | ((with_reducible refine (H_a _).out.mono ?_); rintro e W9 ⟨rfl, rfl⟩) | ((with_reducible refine (H_l _).out.mono ?_); rintro e W9 ⟨rfl, rfl⟩) | ((with_reducible refine (H_n _).out.mono ?_); rintro e W9 ⟨rfl, rfl⟩) | ((with_reducible refine (H_f _).out.mono ?_); rintro e W9 ⟨rfl, rfl⟩) | ((with_reducible refine (H_p _).out.mono ?_); rintro e W9 ⟨rfl, rfl⟩) | ((with_reducible refine (H_e _).out.mono ?_); rintro e W9 ⟨rfl, rfl⟩) | ((with_reducible refine (H_s _).out.mono ?_); rintro e W9 ⟨rfl, rfl⟩))
  go_ret
  exact ⟨ret_bB (by rw [HM.out]; exact (decide_eq_false (by omega)).symm), HX.out⟩
 by_cases k2 : 255 < v
 ·skip
  go_wp2_with (go_at_call 116; first | ((with_reducible refine (H_v _).out.mono ?_); rintro e W9 ⟨rfl, rfl⟩) | ((with_reducible refine (H_a _).out.mono ?_); rintro e W9 ⟨rfl, rfl⟩) | ((with_reducible refine (H_l _).out.mono ?_); rintro e W9 ⟨rfl, rfl⟩) | ((with_reducible refine (H_n _).out.mono ?_); rintro e W9 ⟨rfl, rfl⟩) | ((with_reducible refine (H_f _).out.mono ?_); rintro e W9 ⟨rfl, rfl⟩) | ((with_reducible refine (H_p _).out.mono ?_); rintro e W9 ⟨rfl, rfl⟩) | ((with_reducible refine (H_e _).out.mono ?_); rintro e W9 ⟨rfl, rfl⟩) | ((with_reducible refine (H_s _).out.mono ?_); rintro e W9 ⟨rfl, rfl⟩))
  go_ret
  exact ⟨ret_bB (by rw [HM.out]; exact (decide_eq_false (by omega)).symm), HX.out⟩
 by_cases k3 : v = 0
 ·have k4 : (v == 0) = true := by simpa using k3
  have HZ := Lib.hid k3
  clear k3
  go_wp2_with (go_at_call 116; first | ((with_reducible refine (H_v _).out.mono ?_); rintro e W9 ⟨rfl, rfl⟩) | ((with_reducible refine (H_a _).out.mono ?_); rintro e W9 ⟨rfl, rfl⟩) | ((with_reducible refine (H_l _).out.mono ?_); rintro e W9 ⟨rfl, rfl⟩) | ((with_reducible refine (H_n _).out.mono ?_); rintro e W9 ⟨rfl, rfl⟩) | ((with_reducible refine (H_f _).out.mono ?_); rintro e W9 ⟨rfl, rfl⟩) | ((with_reducible refine (H_p _).out.mono ?_); rintro e W9 ⟨rfl, rfl⟩) | ((with_reducible refine (H_e _).out.mono ?_); rintro e W9 ⟨rfl, rfl⟩) | ((with_reducible refine (H_s _).out.mono ?_); rintro e W9 ⟨rfl, rfl⟩))
  go_ret
  exact ⟨ret_bB (by rw [HM.out]; exact (decide_eq_false (by have := HZ.out; omega)).symm), HX.out⟩
 have k4 : (v == 0) = false := by simpa using k3
 have HZ := Lib.hid k3
 clear k3
 go_upto_region 6 with (go_at_call 116; first | ((with_reducible refine (H_v _).out.mono ?_); rintro e W9 ⟨rfl, rfl⟩) | ((with_reducible refine (H_a _).out.mono ?_); rintro e W9 ⟨rfl, rfl⟩) | ((with_reducible refine (H_l _).out.mono ?_); rintro e W9 ⟨rfl, rfl⟩) | ((with_reducible refine (H_n _).out.mono ?_); rintro e W9 ⟨rfl, rfl⟩) | ((with_reducible refine (H_f _).out.mono ?_); rintro e W9 ⟨rfl, rfl⟩) | ((with_reducible refine (H_p _).out.mono ?_); rintro e W9 ⟨rfl, rfl⟩) | ((with_reducible refine (H_e _).out.mono ?_); rintro e W9 ⟨rfl, rfl⟩) | ((with_reducible refine (H_s _).out.mono ?_); rintro e W9 ⟨rfl, rfl⟩))
 have G_v : Hid (¬ v < -64 ∧ ¬ 255 < v ∧ ¬ v = 0) := Lib.hid (by have := HZ.out; omega)
 clear k1 k2 k4 HZ
 by_cases k1 : a < 1
 ·skip
  go_wp2_with (go_at_call 116; first | ((with_reducible refine (H_v _).out.mono ?_); rintro e W9 ⟨rfl, rfl⟩) | ((with_reducible refine (H_a _).out.mono ?_); rintro e W9 ⟨rfl, rfl⟩) | ((with_reducible refine (H_l _).out.mono ?_); rintro e W9 ⟨rfl, rfl⟩) | ((with_reducible refine (H_n _).out.mono ?_); rintro e W9 ⟨rfl, rfl⟩) | ((with_reducible refine (H_f _).out.mono ?_); rintro e W9 ⟨rfl, rfl⟩) | ((with_reducible refine (H_p _).out.mono ?_); rintro e W9 ⟨rfl, rfl⟩) | ((with_reducible refine (H_e _).out.mono ?_); rintro e W9 ⟨rfl, rfl⟩) | ((with_reducible refine (H_s _).out.mono ?_); rintro e W9 ⟨rfl, rfl⟩))
  go_ret
  exact ⟨ret_bB (by rw [HM.out]; exact (decide_eq_false (by omega)).symm), HX.out⟩
 by_cases k2 : 255 < a
 ·skip
  go_wp2_with (go_at_call 116; first | ((with_reducible refine (H_v _).out.mono ?_); rintro e W9 ⟨rfl, rfl⟩) | ((with_reducible refine (H_a _).out.mono ?_); rintro e W9 ⟨rfl, rfl⟩) | ((with_reducible refine (H_l _).out.mono ?_); rintro e W9 ⟨rfl, rfl⟩) | ((with_reducible refine (H_n _).out.mono ?_); rintro e W9 ⟨rfl, rfl⟩) | ((with_reducible refine (H_f _).out.mono ?_); rintro e W9 ⟨rfl, rfl⟩) | ((with_reducible refine (H_p _).out.mono ?_); rintro e W9 ⟨rfl, rfl⟩) | ((with_reducible refine (H_e _).out.mono ?_); rintro e W9 ⟨rfl, rfl⟩) | ((with_reducible refine (H_s _).out.mono ?_); rintro e W9 ⟨rfl, rfl⟩))
  go_ret
  exact ⟨ret_bB (by rw [HM.out]; exact (decide_eq_false (by omega)).symm), HX.out⟩
 go_upto_region 8 with (go_at_call 116; first | ((with_reducible refine (H_v _).out.mono ?_); rintro e W9 ⟨rfl, rfl⟩) | ((with_reducible refine (H_a _).out.mono ?_); rintro e W9 ⟨rfl, rfl⟩) | ((with_reducible refine (H_l _).out.mono ?_); rintro e W9 ⟨rfl, rfl⟩) | ((with_reducible refine (H_n _).out.mono ?_); rintro e W9 ⟨rfl, rfl⟩) | ((with_reducible refine (H_f _).out.mono ?_); rintro e W9 ⟨rfl, rfl⟩) | ((with_reducible refine (H_p _).out.mono ?_); rintro e W9 ⟨rfl, rfl⟩) | ((with_reducible refine (H_e _).out.mono ?_); rintro e W9 ⟨rfl, rfl⟩) | ((with_reducible refine (H_s _).out.mono ?_); rintro e W9 ⟨rfl, rfl⟩))
 have G_a : Hid (¬ a < 1 ∧ ¬ 255 < a) := Lib.hid (by omega)
 clear k1 k2
 go_upto_region 12 with (go_at_call 116; first | ((with_reducible refine (H_v _).out.mono ?_); rintro e W9 ⟨rfl, rfl⟩) | ((with_reducible refine (H_a _).out.mono ?_); rintro e W9 ⟨rfl, rfl⟩) | ((with_reducible refine (H_l _).out.mono ?_); rintro e W9 ⟨rfl, rfl⟩) | ((with_reducible refine (H_n _).out.mono ?_); rintro e W9 ⟨rfl, rfl⟩) | ((with_reducible refine (H_f _).out.mono ?_); rintro e W9 ⟨rfl, rfl⟩) | ((with_reducible refine (H_p _).out.mono ?_); rintro e W9 ⟨rfl, rfl⟩) | ((with_reducible refine (H_e _).out.mono ?_); rintro e W9 ⟨rfl, rfl⟩) | ((with_reducible refine (H_s _).out.mono ?_); rintro e W9 ⟨rfl, rfl⟩))
 go_upto_region 16 with (go_at_call 116; first | ((with_reducible refine (H_v _).out.mono ?_); rintro e W9 ⟨rfl, rfl⟩) | ((with_reducible refine (H_a _).out.mono ?_); rintro e W9 ⟨rfl, rfl⟩) | ((with_reducible refine (H_l _).out.mono ?_); rintro e W9 ⟨rfl, rfl⟩) | ((with_reducible refine (H_n _).out.mono ?_); rintro e W9 ⟨rfl, rfl⟩) | ((with_reducible refine (H_f _).out.mono ?_); rintro e W9 ⟨rfl, rfl⟩) | ((with_reducible refine (H_p _).out.mono ?_); rintro e W9 ⟨rfl, rfl⟩) | ((with_reducible refine (H_e _).out.mono ?_); rintro e W9 ⟨rfl, rfl⟩) | ((with_reducible refine (H_s _).out.mono ?_); rintro e W9 ⟨rfl, rfl⟩))
 by_cases k3 : n = 0
 case neg =>
  have k4 : (n == 0) = false := by simpa using k3
  have k5 : (n != 0) = true := by simpa using k3
  have HZ := Lib.hid k3
  clear k3
  go_wp2_with (go_at_call 116; first | ((with_reducible refine (H_v _).out.mono ?_); rintro e W9 ⟨rfl, rfl⟩) | ((with_reducible refine (H_a _).out.mono ?_); rintro e W9 ⟨rfl, rfl⟩) | ((with_reducible refine (H_l _).out.mono ?_); rintro e W9 ⟨rfl, rfl⟩) | ((with_reducible refine (H_n _).out.mono ?_); rintro e W9 ⟨rfl, rfl⟩) | ((with_reducible refine (H_f _).out.mono ?_); rintro e W9 ⟨rfl, rfl⟩) | ((with_reducible refine (H_p _).out.mono ?_); rintro e W9 ⟨rfl, rfl⟩) | ((with_reducible refine (H_e _).out.mono ?_); rintro e W9 ⟨rfl, rfl⟩) | ((with_reducible refine (H_s _).out.mono ?_); rintro e W9 ⟨rfl, rfl⟩))
  go_ret
  exact ⟨ret_bB (by rw [HM.out]; exact (decide_eq_false (by have := HZ.out; omega)).symm), HX.out⟩
 have k4 : (n == 0) = true := by simpa using k3
 have k5 : (n != 0) = false := by simpa using k3
 have G_n := Lib.hid k3
 clear k3
 go_upto_region 18 with (go_at_call 116; first | ((with_reducible refine (H_v _).out.mono ?_); rintro e W9 ⟨rfl, rfl⟩) | ((with_reducible refine (H_a _).out.mono ?_); rintro e W9 ⟨rfl, rfl⟩) | ((with_reducible refine (H_l _).out.mono ?_); rintro e W9 ⟨rfl, rfl⟩) | ((with_reducible refine (H_n _).out.mono ?_); rintro e W9 ⟨rfl, rfl⟩) | ((with_reducible refine (H_f _).out.mono ?_); rintro e W9 ⟨rfl, rfl⟩) | ((with_reducible refine (H_p _).out.mono ?_); rintro e W9 ⟨rfl, rfl⟩) | ((with_reducible refine (H_e _).out.mono ?_); rintro e W9 ⟨rfl, rfl⟩) | ((with_reducible refine (H_s _).out.mono ?_); rintro e W9 ⟨rfl, rfl⟩))
 clear k4 k5
 by_cases k3 : s.size = 0
 ·have e1 := str_empty k3
  have e2 : (s.toList == []) = true := by rw [e1]; rfl
  have e3 : s.toList.isEmpty = true := by rw [e1]; rfl
  have HZ := Lib.hid k3
  clear k3
  go_wp2_with (go_at_call 116; first | ((with_reducible refine (H_v _).out.mono ?_); rintro e W9 ⟨rfl, rfl⟩) | ((with_reducible refine (H_a _).out.mono ?_); rintro e W9 ⟨rfl, rfl⟩) | ((with_reducible refine (H_l _).out.mono ?_); rintro e W9 ⟨rfl, rfl⟩) | ((with_reducible refine (H_n _).out.mono ?_); rintro e W9 ⟨rfl, rfl⟩) | ((with_reducible refine (H_f _).out.mono ?_); rintro e W9 ⟨rfl, rfl⟩) | ((with_reducible refine (H_p _).out.mono ?_); rintro e W9 ⟨rfl, rfl⟩) | ((with_reducible refine (H_e _).out.mono ?_); rintro e W9 ⟨rfl, rfl⟩) | ((with_reducible refine (H_s _).out.mono ?_); rintro e W9 ⟨rfl, rfl⟩))
  go_ret
  exact ⟨ret_bB (by rw [HM.out]; exact (decide_eq_true (by have g1 := G_v.out; have g2 := G_a.out; have g3 := G_n.out; have g4 := HZ.out; omega)).symm), HX.out⟩
 ·have e1 := str_full k3
  have e2 : (s.toList == []) = false := by simpa using e1
  have e3 : s.toList.isEmpty = false := by simpa using e1
  have HZ := Lib.hid k3
  clear k3
  go_wp2_with (go_at_call 116; first | ((with_reducible refine (H_v _).out.mono ?_); rintro e W9 ⟨rfl, rfl⟩) | ((with_reducible refine (H_a _).out.mono ?_); rintro e W9 ⟨rfl, rfl⟩) | ((with_reducible refine (H_l _).out.mono ?_); rintro e W9 ⟨rfl, rfl⟩) | ((with_reducible refine (H_n _).out.mono ?_); rintro e W9 ⟨rfl, rfl⟩) | ((with_reducible refine (H_f _).out.mono ?_); rintro e W9 ⟨rfl, rfl⟩) | ((with_reducible refine (H_p _).out.mono ?_); rintro e W9 ⟨rfl, rfl⟩) | ((with_reducible refine (H_e _).out.mono ?_); rintro e W9 ⟨rfl, rfl⟩) | ((with_reducible refine (H_s _).out.mono ?_); rintro e W9 ⟨rfl, rfl⟩))
  go_ret
  exact ⟨ret_bB (by rw [HM.out]; exact (decide_eq_false (by have g4 := HZ.out; omega)).symm), HX.out⟩
set_option maxRecDepth 100000 in
set_option maxHeartbeats 2000000 in
theorem rMay_sa (op n v a : Int) (s : ByteArray) (w : World) (ho : 0 ≤ op ∧ op < 31) (hn : nameF op ≠ []) (hs : ¬ 64 < s.size) (hf : formL op = [115, 97]) (hm : insMay ⟨op, s, n, v, a⟩ = decide ((v = 0) ∧ (1 ≤ a ∧ a ≤ 255) ∧ (n = 0) ∧ (0 ≤ s.size))) :
  Calls Tryz.prog 72 #[insVal ⟨op, s, n, v, a⟩] w fun e w' => e = .returned (.bool (insMay ⟨op, s, n, v, a⟩)) ∧ Ext w w' := by
 have HM := Lib.hid hm
 obtain ⟨R, hR⟩ : ∃ R, insMay ⟨op, s, n, v, a⟩ = R := ⟨_, rfl⟩
 rw [hR] at HM ⊢
 have hx := ext_boxI w (.cells #[.int .i64 op, .string s, .int .i64 n, .int .i64 v, .int .i64 a] 25)
 have HB := Lib.hid (Blk.new w 25 #[.int .i64 op, .string s, .int .i64 n, .int .i64 v, .int .i64 a])
 have HX0 := Lib.hid hx
 have HN := Lib.hid (rName_any op (w.alloc (.cells #[.int .i64 op, .string s, .int .i64 n, .int .i64 v, .int .i64 a] 25)))
 have HF := fun W => Lib.hid (rForm_any op ho.1 ho.2 W)
 rw [hf] at HF
 have q0 := HB.out.cell 0
 have q1 := HB.out.cell 1
 have hn1 : ((mkB (nameF op)).toList == []) = false := by
  rw [ByteArray.toList_eq, mkB_list]
  simpa using hn
 have hn2 : (mkB (nameF op)).toList ≠ [] := by
  rw [ByteArray.toList_eq, mkB_list]
  exact hn
 have hn3 : (mkB (nameF op)).toList.isEmpty = false := by simpa using hn2
 have hs64 : ¬ (64 : Int) < (s.size : Int) := by omega
 have H_v := fun W => Lib.hid (rHas_lit (mkB [115, 97]) 118 false 118 rfl (by decide) (by decide +kernel) W)
 have H_a := fun W => Lib.hid (rHas_lit (mkB [115, 97]) 97 true 97 rfl (by decide) (by decide +kernel) W)
 have H_l := fun W => Lib.hid (rHas_lit (mkB [115, 97]) 108 false 108 rfl (by decide) (by decide +kernel) W)
 have H_n := fun W => Lib.hid (rHas_lit (mkB [115, 97]) 110 false 110 rfl (by decide) (by decide +kernel) W)
 have H_f := fun W => Lib.hid (rHas_lit (mkB [115, 97]) 102 false 102 rfl (by decide) (by decide +kernel) W)
 have H_p := fun W => Lib.hid (rHas_lit (mkB [115, 97]) 112 false 112 rfl (by decide) (by decide +kernel) W)
 have H_e := fun W => Lib.hid (rHas_lit (mkB [115, 97]) 101 false 101 rfl (by decide) (by decide +kernel) W)
 have H_s := fun W => Lib.hid (rHas_lit (mkB [115, 97]) 115 true 115 rfl (by decide) (by decide +kernel) W)
 generalize mkB (nameF op) = nm at *
 unfold insVal
 clear hm hR hx hf hn hs ho
 go_enter Tryz.func72, Tryz.ntmps72
 go_upto_region 3 with (go_at_call 14; refine HN.out.mono ?_; rintro e W1 ⟨rfl, x1⟩; have HX1 := Lib.hid x1; have p0 := x1.cell q0; have p1 := x1.cell q1; clear x1)
 go_upto_region 4 with (go_at_call 73; refine (HF _).out.mono ?_; rintro e W2 ⟨rfl, x2⟩; have HX := Lib.hid ((HX0.out.trans HX1.out).trans x2); have hb := HB.out.ext (HX1.out.trans x2); have y1 := hb.cell 1; have y2 := hb.cell 2; have y3 := hb.cell 3; have y4 := hb.cell 4; clear x2 hb)
 simp only [List.getElem?_toArray, List.getElem?_cons_zero, List.getElem?_cons_succ] at y1 y2 y3 y4
 clear q0 q1 p0 p1 HN HF HB HX0 HX1 hn1 hn2 hn3 hs64
 by_cases k3 : v = 0
 case neg =>
  have k4 : (v == 0) = false := by simpa using k3
  have k5 : (v != 0) = true := by simpa using k3
  have HZ := Lib.hid k3
  clear k3
  go_wp2_with (go_at_call 116; first | ((with_reducible refine (H_v _).out.mono ?_); rintro e W9 ⟨rfl, rfl⟩) | ((with_reducible refine (H_a _).out.mono ?_); rintro e W9 ⟨rfl, rfl⟩) | ((with_reducible refine (H_l _).out.mono ?_); rintro e W9 ⟨rfl, rfl⟩) | ((with_reducible refine (H_n _).out.mono ?_); rintro e W9 ⟨rfl, rfl⟩) | ((with_reducible refine (H_f _).out.mono ?_); rintro e W9 ⟨rfl, rfl⟩) | ((with_reducible refine (H_p _).out.mono ?_); rintro e W9 ⟨rfl, rfl⟩) | ((with_reducible refine (H_e _).out.mono ?_); rintro e W9 ⟨rfl, rfl⟩) | ((with_reducible refine (H_s _).out.mono ?_); rintro e W9 ⟨rfl, rfl⟩))
  go_ret
  exact ⟨ret_bB (by rw [HM.out]; exact (decide_eq_false (by have := HZ.out; omega)).symm), HX.out⟩
 have k4 : (v == 0) = true := by simpa using k3
 have k5 : (v != 0) = false := by simpa using k3
 have G_v := Lib.hid k3
 clear k3
 go_upto_region 6 with (go_at_call 116; first | ((with_reducible refine (H_v _).out.mono ?_); rintro e W9 ⟨rfl, rfl⟩) | ((with_reducible refine (H_a _).out.mono ?_); rintro e W9 ⟨rfl, rfl⟩) | ((with_reducible refine (H_l _).out.mono ?_); rintro e W9 ⟨rfl, rfl⟩) | ((with_reducible refine (H_n _).out.mono ?_); rintro e W9 ⟨rfl, rfl⟩) | ((with_reducible refine (H_f _).out.mono ?_); rintro e W9 ⟨rfl, rfl⟩) | ((with_reducible refine (H_p _).out.mono ?_); rintro e W9 ⟨rfl, rfl⟩) | ((with_reducible refine (H_e _).out.mono ?_); rintro e W9 ⟨rfl, rfl⟩) | ((with_reducible refine (H_s _).out.mono ?_); rintro e W9 ⟨rfl, rfl⟩))
 clear k4 k5
 by_cases k1 : a < 1
 ·skip
  go_wp2_with (go_at_call 116; first | ((with_reducible refine (H_v _).out.mono ?_); rintro e W9 ⟨rfl, rfl⟩) | ((with_reducible refine (H_a _).out.mono ?_); rintro e W9 ⟨rfl, rfl⟩) | ((with_reducible refine (H_l _).out.mono ?_); rintro e W9 ⟨rfl, rfl⟩) | ((with_reducible refine (H_n _).out.mono ?_); rintro e W9 ⟨rfl, rfl⟩) | ((with_reducible refine (H_f _).out.mono ?_); rintro e W9 ⟨rfl, rfl⟩) | ((with_reducible refine (H_p _).out.mono ?_); rintro e W9 ⟨rfl, rfl⟩) | ((with_reducible refine (H_e _).out.mono ?_); rintro e W9 ⟨rfl, rfl⟩) | ((with_reducible refine (H_s _).out.mono ?_); rintro e W9 ⟨rfl, rfl⟩))
  go_ret
  exact ⟨ret_bB (by rw [HM.out]; exact (decide_eq_false (by omega)).symm), HX.out⟩
 by_cases k2 : 255 < a
 ·skip
  go_wp2_with (go_at_call 116; first | ((with_reducible refine (H_v _).out.mono ?_); rintro e W9 ⟨rfl, rfl⟩) | ((with_reducible refine (H_a _).out.mono ?_); rintro e W9 ⟨rfl, rfl⟩) | ((with_reducible refine (H_l _).out.mono ?_); rintro e W9 ⟨rfl, rfl⟩) | ((with_reducible refine (H_n _).out.mono ?_); rintro e W9 ⟨rfl, rfl⟩) | ((with_reducible refine (H_f _).out.mono ?_); rintro e W9 ⟨rfl, rfl⟩) | ((with_reducible refine (H_p _).out.mono ?_); rintro e W9 ⟨rfl, rfl⟩) | ((with_reducible refine (H_e _).out.mono ?_); rintro e W9 ⟨rfl, rfl⟩) | ((with_reducible refine (H_s _).out.mono ?_); rintro e W9 ⟨rfl, rfl⟩))
  go_ret
  exact ⟨ret_bB (by rw [HM.out]; exact (decide_eq_false (by omega)).symm), HX.out⟩
 go_upto_region 8 with (go_at_call 116; first | ((with_reducible refine (H_v _).out.mono ?_); rintro e W9 ⟨rfl, rfl⟩) | ((with_reducible refine (H_a _).out.mono ?_); rintro e W9 ⟨rfl, rfl⟩) | ((with_reducible refine (H_l _).out.mono ?_); rintro e W9 ⟨rfl, rfl⟩) | ((with_reducible refine (H_n _).out.mono ?_); rintro e W9 ⟨rfl, rfl⟩) | ((with_reducible refine (H_f _).out.mono ?_); rintro e W9 ⟨rfl, rfl⟩) | ((with_reducible refine (H_p _).out.mono ?_); rintro e W9 ⟨rfl, rfl⟩) | ((with_reducible refine (H_e _).out.mono ?_); rintro e W9 ⟨rfl, rfl⟩) | ((with_reducible refine (H_s _).out.mono ?_); rintro e W9 ⟨rfl, rfl⟩))
 have G_a : Hid (¬ a < 1 ∧ ¬ 255 < a) := Lib.hid (by omega)
 clear k1 k2
 go_upto_region 12 with (go_at_call 116; first | ((with_reducible refine (H_v _).out.mono ?_); rintro e W9 ⟨rfl, rfl⟩) | ((with_reducible refine (H_a _).out.mono ?_); rintro e W9 ⟨rfl, rfl⟩) | ((with_reducible refine (H_l _).out.mono ?_); rintro e W9 ⟨rfl, rfl⟩) | ((with_reducible refine (H_n _).out.mono ?_); rintro e W9 ⟨rfl, rfl⟩) | ((with_reducible refine (H_f _).out.mono ?_); rintro e W9 ⟨rfl, rfl⟩) | ((with_reducible refine (H_p _).out.mono ?_); rintro e W9 ⟨rfl, rfl⟩) | ((with_reducible refine (H_e _).out.mono ?_); rintro e W9 ⟨rfl, rfl⟩) | ((with_reducible refine (H_s _).out.mono ?_); rintro e W9 ⟨rfl, rfl⟩))
 go_upto_region 16 with (go_at_call 116; first | ((with_reducible refine (H_v _).out.mono ?_); rintro e W9 ⟨rfl, rfl⟩) | ((with_reducible refine (H_a _).out.mono ?_); rintro e W9 ⟨rfl, rfl⟩) | ((with_reducible refine (H_l _).out.mono ?_); rintro e W9 ⟨rfl, rfl⟩) | ((with_reducible refine (H_n _).out.mono ?_); rintro e W9 ⟨rfl, rfl⟩) | ((with_reducible refine (H_f _).out.mono ?_); rintro e W9 ⟨rfl, rfl⟩) | ((with_reducible refine (H_p _).out.mono ?_); rintro e W9 ⟨rfl, rfl⟩) | ((with_reducible refine (H_e _).out.mono ?_); rintro e W9 ⟨rfl, rfl⟩) | ((with_reducible refine (H_s _).out.mono ?_); rintro e W9 ⟨rfl, rfl⟩))
 by_cases k3 : n = 0
 case neg =>
  have k4 : (n == 0) = false := by simpa using k3
  have k5 : (n != 0) = true := by simpa using k3
  have HZ := Lib.hid k3
  clear k3
  go_wp2_with (go_at_call 116; first | ((with_reducible refine (H_v _).out.mono ?_); rintro e W9 ⟨rfl, rfl⟩) | ((with_reducible refine (H_a _).out.mono ?_); rintro e W9 ⟨rfl, rfl⟩) | ((with_reducible refine (H_l _).out.mono ?_); rintro e W9 ⟨rfl, rfl⟩) | ((with_reducible refine (H_n _).out.mono ?_); rintro e W9 ⟨rfl, rfl⟩) | ((with_reducible refine (H_f _).out.mono ?_); rintro e W9 ⟨rfl, rfl⟩) | ((with_reducible refine (H_p _).out.mono ?_); rintro e W9 ⟨rfl, rfl⟩) | ((with_reducible refine (H_e _).out.mono ?_); rintro e W9 ⟨rfl, rfl⟩) | ((with_reducible refine (H_s _).out.mono ?_); rintro e W9 ⟨rfl, rfl⟩))
  go_ret
  exact ⟨ret_bB (by rw [HM.out]; exact (decide_eq_false (by have := HZ.out; omega)).symm), HX.out⟩
 have k4 : (n == 0) = true := by simpa using k3
 have k5 : (n != 0) = false := by simpa using k3
 have G_n := Lib.hid k3
 clear k3
 go_upto_region 18 with (go_at_call 116; first | ((with_reducible refine (H_v _).out.mono ?_); rintro e W9 ⟨rfl, rfl⟩) | ((with_reducible refine (H_a _).out.mono ?_); rintro e W9 ⟨rfl, rfl⟩) | ((with_reducible refine (H_l _).out.mono ?_); rintro e W9 ⟨rfl, rfl⟩) | ((with_reducible refine (H_n _).out.mono ?_); rintro e W9 ⟨rfl, rfl⟩) | ((with_reducible refine (H_f _).out.mono ?_); rintro e W9 ⟨rfl, rfl⟩) | ((with_reducible refine (H_p _).out.mono ?_); rintro e W9 ⟨rfl, rfl⟩) | ((with_reducible refine (H_e _).out.mono ?_); rintro e W9 ⟨rfl, rfl⟩) | ((with_reducible refine (H_s _).out.mono ?_); rintro e W9 ⟨rfl, rfl⟩))
 clear k4 k5
 go_wp2_with (go_at_call 116; first | ((with_reducible refine (H_v _).out.mono ?_); rintro e W9 ⟨rfl, rfl⟩) | ((with_reducible refine (H_a _).out.mono ?_); rintro e W9 ⟨rfl, rfl⟩) | ((with_reducible refine (H_l _).out.mono ?_); rintro e W9 ⟨rfl, rfl⟩) | ((with_reducible refine (H_n _).out.mono ?_); rintro e W9 ⟨rfl, rfl⟩) | ((with_reducible refine (H_f _).out.mono ?_); rintro e W9 ⟨rfl, rfl⟩) | ((with_reducible refine (H_p _).out.mono ?_); rintro e W9 ⟨rfl, rfl⟩) | ((with_reducible refine (H_e _).out.mono ?_); rintro e W9 ⟨rfl, rfl⟩) | ((with_reducible refine (H_s _).out.mono ?_); rintro e W9 ⟨rfl, rfl⟩))
 go_ret
 exact ⟨ret_bB (by rw [HM.out]; exact (decide_eq_true (by have g1 := G_v.out; have g2 := G_a.out; have g3 := G_n.out; omega)).symm), HX.out⟩
set_option maxRecDepth 100000 in
set_option maxHeartbeats 2000000 in
theorem rMay_na (op n v a : Int) (s : ByteArray) (w : World) (ho : 0 ≤ op ∧ op < 31) (hn : nameF op ≠ []) (hs : ¬ 64 < s.size) (hf : formL op = [110, 97]) (hm : insMay ⟨op, s, n, v, a⟩ = decide ((v = 0) ∧ (1 ≤ a ∧ a ≤ 255) ∧ (-9007199254740991 ≤ n ∧ n ≤ 9007199254740991) ∧ (s.size = 0))) :
  Calls Tryz.prog 72 #[insVal ⟨op, s, n, v, a⟩] w fun e w' => e = .returned (.bool (insMay ⟨op, s, n, v, a⟩)) ∧ Ext w w' := by
 have HM := Lib.hid hm
 obtain ⟨R, hR⟩ : ∃ R, insMay ⟨op, s, n, v, a⟩ = R := ⟨_, rfl⟩
 rw [hR] at HM ⊢
 have hx := ext_boxI w (.cells #[.int .i64 op, .string s, .int .i64 n, .int .i64 v, .int .i64 a] 25)
 have HB := Lib.hid (Blk.new w 25 #[.int .i64 op, .string s, .int .i64 n, .int .i64 v, .int .i64 a])
 have HX0 := Lib.hid hx
 have HN := Lib.hid (rName_any op (w.alloc (.cells #[.int .i64 op, .string s, .int .i64 n, .int .i64 v, .int .i64 a] 25)))
 have HF := fun W => Lib.hid (rForm_any op ho.1 ho.2 W)
 rw [hf] at HF
 have q0 := HB.out.cell 0
 have q1 := HB.out.cell 1
 have hn1 : ((mkB (nameF op)).toList == []) = false := by
  rw [ByteArray.toList_eq, mkB_list]
  simpa using hn
 have hn2 : (mkB (nameF op)).toList ≠ [] := by
  rw [ByteArray.toList_eq, mkB_list]
  exact hn
 have hn3 : (mkB (nameF op)).toList.isEmpty = false := by simpa using hn2
 have hs64 : ¬ (64 : Int) < (s.size : Int) := by omega
 have H_v := fun W => Lib.hid (rHas_lit (mkB [110, 97]) 118 false 118 rfl (by decide) (by decide +kernel) W)
 have H_a := fun W => Lib.hid (rHas_lit (mkB [110, 97]) 97 true 97 rfl (by decide) (by decide +kernel) W)
 have H_l := fun W => Lib.hid (rHas_lit (mkB [110, 97]) 108 false 108 rfl (by decide) (by decide +kernel) W)
 have H_n := fun W => Lib.hid (rHas_lit (mkB [110, 97]) 110 true 110 rfl (by decide) (by decide +kernel) W)
 have H_f := fun W => Lib.hid (rHas_lit (mkB [110, 97]) 102 false 102 rfl (by decide) (by decide +kernel) W)
 have H_p := fun W => Lib.hid (rHas_lit (mkB [110, 97]) 112 false 112 rfl (by decide) (by decide +kernel) W)
 have H_e := fun W => Lib.hid (rHas_lit (mkB [110, 97]) 101 false 101 rfl (by decide) (by decide +kernel) W)
 have H_s := fun W => Lib.hid (rHas_lit (mkB [110, 97]) 115 false 115 rfl (by decide) (by decide +kernel) W)
 generalize mkB (nameF op) = nm at *
 unfold insVal
 clear hm hR hx hf hn hs ho
 go_enter Tryz.func72, Tryz.ntmps72
 go_upto_region 3 with (go_at_call 14; refine HN.out.mono ?_; rintro e W1 ⟨rfl, x1⟩; have HX1 := Lib.hid x1; have p0 := x1.cell q0; have p1 := x1.cell q1; clear x1)
 go_upto_region 4 with (go_at_call 73; refine (HF _).out.mono ?_; rintro e W2 ⟨rfl, x2⟩; have HX := Lib.hid ((HX0.out.trans HX1.out).trans x2); have hb := HB.out.ext (HX1.out.trans x2); have y1 := hb.cell 1; have y2 := hb.cell 2; have y3 := hb.cell 3; have y4 := hb.cell 4; clear x2 hb)
 simp only [List.getElem?_toArray, List.getElem?_cons_zero, List.getElem?_cons_succ] at y1 y2 y3 y4
 clear q0 q1 p0 p1 HN HF HB HX0 HX1 hn1 hn2 hn3 hs64
 by_cases k3 : v = 0
 case neg =>
  have k4 : (v == 0) = false := by simpa using k3
  have k5 : (v != 0) = true := by simpa using k3
  have HZ := Lib.hid k3
  clear k3
  go_wp2_with (go_at_call 116; first | ((with_reducible refine (H_v _).out.mono ?_); rintro e W9 ⟨rfl, rfl⟩) | ((with_reducible refine (H_a _).out.mono ?_); rintro e W9 ⟨rfl, rfl⟩) | ((with_reducible refine (H_l _).out.mono ?_); rintro e W9 ⟨rfl, rfl⟩) | ((with_reducible refine (H_n _).out.mono ?_); rintro e W9 ⟨rfl, rfl⟩) | ((with_reducible refine (H_f _).out.mono ?_); rintro e W9 ⟨rfl, rfl⟩) | ((with_reducible refine (H_p _).out.mono ?_); rintro e W9 ⟨rfl, rfl⟩) | ((with_reducible refine (H_e _).out.mono ?_); rintro e W9 ⟨rfl, rfl⟩) | ((with_reducible refine (H_s _).out.mono ?_); rintro e W9 ⟨rfl, rfl⟩))
  go_ret
  exact ⟨ret_bB (by rw [HM.out]; exact (decide_eq_false (by have := HZ.out; omega)).symm), HX.out⟩
 have k4 : (v == 0) = true := by simpa using k3
 have k5 : (v != 0) = false := by simpa using k3
 have G_v := Lib.hid k3
 clear k3
 go_upto_region 6 with (go_at_call 116; first | ((with_reducible refine (H_v _).out.mono ?_); rintro e W9 ⟨rfl, rfl⟩) | ((with_reducible refine (H_a _).out.mono ?_); rintro e W9 ⟨rfl, rfl⟩) | ((with_reducible refine (H_l _).out.mono ?_); rintro e W9 ⟨rfl, rfl⟩) | ((with_reducible refine (H_n _).out.mono ?_); rintro e W9 ⟨rfl, rfl⟩) | ((with_reducible refine (H_f _).out.mono ?_); rintro e W9 ⟨rfl, rfl⟩) | ((with_reducible refine (H_p _).out.mono ?_); rintro e W9 ⟨rfl, rfl⟩) | ((with_reducible refine (H_e _).out.mono ?_); rintro e W9 ⟨rfl, rfl⟩) | ((with_reducible refine (H_s _).out.mono ?_); rintro e W9 ⟨rfl, rfl⟩))
 clear k4 k5
 by_cases k1 : a < 1
 ·skip
  go_wp2_with (go_at_call 116; first | ((with_reducible refine (H_v _).out.mono ?_); rintro e W9 ⟨rfl, rfl⟩) | ((with_reducible refine (H_a _).out.mono ?_); rintro e W9 ⟨rfl, rfl⟩) | ((with_reducible refine (H_l _).out.mono ?_); rintro e W9 ⟨rfl, rfl⟩) | ((with_reducible refine (H_n _).out.mono ?_); rintro e W9 ⟨rfl, rfl⟩) | ((with_reducible refine (H_f _).out.mono ?_); rintro e W9 ⟨rfl, rfl⟩) | ((with_reducible refine (H_p _).out.mono ?_); rintro e W9 ⟨rfl, rfl⟩) | ((with_reducible refine (H_e _).out.mono ?_); rintro e W9 ⟨rfl, rfl⟩) | ((with_reducible refine (H_s _).out.mono ?_); rintro e W9 ⟨rfl, rfl⟩))
  go_ret
  exact ⟨ret_bB (by rw [HM.out]; exact (decide_eq_false (by omega)).symm), HX.out⟩
 by_cases k2 : 255 < a
 ·skip
  go_wp2_with (go_at_call 116; first | ((with_reducible refine (H_v _).out.mono ?_); rintro e W9 ⟨rfl, rfl⟩) | ((with_reducible refine (H_a _).out.mono ?_); rintro e W9 ⟨rfl, rfl⟩) | ((with_reducible refine (H_l _).out.mono ?_); rintro e W9 ⟨rfl, rfl⟩) | ((with_reducible refine (H_n _).out.mono ?_); rintro e W9 ⟨rfl, rfl⟩) | ((with_reducible refine (H_f _).out.mono ?_); rintro e W9 ⟨rfl, rfl⟩) | ((with_reducible refine (H_p _).out.mono ?_); rintro e W9 ⟨rfl, rfl⟩) | ((with_reducible refine (H_e _).out.mono ?_); rintro e W9 ⟨rfl, rfl⟩) | ((with_reducible refine (H_s _).out.mono ?_); rintro e W9 ⟨rfl, rfl⟩))
  go_ret
  exact ⟨ret_bB (by rw [HM.out]; exact (decide_eq_false (by omega)).symm), HX.out⟩
 go_upto_region 8 with (go_at_call 116; first | ((with_reducible refine (H_v _).out.mono ?_); rintro e W9 ⟨rfl, rfl⟩) | ((with_reducible refine (H_a _).out.mono ?_); rintro e W9 ⟨rfl, rfl⟩) | ((with_reducible refine (H_l _).out.mono ?_); rintro e W9 ⟨rfl, rfl⟩) | ((with_reducible refine (H_n _).out.mono ?_); rintro e W9 ⟨rfl, rfl⟩) | ((with_reducible refine (H_f _).out.mono ?_); rintro e W9 ⟨rfl, rfl⟩) | ((with_reducible refine (H_p _).out.mono ?_); rintro e W9 ⟨rfl, rfl⟩) | ((with_reducible refine (H_e _).out.mono ?_); rintro e W9 ⟨rfl, rfl⟩) | ((with_reducible refine (H_s _).out.mono ?_); rintro e W9 ⟨rfl, rfl⟩))
 have G_a : Hid (¬ a < 1 ∧ ¬ 255 < a) := Lib.hid (by omega)
 clear k1 k2
 go_upto_region 12 with (go_at_call 116; first | ((with_reducible refine (H_v _).out.mono ?_); rintro e W9 ⟨rfl, rfl⟩) | ((with_reducible refine (H_a _).out.mono ?_); rintro e W9 ⟨rfl, rfl⟩) | ((with_reducible refine (H_l _).out.mono ?_); rintro e W9 ⟨rfl, rfl⟩) | ((with_reducible refine (H_n _).out.mono ?_); rintro e W9 ⟨rfl, rfl⟩) | ((with_reducible refine (H_f _).out.mono ?_); rintro e W9 ⟨rfl, rfl⟩) | ((with_reducible refine (H_p _).out.mono ?_); rintro e W9 ⟨rfl, rfl⟩) | ((with_reducible refine (H_e _).out.mono ?_); rintro e W9 ⟨rfl, rfl⟩) | ((with_reducible refine (H_s _).out.mono ?_); rintro e W9 ⟨rfl, rfl⟩))
 by_cases k1 : n < -9007199254740991
 ·skip
  go_wp2_with (go_at_call 116; first | ((with_reducible refine (H_v _).out.mono ?_); rintro e W9 ⟨rfl, rfl⟩) | ((with_reducible refine (H_a _).out.mono ?_); rintro e W9 ⟨rfl, rfl⟩) | ((with_reducible refine (H_l _).out.mono ?_); rintro e W9 ⟨rfl, rfl⟩) | ((with_reducible refine (H_n _).out.mono ?_); rintro e W9 ⟨rfl, rfl⟩) | ((with_reducible refine (H_f _).out.mono ?_); rintro e W9 ⟨rfl, rfl⟩) | ((with_reducible refine (H_p _).out.mono ?_); rintro e W9 ⟨rfl, rfl⟩) | ((with_reducible refine (H_e _).out.mono ?_); rintro e W9 ⟨rfl, rfl⟩) | ((with_reducible refine (H_s _).out.mono ?_); rintro e W9 ⟨rfl, rfl⟩))
  go_ret
  exact ⟨ret_bB (by rw [HM.out]; exact (decide_eq_false (by omega)).symm), HX.out⟩
 by_cases k2 : 9007199254740991 < n
 ·skip
  go_wp2_with (go_at_call 116; first | ((with_reducible refine (H_v _).out.mono ?_); rintro e W9 ⟨rfl, rfl⟩) | ((with_reducible refine (H_a _).out.mono ?_); rintro e W9 ⟨rfl, rfl⟩) | ((with_reducible refine (H_l _).out.mono ?_); rintro e W9 ⟨rfl, rfl⟩) | ((with_reducible refine (H_n _).out.mono ?_); rintro e W9 ⟨rfl, rfl⟩) | ((with_reducible refine (H_f _).out.mono ?_); rintro e W9 ⟨rfl, rfl⟩) | ((with_reducible refine (H_p _).out.mono ?_); rintro e W9 ⟨rfl, rfl⟩) | ((with_reducible refine (H_e _).out.mono ?_); rintro e W9 ⟨rfl, rfl⟩) | ((with_reducible refine (H_s _).out.mono ?_); rintro e W9 ⟨rfl, rfl⟩))
  go_ret
  exact ⟨ret_bB (by rw [HM.out]; exact (decide_eq_false (by omega)).symm), HX.out⟩
 go_upto_region 14 with (go_at_call 116; first | ((with_reducible refine (H_v _).out.mono ?_); rintro e W9 ⟨rfl, rfl⟩) | ((with_reducible refine (H_a _).out.mono ?_); rintro e W9 ⟨rfl, rfl⟩) | ((with_reducible refine (H_l _).out.mono ?_); rintro e W9 ⟨rfl, rfl⟩) | ((with_reducible refine (H_n _).out.mono ?_); rintro e W9 ⟨rfl, rfl⟩) | ((with_reducible refine (H_f _).out.mono ?_); rintro e W9 ⟨rfl, rfl⟩) | ((with_reducible refine (H_p _).out.mono ?_); rintro e W9 ⟨rfl, rfl⟩) | ((with_reducible refine (H_e _).out.mono ?_); rintro e W9 ⟨rfl, rfl⟩) | ((with_reducible refine (H_s _).out.mono ?_); rintro e W9 ⟨rfl, rfl⟩))
 have G_n : Hid (¬ n < -9007199254740991 ∧ ¬ 9007199254740991 < n) := Lib.hid (by omega)
 clear k1 k2
 go_upto_region 18 with (go_at_call 116; first | ((with_reducible refine (H_v _).out.mono ?_); rintro e W9 ⟨rfl, rfl⟩) | ((with_reducible refine (H_a _).out.mono ?_); rintro e W9 ⟨rfl, rfl⟩) | ((with_reducible refine (H_l _).out.mono ?_); rintro e W9 ⟨rfl, rfl⟩) | ((with_reducible refine (H_n _).out.mono ?_); rintro e W9 ⟨rfl, rfl⟩) | ((with_reducible refine (H_f _).out.mono ?_); rintro e W9 ⟨rfl, rfl⟩) | ((with_reducible refine (H_p _).out.mono ?_); rintro e W9 ⟨rfl, rfl⟩) | ((with_reducible refine (H_e _).out.mono ?_); rintro e W9 ⟨rfl, rfl⟩) | ((with_reducible refine (H_s _).out.mono ?_); rintro e W9 ⟨rfl, rfl⟩))
 by_cases k3 : s.size = 0
 ·have e1 := str_empty k3
  have e2 : (s.toList == []) = true := by rw [e1]; rfl
  have e3 : s.toList.isEmpty = true := by rw [e1]; rfl
  have HZ := Lib.hid k3
  clear k3
  go_wp2_with (go_at_call 116; first | ((with_reducible refine (H_v _).out.mono ?_); rintro e W9 ⟨rfl, rfl⟩) | ((with_reducible refine (H_a _).out.mono ?_); rintro e W9 ⟨rfl, rfl⟩) | ((with_reducible refine (H_l _).out.mono ?_); rintro e W9 ⟨rfl, rfl⟩) | ((with_reducible refine (H_n _).out.mono ?_); rintro e W9 ⟨rfl, rfl⟩) | ((with_reducible refine (H_f _).out.mono ?_); rintro e W9 ⟨rfl, rfl⟩) | ((with_reducible refine (H_p _).out.mono ?_); rintro e W9 ⟨rfl, rfl⟩) | ((with_reducible refine (H_e _).out.mono ?_); rintro e W9 ⟨rfl, rfl⟩) | ((with_reducible refine (H_s _).out.mono ?_); rintro e W9 ⟨rfl, rfl⟩))
  go_ret
  exact ⟨ret_bB (by rw [HM.out]; exact (decide_eq_true (by have g1 := G_v.out; have g2 := G_a.out; have g3 := G_n.out; have g4 := HZ.out; omega)).symm), HX.out⟩
 ·have e1 := str_full k3
  have e2 : (s.toList == []) = false := by simpa using e1
  have e3 : s.toList.isEmpty = false := by simpa using e1
  have HZ := Lib.hid k3
  clear k3
  go_wp2_with (go_at_call 116; first | ((with_reducible refine (H_v _).out.mono ?_); rintro e W9 ⟨rfl, rfl⟩) | ((with_reducible refine (H_a _).out.mono ?_); rintro e W9 ⟨rfl, rfl⟩) | ((with_reducible refine (H_l _).out.mono ?_); rintro e W9 ⟨rfl, rfl⟩) | ((with_reducible refine (H_n _).out.mono ?_); rintro e W9 ⟨rfl, rfl⟩) | ((with_reducible refine (H_f _).out.mono ?_); rintro e W9 ⟨rfl, rfl⟩) | ((with_reducible refine (H_p _).out.mono ?_); rintro e W9 ⟨rfl, rfl⟩) | ((with_reducible refine (H_e _).out.mono ?_); rintro e W9 ⟨rfl, rfl⟩) | ((with_reducible refine (H_s _).out.mono ?_); rintro e W9 ⟨rfl, rfl⟩))
  go_ret
  exact ⟨ret_bB (by rw [HM.out]; exact (decide_eq_false (by have g4 := HZ.out; omega)).symm), HX.out⟩
set_option maxRecDepth 100000 in
set_option maxHeartbeats 2000000 in
theorem rMay_fa (op n v a : Int) (s : ByteArray) (w : World) (ho : 0 ≤ op ∧ op < 31) (hn : nameF op ≠ []) (hs : ¬ 64 < s.size) (hf : formL op = [102, 97]) (hm : insMay ⟨op, s, n, v, a⟩ = decide ((v = 0) ∧ (1 ≤ a ∧ a ≤ 255) ∧ (1 ≤ n ∧ n ≤ 16) ∧ (0 ≤ s.size))) :
  Calls Tryz.prog 72 #[insVal ⟨op, s, n, v, a⟩] w fun e w' => e = .returned (.bool (insMay ⟨op, s, n, v, a⟩)) ∧ Ext w w' := by
 have HM := Lib.hid hm
 obtain ⟨R, hR⟩ : ∃ R, insMay ⟨op, s, n, v, a⟩ = R := ⟨_, rfl⟩
 rw [hR] at HM ⊢
 have hx := ext_boxI w (.cells #[.int .i64 op, .string s, .int .i64 n, .int .i64 v, .int .i64 a] 25)
 have HB := Lib.hid (Blk.new w 25 #[.int .i64 op, .string s, .int .i64 n, .int .i64 v, .int .i64 a])
 have HX0 := Lib.hid hx
 have HN := Lib.hid (rName_any op (w.alloc (.cells #[.int .i64 op, .string s, .int .i64 n, .int .i64 v, .int .i64 a] 25)))
 have HF := fun W => Lib.hid (rForm_any op ho.1 ho.2 W)
 rw [hf] at HF
 have q0 := HB.out.cell 0
 have q1 := HB.out.cell 1
 have hn1 : ((mkB (nameF op)).toList == []) = false := by
  rw [ByteArray.toList_eq, mkB_list]
  simpa using hn
 have hn2 : (mkB (nameF op)).toList ≠ [] := by
  rw [ByteArray.toList_eq, mkB_list]
  exact hn
 have hn3 : (mkB (nameF op)).toList.isEmpty = false := by simpa using hn2
 have hs64 : ¬ (64 : Int) < (s.size : Int) := by omega
 have H_v := fun W => Lib.hid (rHas_lit (mkB [102, 97]) 118 false 118 rfl (by decide) (by decide +kernel) W)
 have H_a := fun W => Lib.hid (rHas_lit (mkB [102, 97]) 97 true 97 rfl (by decide) (by decide +kernel) W)
 have H_l := fun W => Lib.hid (rHas_lit (mkB [102, 97]) 108 false 108 rfl (by decide) (by decide +kernel) W)
 have H_n := fun W => Lib.hid (rHas_lit (mkB [102, 97]) 110 false 110 rfl (by decide) (by decide +kernel) W)
 have H_f := fun W => Lib.hid (rHas_lit (mkB [102, 97]) 102 true 102 rfl (by decide) (by decide +kernel) W)
 have H_p := fun W => Lib.hid (rHas_lit (mkB [102, 97]) 112 false 112 rfl (by decide) (by decide +kernel) W)
 have H_e := fun W => Lib.hid (rHas_lit (mkB [102, 97]) 101 false 101 rfl (by decide) (by decide +kernel) W)
 have H_s := fun W => Lib.hid (rHas_lit (mkB [102, 97]) 115 false 115 rfl (by decide) (by decide +kernel) W)
 generalize mkB (nameF op) = nm at *
 unfold insVal
 clear hm hR hx hf hn hs ho
 go_enter Tryz.func72, Tryz.ntmps72
 go_upto_region 3 with (go_at_call 14; refine HN.out.mono ?_; rintro e W1 ⟨rfl, x1⟩; have HX1 := Lib.hid x1; have p0 := x1.cell q0; have p1 := x1.cell q1; clear x1)
 go_upto_region 4 with (go_at_call 73; refine (HF _).out.mono ?_; rintro e W2 ⟨rfl, x2⟩; have HX := Lib.hid ((HX0.out.trans HX1.out).trans x2); have hb := HB.out.ext (HX1.out.trans x2); have y1 := hb.cell 1; have y2 := hb.cell 2; have y3 := hb.cell 3; have y4 := hb.cell 4; clear x2 hb)
 simp only [List.getElem?_toArray, List.getElem?_cons_zero, List.getElem?_cons_succ] at y1 y2 y3 y4
 clear q0 q1 p0 p1 HN HF HB HX0 HX1 hn1 hn2 hn3 hs64
 by_cases k3 : v = 0
 case neg =>
  have k4 : (v == 0) = false := by simpa using k3
  have k5 : (v != 0) = true := by simpa using k3
  have HZ := Lib.hid k3
  clear k3
  go_wp2_with (go_at_call 116; first | ((with_reducible refine (H_v _).out.mono ?_); rintro e W9 ⟨rfl, rfl⟩) | ((with_reducible refine (H_a _).out.mono ?_); rintro e W9 ⟨rfl, rfl⟩) | ((with_reducible refine (H_l _).out.mono ?_); rintro e W9 ⟨rfl, rfl⟩) | ((with_reducible refine (H_n _).out.mono ?_); rintro e W9 ⟨rfl, rfl⟩) | ((with_reducible refine (H_f _).out.mono ?_); rintro e W9 ⟨rfl, rfl⟩) | ((with_reducible refine (H_p _).out.mono ?_); rintro e W9 ⟨rfl, rfl⟩) | ((with_reducible refine (H_e _).out.mono ?_); rintro e W9 ⟨rfl, rfl⟩) | ((with_reducible refine (H_s _).out.mono ?_); rintro e W9 ⟨rfl, rfl⟩))
  go_ret
  exact ⟨ret_bB (by rw [HM.out]; exact (decide_eq_false (by have := HZ.out; omega)).symm), HX.out⟩
 have k4 : (v == 0) = true := by simpa using k3
 have k5 : (v != 0) = false := by simpa using k3
 have G_v := Lib.hid k3
 clear k3
 go_upto_region 6 with (go_at_call 116; first | ((with_reducible refine (H_v _).out.mono ?_); rintro e W9 ⟨rfl, rfl⟩) | ((with_reducible refine (H_a _).out.mono ?_); rintro e W9 ⟨rfl, rfl⟩) | ((with_reducible refine (H_l _).out.mono ?_); rintro e W9 ⟨rfl, rfl⟩) | ((with_reducible refine (H_n _).out.mono ?_); rintro e W9 ⟨rfl, rfl⟩) | ((with_reducible refine (H_f _).out.mono ?_); rintro e W9 ⟨rfl, rfl⟩) | ((with_reducible refine (H_p _).out.mono ?_); rintro e W9 ⟨rfl, rfl⟩) | ((with_reducible refine (H_e _).out.mono ?_); rintro e W9 ⟨rfl, rfl⟩) | ((with_reducible refine (H_s _).out.mono ?_); rintro e W9 ⟨rfl, rfl⟩))
 clear k4 k5
 by_cases k1 : a < 1
 ·skip
  go_wp2_with (go_at_call 116; first | ((with_reducible refine (H_v _).out.mono ?_); rintro e W9 ⟨rfl, rfl⟩) | ((with_reducible refine (H_a _).out.mono ?_); rintro e W9 ⟨rfl, rfl⟩) | ((with_reducible refine (H_l _).out.mono ?_); rintro e W9 ⟨rfl, rfl⟩) | ((with_reducible refine (H_n _).out.mono ?_); rintro e W9 ⟨rfl, rfl⟩) | ((with_reducible refine (H_f _).out.mono ?_); rintro e W9 ⟨rfl, rfl⟩) | ((with_reducible refine (H_p _).out.mono ?_); rintro e W9 ⟨rfl, rfl⟩) | ((with_reducible refine (H_e _).out.mono ?_); rintro e W9 ⟨rfl, rfl⟩) | ((with_reducible refine (H_s _).out.mono ?_); rintro e W9 ⟨rfl, rfl⟩))
  go_ret
  exact ⟨ret_bB (by rw [HM.out]; exact (decide_eq_false (by omega)).symm), HX.out⟩
 by_cases k2 : 255 < a
 ·skip
  go_wp2_with (go_at_call 116; first | ((with_reducible refine (H_v _).out.mono ?_); rintro e W9 ⟨rfl, rfl⟩) | ((with_reducible refine (H_a _).out.mono ?_); rintro e W9 ⟨rfl, rfl⟩) | ((with_reducible refine (H_l _).out.mono ?_); rintro e W9 ⟨rfl, rfl⟩) | ((with_reducible refine (H_n _).out.mono ?_); rintro e W9 ⟨rfl, rfl⟩) | ((with_reducible refine (H_f _).out.mono ?_); rintro e W9 ⟨rfl, rfl⟩) | ((with_reducible refine (H_p _).out.mono ?_); rintro e W9 ⟨rfl, rfl⟩) | ((with_reducible refine (H_e _).out.mono ?_); rintro e W9 ⟨rfl, rfl⟩) | ((with_reducible refine (H_s _).out.mono ?_); rintro e W9 ⟨rfl, rfl⟩))
  go_ret
  exact ⟨ret_bB (by rw [HM.out]; exact (decide_eq_false (by omega)).symm), HX.out⟩
 go_upto_region 8 with (go_at_call 116; first | ((with_reducible refine (H_v _).out.mono ?_); rintro e W9 ⟨rfl, rfl⟩) | ((with_reducible refine (H_a _).out.mono ?_); rintro e W9 ⟨rfl, rfl⟩) | ((with_reducible refine (H_l _).out.mono ?_); rintro e W9 ⟨rfl, rfl⟩) | ((with_reducible refine (H_n _).out.mono ?_); rintro e W9 ⟨rfl, rfl⟩) | ((with_reducible refine (H_f _).out.mono ?_); rintro e W9 ⟨rfl, rfl⟩) | ((with_reducible refine (H_p _).out.mono ?_); rintro e W9 ⟨rfl, rfl⟩) | ((with_reducible refine (H_e _).out.mono ?_); rintro e W9 ⟨rfl, rfl⟩) | ((with_reducible refine (H_s _).out.mono ?_); rintro e W9 ⟨rfl, rfl⟩))
 have G_a : Hid (¬ a < 1 ∧ ¬ 255 < a) := Lib.hid (by omega)
 clear k1 k2
 go_upto_region 12 with (go_at_call 116; first | ((with_reducible refine (H_v _).out.mono ?_); rintro e W9 ⟨rfl, rfl⟩) | ((with_reducible refine (H_a _).out.mono ?_); rintro e W9 ⟨rfl, rfl⟩) | ((with_reducible refine (H_l _).out.mono ?_); rintro e W9 ⟨rfl, rfl⟩) | ((with_reducible refine (H_n _).out.mono ?_); rintro e W9 ⟨rfl, rfl⟩) | ((with_reducible refine (H_f _).out.mono ?_); rintro e W9 ⟨rfl, rfl⟩) | ((with_reducible refine (H_p _).out.mono ?_); rintro e W9 ⟨rfl, rfl⟩) | ((with_reducible refine (H_e _).out.mono ?_); rintro e W9 ⟨rfl, rfl⟩) | ((with_reducible refine (H_s _).out.mono ?_); rintro e W9 ⟨rfl, rfl⟩))
 go_upto_region 14 with (go_at_call 116; first | ((with_reducible refine (H_v _).out.mono ?_); rintro e W9 ⟨rfl, rfl⟩) | ((with_reducible refine (H_a _).out.mono ?_); rintro e W9 ⟨rfl, rfl⟩) | ((with_reducible refine (H_l _).out.mono ?_); rintro e W9 ⟨rfl, rfl⟩) | ((with_reducible refine (H_n _).out.mono ?_); rintro e W9 ⟨rfl, rfl⟩) | ((with_reducible refine (H_f _).out.mono ?_); rintro e W9 ⟨rfl, rfl⟩) | ((with_reducible refine (H_p _).out.mono ?_); rintro e W9 ⟨rfl, rfl⟩) | ((with_reducible refine (H_e _).out.mono ?_); rintro e W9 ⟨rfl, rfl⟩) | ((with_reducible refine (H_s _).out.mono ?_); rintro e W9 ⟨rfl, rfl⟩))
 by_cases k1 : n < 1
 ·skip
  go_wp2_with (go_at_call 116; first | ((with_reducible refine (H_v _).out.mono ?_); rintro e W9 ⟨rfl, rfl⟩) | ((with_reducible refine (H_a _).out.mono ?_); rintro e W9 ⟨rfl, rfl⟩) | ((with_reducible refine (H_l _).out.mono ?_); rintro e W9 ⟨rfl, rfl⟩) | ((with_reducible refine (H_n _).out.mono ?_); rintro e W9 ⟨rfl, rfl⟩) | ((with_reducible refine (H_f _).out.mono ?_); rintro e W9 ⟨rfl, rfl⟩) | ((with_reducible refine (H_p _).out.mono ?_); rintro e W9 ⟨rfl, rfl⟩) | ((with_reducible refine (H_e _).out.mono ?_); rintro e W9 ⟨rfl, rfl⟩) | ((with_reducible refine (H_s _).out.mono ?_); rintro e W9 ⟨rfl, rfl⟩))
  go_ret
  exact ⟨ret_bB (by rw [HM.out]; exact (decide_eq_false (by omega)).symm), HX.out⟩
 by_cases k2 : 16 < n
 ·skip
  go_wp2_with (go_at_call 116; first | ((with_reducible refine (H_v _).out.mono ?_); rintro e W9 ⟨rfl, rfl⟩) | ((with_reducible refine (H_a _).out.mono ?_); rintro e W9 ⟨rfl, rfl⟩) | ((with_reducible refine (H_l _).out.mono ?_); rintro e W9 ⟨rfl, rfl⟩) | ((with_reducible refine (H_n _).out.mono ?_); rintro e W9 ⟨rfl, rfl⟩) | ((with_reducible refine (H_f _).out.mono ?_); rintro e W9 ⟨rfl, rfl⟩) | ((with_reducible refine (H_p _).out.mono ?_); rintro e W9 ⟨rfl, rfl⟩) | ((with_reducible refine (H_e _).out.mono ?_); rintro e W9 ⟨rfl, rfl⟩) | ((with_reducible refine (H_s _).out.mono ?_); rintro e W9 ⟨rfl, rfl⟩))
  go_ret
  exact ⟨ret_bB (by rw [HM.out]; exact (decide_eq_false (by omega)).symm), HX.out⟩
 go_upto_region 16 with (go_at_call 116; first | ((with_reducible refine (H_v _).out.mono ?_); rintro e W9 ⟨rfl, rfl⟩) | ((with_reducible refine (H_a _).out.mono ?_); rintro e W9 ⟨rfl, rfl⟩) | ((with_reducible refine (H_l _).out.mono ?_); rintro e W9 ⟨rfl, rfl⟩) | ((with_reducible refine (H_n _).out.mono ?_); rintro e W9 ⟨rfl, rfl⟩) | ((with_reducible refine (H_f _).out.mono ?_); rintro e W9 ⟨rfl, rfl⟩) | ((with_reducible refine (H_p _).out.mono ?_); rintro e W9 ⟨rfl, rfl⟩) | ((with_reducible refine (H_e _).out.mono ?_); rintro e W9 ⟨rfl, rfl⟩) | ((with_reducible refine (H_s _).out.mono ?_); rintro e W9 ⟨rfl, rfl⟩))
 have G_n : Hid (¬ n < 1 ∧ ¬ 16 < n) := Lib.hid (by omega)
 clear k1 k2
 go_upto_region 18 with (go_at_call 116; first | ((with_reducible refine (H_v _).out.mono ?_); rintro e W9 ⟨rfl, rfl⟩) | ((with_reducible refine (H_a _).out.mono ?_); rintro e W9 ⟨rfl, rfl⟩) | ((with_reducible refine (H_l _).out.mono ?_); rintro e W9 ⟨rfl, rfl⟩) | ((with_reducible refine (H_n _).out.mono ?_); rintro e W9 ⟨rfl, rfl⟩) | ((with_reducible refine (H_f _).out.mono ?_); rintro e W9 ⟨rfl, rfl⟩) | ((with_reducible refine (H_p _).out.mono ?_); rintro e W9 ⟨rfl, rfl⟩) | ((with_reducible refine (H_e _).out.mono ?_); rintro e W9 ⟨rfl, rfl⟩) | ((with_reducible refine (H_s _).out.mono ?_); rintro e W9 ⟨rfl, rfl⟩))
 go_wp2_with (go_at_call 116; first | ((with_reducible refine (H_v _).out.mono ?_); rintro e W9 ⟨rfl, rfl⟩) | ((with_reducible refine (H_a _).out.mono ?_); rintro e W9 ⟨rfl, rfl⟩) | ((with_reducible refine (H_l _).out.mono ?_); rintro e W9 ⟨rfl, rfl⟩) | ((with_reducible refine (H_n _).out.mono ?_); rintro e W9 ⟨rfl, rfl⟩) | ((with_reducible refine (H_f _).out.mono ?_); rintro e W9 ⟨rfl, rfl⟩) | ((with_reducible refine (H_p _).out.mono ?_); rintro e W9 ⟨rfl, rfl⟩) | ((with_reducible refine (H_e _).out.mono ?_); rintro e W9 ⟨rfl, rfl⟩) | ((with_reducible refine (H_s _).out.mono ?_); rintro e W9 ⟨rfl, rfl⟩))
 go_ret
 exact ⟨ret_bB (by rw [HM.out]; exact (decide_eq_true (by have g1 := G_v.out; have g2 := G_a.out; have g3 := G_n.out; omega)).symm), HX.out⟩
set_option maxRecDepth 100000 in
set_option maxHeartbeats 2000000 in
theorem rMay_v (op n v a : Int) (s : ByteArray) (w : World) (ho : 0 ≤ op ∧ op < 31) (hn : nameF op ≠ []) (hs : ¬ 64 < s.size) (hf : formL op = [118]) (hm : insMay ⟨op, s, n, v, a⟩ = decide ((-64 ≤ v ∧ v ≤ 255 ∧ v ≠ 0) ∧ (a = 0) ∧ (n = 0) ∧ (s.size = 0))) :
  Calls Tryz.prog 72 #[insVal ⟨op, s, n, v, a⟩] w fun e w' => e = .returned (.bool (insMay ⟨op, s, n, v, a⟩)) ∧ Ext w w' := by
 have HM := Lib.hid hm
 obtain ⟨R, hR⟩ : ∃ R, insMay ⟨op, s, n, v, a⟩ = R := ⟨_, rfl⟩
 rw [hR] at HM ⊢
 have hx := ext_boxI w (.cells #[.int .i64 op, .string s, .int .i64 n, .int .i64 v, .int .i64 a] 25)
 have HB := Lib.hid (Blk.new w 25 #[.int .i64 op, .string s, .int .i64 n, .int .i64 v, .int .i64 a])
 have HX0 := Lib.hid hx
 have HN := Lib.hid (rName_any op (w.alloc (.cells #[.int .i64 op, .string s, .int .i64 n, .int .i64 v, .int .i64 a] 25)))
 have HF := fun W => Lib.hid (rForm_any op ho.1 ho.2 W)
 rw [hf] at HF
 have q0 := HB.out.cell 0
 have q1 := HB.out.cell 1
 have hn1 : ((mkB (nameF op)).toList == []) = false := by
  rw [ByteArray.toList_eq, mkB_list]
  simpa using hn
 have hn2 : (mkB (nameF op)).toList ≠ [] := by
  rw [ByteArray.toList_eq, mkB_list]
  exact hn
 have hn3 : (mkB (nameF op)).toList.isEmpty = false := by simpa using hn2
 have hs64 : ¬ (64 : Int) < (s.size : Int) := by omega
 have H_v := fun W => Lib.hid (rHas_lit (mkB [118]) 118 true 118 rfl (by decide) (by decide +kernel) W)
 have H_a := fun W => Lib.hid (rHas_lit (mkB [118]) 97 false 97 rfl (by decide) (by decide +kernel) W)
 have H_l := fun W => Lib.hid (rHas_lit (mkB [118]) 108 false 108 rfl (by decide) (by decide +kernel) W)
 have H_n := fun W => Lib.hid (rHas_lit (mkB [118]) 110 false 110 rfl (by decide) (by decide +kernel) W)
 have H_f := fun W => Lib.hid (rHas_lit (mkB [118]) 102 false 102 rfl (by decide) (by decide +kernel) W)
 have H_p := fun W => Lib.hid (rHas_lit (mkB [118]) 112 false 112 rfl (by decide) (by decide +kernel) W)
 have H_e := fun W => Lib.hid (rHas_lit (mkB [118]) 101 false 101 rfl (by decide) (by decide +kernel) W)
 have H_s := fun W => Lib.hid (rHas_lit (mkB [118]) 115 false 115 rfl (by decide) (by decide +kernel) W)
 generalize mkB (nameF op) = nm at *
 unfold insVal
 clear hm hR hx hf hn hs ho
 go_enter Tryz.func72, Tryz.ntmps72
 go_upto_region 3 with (go_at_call 14; refine HN.out.mono ?_; rintro e W1 ⟨rfl, x1⟩; have HX1 := Lib.hid x1; have p0 := x1.cell q0; have p1 := x1.cell q1; clear x1)
 go_upto_region 4 with (go_at_call 73; refine (HF _).out.mono ?_; rintro e W2 ⟨rfl, x2⟩; have HX := Lib.hid ((HX0.out.trans HX1.out).trans x2); have hb := HB.out.ext (HX1.out.trans x2); have y1 := hb.cell 1; have y2 := hb.cell 2; have y3 := hb.cell 3; have y4 := hb.cell 4; clear x2 hb)
 simp only [List.getElem?_toArray, List.getElem?_cons_zero, List.getElem?_cons_succ] at y1 y2 y3 y4
 clear q0 q1 p0 p1 HN HF HB HX0 HX1 hn1 hn2 hn3 hs64
 by_cases k1 : v < -64
 ·skip
  go_wp2_with (go_at_call 116; first | ((with_reducible refine (H_v _).out.mono ?_); rintro e W9 ⟨rfl, rfl⟩) | ((with_reducible refine (H_a _).out.mono ?_); rintro e W9 ⟨rfl, rfl⟩) | ((with_reducible refine (H_l _).out.mono ?_); rintro e W9 ⟨rfl, rfl⟩) | ((with_reducible refine (H_n _).out.mono ?_); rintro e W9 ⟨rfl, rfl⟩) | ((with_reducible refine (H_f _).out.mono ?_); rintro e W9 ⟨rfl, rfl⟩) | ((with_reducible refine (H_p _).out.mono ?_); rintro e W9 ⟨rfl, rfl⟩) | ((with_reducible refine (H_e _).out.mono ?_); rintro e W9 ⟨rfl, rfl⟩) | ((with_reducible refine (H_s _).out.mono ?_); rintro e W9 ⟨rfl, rfl⟩))
  go_ret
  exact ⟨ret_bB (by rw [HM.out]; exact (decide_eq_false (by omega)).symm), HX.out⟩
 by_cases k2 : 255 < v
 ·skip
  go_wp2_with (go_at_call 116; first | ((with_reducible refine (H_v _).out.mono ?_); rintro e W9 ⟨rfl, rfl⟩) | ((with_reducible refine (H_a _).out.mono ?_); rintro e W9 ⟨rfl, rfl⟩) | ((with_reducible refine (H_l _).out.mono ?_); rintro e W9 ⟨rfl, rfl⟩) | ((with_reducible refine (H_n _).out.mono ?_); rintro e W9 ⟨rfl, rfl⟩) | ((with_reducible refine (H_f _).out.mono ?_); rintro e W9 ⟨rfl, rfl⟩) | ((with_reducible refine (H_p _).out.mono ?_); rintro e W9 ⟨rfl, rfl⟩) | ((with_reducible refine (H_e _).out.mono ?_); rintro e W9 ⟨rfl, rfl⟩) | ((with_reducible refine (H_s _).out.mono ?_); rintro e W9 ⟨rfl, rfl⟩))
  go_ret
  exact ⟨ret_bB (by rw [HM.out]; exact (decide_eq_false (by omega)).symm), HX.out⟩
 by_cases k3 : v = 0
 ·have k4 : (v == 0) = true := by simpa using k3
  have HZ := Lib.hid k3
  clear k3
  go_wp2_with (go_at_call 116; first | ((with_reducible refine (H_v _).out.mono ?_); rintro e W9 ⟨rfl, rfl⟩) | ((with_reducible refine (H_a _).out.mono ?_); rintro e W9 ⟨rfl, rfl⟩) | ((with_reducible refine (H_l _).out.mono ?_); rintro e W9 ⟨rfl, rfl⟩) | ((with_reducible refine (H_n _).out.mono ?_); rintro e W9 ⟨rfl, rfl⟩) | ((with_reducible refine (H_f _).out.mono ?_); rintro e W9 ⟨rfl, rfl⟩) | ((with_reducible refine (H_p _).out.mono ?_); rintro e W9 ⟨rfl, rfl⟩) | ((with_reducible refine (H_e _).out.mono ?_); rintro e W9 ⟨rfl, rfl⟩) | ((with_reducible refine (H_s _).out.mono ?_); rintro e W9 ⟨rfl, rfl⟩))
  go_ret
  exact ⟨ret_bB (by rw [HM.out]; exact (decide_eq_false (by have := HZ.out; omega)).symm), HX.out⟩
 have k4 : (v == 0) = false := by simpa using k3
 have HZ := Lib.hid k3
 clear k3
 go_upto_region 6 with (go_at_call 116; first | ((with_reducible refine (H_v _).out.mono ?_); rintro e W9 ⟨rfl, rfl⟩) | ((with_reducible refine (H_a _).out.mono ?_); rintro e W9 ⟨rfl, rfl⟩) | ((with_reducible refine (H_l _).out.mono ?_); rintro e W9 ⟨rfl, rfl⟩) | ((with_reducible refine (H_n _).out.mono ?_); rintro e W9 ⟨rfl, rfl⟩) | ((with_reducible refine (H_f _).out.mono ?_); rintro e W9 ⟨rfl, rfl⟩) | ((with_reducible refine (H_p _).out.mono ?_); rintro e W9 ⟨rfl, rfl⟩) | ((with_reducible refine (H_e _).out.mono ?_); rintro e W9 ⟨rfl, rfl⟩) | ((with_reducible refine (H_s _).out.mono ?_); rintro e W9 ⟨rfl, rfl⟩))
 have G_v : Hid (¬ v < -64 ∧ ¬ 255 < v ∧ ¬ v = 0) := Lib.hid (by have := HZ.out; omega)
 clear k1 k2 k4 HZ
 go_upto_region 10 with (go_at_call 116; first | ((with_reducible refine (H_v _).out.mono ?_); rintro e W9 ⟨rfl, rfl⟩) | ((with_reducible refine (H_a _).out.mono ?_); rintro e W9 ⟨rfl, rfl⟩) | ((with_reducible refine (H_l _).out.mono ?_); rintro e W9 ⟨rfl, rfl⟩) | ((with_reducible refine (H_n _).out.mono ?_); rintro e W9 ⟨rfl, rfl⟩) | ((with_reducible refine (H_f _).out.mono ?_); rintro e W9 ⟨rfl, rfl⟩) | ((with_reducible refine (H_p _).out.mono ?_); rintro e W9 ⟨rfl, rfl⟩) | ((with_reducible refine (H_e _).out.mono ?_); rintro e W9 ⟨rfl, rfl⟩) | ((with_reducible refine (H_s _).out.mono ?_); rintro e W9 ⟨rfl, rfl⟩))
 by_cases k3 : a = 0
 case neg =>
  have k4 : (a == 0) = false := by simpa using k3
  have k5 : (a != 0) = true := by simpa using k3
  have HZ := Lib.hid k3
  clear k3
  go_wp2_with (go_at_call 116; first | ((with_reducible refine (H_v _).out.mono ?_); rintro e W9 ⟨rfl, rfl⟩) | ((with_reducible refine (H_a _).out.mono ?_); rintro e W9 ⟨rfl, rfl⟩) | ((with_reducible refine (H_l _).out.mono ?_); rintro e W9 ⟨rfl, rfl⟩) | ((with_reducible refine (H_n _).out.mono ?_); rintro e W9 ⟨rfl, rfl⟩) | ((with_reducible refine (H_f _).out.mono ?_); rintro e W9 ⟨rfl, rfl⟩) | ((with_reducible refine (H_p _).out.mono ?_); rintro e W9 ⟨rfl, rfl⟩) | ((with_reducible refine (H_e _).out.mono ?_); rintro e W9 ⟨rfl, rfl⟩) | ((with_reducible refine (H_s _).out.mono ?_); rintro e W9 ⟨rfl, rfl⟩))
  go_ret
  exact ⟨ret_bB (by rw [HM.out]; exact (decide_eq_false (by have := HZ.out; omega)).symm), HX.out⟩
 have k4 : (a == 0) = true := by simpa using k3
 have k5 : (a != 0) = false := by simpa using k3
 have G_a := Lib.hid k3
 clear k3
 go_upto_region 12 with (go_at_call 116; first | ((with_reducible refine (H_v _).out.mono ?_); rintro e W9 ⟨rfl, rfl⟩) | ((with_reducible refine (H_a _).out.mono ?_); rintro e W9 ⟨rfl, rfl⟩) | ((with_reducible refine (H_l _).out.mono ?_); rintro e W9 ⟨rfl, rfl⟩) | ((with_reducible refine (H_n _).out.mono ?_); rintro e W9 ⟨rfl, rfl⟩) | ((with_reducible refine (H_f _).out.mono ?_); rintro e W9 ⟨rfl, rfl⟩) | ((with_reducible refine (H_p _).out.mono ?_); rintro e W9 ⟨rfl, rfl⟩) | ((with_reducible refine (H_e _).out.mono ?_); rintro e W9 ⟨rfl, rfl⟩) | ((with_reducible refine (H_s _).out.mono ?_); rintro e W9 ⟨rfl, rfl⟩))
 clear k4 k5
 go_upto_region 16 with (go_at_call 116; first | ((with_reducible refine (H_v _).out.mono ?_); rintro e W9 ⟨rfl, rfl⟩) | ((with_reducible refine (H_a _).out.mono ?_); rintro e W9 ⟨rfl, rfl⟩) | ((with_reducible refine (H_l _).out.mono ?_); rintro e W9 ⟨rfl, rfl⟩) | ((with_reducible refine (H_n _).out.mono ?_); rintro e W9 ⟨rfl, rfl⟩) | ((with_reducible refine (H_f _).out.mono ?_); rintro e W9 ⟨rfl, rfl⟩) | ((with_reducible refine (H_p _).out.mono ?_); rintro e W9 ⟨rfl, rfl⟩) | ((with_reducible refine (H_e _).out.mono ?_); rintro e W9 ⟨rfl, rfl⟩) | ((with_reducible refine (H_s _).out.mono ?_); rintro e W9 ⟨rfl, rfl⟩))
 by_cases k3 : n = 0
 case neg =>
  have k4 : (n == 0) = false := by simpa using k3
  have k5 : (n != 0) = true := by simpa using k3
  have HZ := Lib.hid k3
  clear k3
  go_wp2_with (go_at_call 116; first | ((with_reducible refine (H_v _).out.mono ?_); rintro e W9 ⟨rfl, rfl⟩) | ((with_reducible refine (H_a _).out.mono ?_); rintro e W9 ⟨rfl, rfl⟩) | ((with_reducible refine (H_l _).out.mono ?_); rintro e W9 ⟨rfl, rfl⟩) | ((with_reducible refine (H_n _).out.mono ?_); rintro e W9 ⟨rfl, rfl⟩) | ((with_reducible refine (H_f _).out.mono ?_); rintro e W9 ⟨rfl, rfl⟩) | ((with_reducible refine (H_p _).out.mono ?_); rintro e W9 ⟨rfl, rfl⟩) | ((with_reducible refine (H_e _).out.mono ?_); rintro e W9 ⟨rfl, rfl⟩) | ((with_reducible refine (H_s _).out.mono ?_); rintro e W9 ⟨rfl, rfl⟩))
  go_ret
  exact ⟨ret_bB (by rw [HM.out]; exact (decide_eq_false (by have := HZ.out; omega)).symm), HX.out⟩
 have k4 : (n == 0) = true := by simpa using k3
 have k5 : (n != 0) = false := by simpa using k3
 have G_n := Lib.hid k3
 clear k3
 go_upto_region 18 with (go_at_call 116; first | ((with_reducible refine (H_v _).out.mono ?_); rintro e W9 ⟨rfl, rfl⟩) | ((with_reducible refine (H_a _).out.mono ?_); rintro e W9 ⟨rfl, rfl⟩) | ((with_reducible refine (H_l _).out.mono ?_); rintro e W9 ⟨rfl, rfl⟩) | ((with_reducible refine (H_n _).out.mono ?_); rintro e W9 ⟨rfl, rfl⟩) | ((with_reducible refine (H_f _).out.mono ?_); rintro e W9 ⟨rfl, rfl⟩) | ((with_reducible refine (H_p _).out.mono ?_); rintro e W9 ⟨rfl, rfl⟩) | ((with_reducible refine (H_e _).out.mono ?_); rintro e W9 ⟨rfl, rfl⟩) | ((with_reducible refine (H_s _).out.mono ?_); rintro e W9 ⟨rfl, rfl⟩))
 clear k4 k5
 by_cases k3 : s.size = 0
 ·have e1 := str_empty k3
  have e2 : (s.toList == []) = true := by rw [e1]; rfl
  have e3 : s.toList.isEmpty = true := by rw [e1]; rfl
  have HZ := Lib.hid k3
  clear k3
  go_wp2_with (go_at_call 116; first | ((with_reducible refine (H_v _).out.mono ?_); rintro e W9 ⟨rfl, rfl⟩) | ((with_reducible refine (H_a _).out.mono ?_); rintro e W9 ⟨rfl, rfl⟩) | ((with_reducible refine (H_l _).out.mono ?_); rintro e W9 ⟨rfl, rfl⟩) | ((with_reducible refine (H_n _).out.mono ?_); rintro e W9 ⟨rfl, rfl⟩) | ((with_reducible refine (H_f _).out.mono ?_); rintro e W9 ⟨rfl, rfl⟩) | ((with_reducible refine (H_p _).out.mono ?_); rintro e W9 ⟨rfl, rfl⟩) | ((with_reducible refine (H_e _).out.mono ?_); rintro e W9 ⟨rfl, rfl⟩) | ((with_reducible refine (H_s _).out.mono ?_); rintro e W9 ⟨rfl, rfl⟩))
  go_ret
  exact ⟨ret_bB (by rw [HM.out]; exact (decide_eq_true (by have g1 := G_v.out; have g2 := G_a.out; have g3 := G_n.out; have g4 := HZ.out; omega)).symm), HX.out⟩
 ·have e1 := str_full k3
  have e2 : (s.toList == []) = false := by simpa using e1
  have e3 : s.toList.isEmpty = false := by simpa using e1
  have HZ := Lib.hid k3
  clear k3
  go_wp2_with (go_at_call 116; first | ((with_reducible refine (H_v _).out.mono ?_); rintro e W9 ⟨rfl, rfl⟩) | ((with_reducible refine (H_a _).out.mono ?_); rintro e W9 ⟨rfl, rfl⟩) | ((with_reducible refine (H_l _).out.mono ?_); rintro e W9 ⟨rfl, rfl⟩) | ((with_reducible refine (H_n _).out.mono ?_); rintro e W9 ⟨rfl, rfl⟩) | ((with_reducible refine (H_f _).out.mono ?_); rintro e W9 ⟨rfl, rfl⟩) | ((with_reducible refine (H_p _).out.mono ?_); rintro e W9 ⟨rfl, rfl⟩) | ((with_reducible refine (H_e _).out.mono ?_); rintro e W9 ⟨rfl, rfl⟩) | ((with_reducible refine (H_s _).out.mono ?_); rintro e W9 ⟨rfl, rfl⟩))
  go_ret
  exact ⟨ret_bB (by rw [HM.out]; exact (decide_eq_false (by have g4 := HZ.out; omega)).symm), HX.out⟩
set_option maxRecDepth 100000 in
set_option maxHeartbeats 2000000 in
theorem rMay_s (op n v a : Int) (s : ByteArray) (w : World) (ho : 0 ≤ op ∧ op < 31) (hn : nameF op ≠ []) (hs : ¬ 64 < s.size) (hf : formL op = [115]) (hm : insMay ⟨op, s, n, v, a⟩ = decide ((v = 0) ∧ (a = 0) ∧ (n = 0) ∧ (0 ≤ s.size))) :
  Calls Tryz.prog 72 #[insVal ⟨op, s, n, v, a⟩] w fun e w' => e = .returned (.bool (insMay ⟨op, s, n, v, a⟩)) ∧ Ext w w' := by
 have HM := Lib.hid hm
 obtain ⟨R, hR⟩ : ∃ R, insMay ⟨op, s, n, v, a⟩ = R := ⟨_, rfl⟩
 rw [hR] at HM ⊢
 have hx := ext_boxI w (.cells #[.int .i64 op, .string s, .int .i64 n, .int .i64 v, .int .i64 a] 25)
 have HB := Lib.hid (Blk.new w 25 #[.int .i64 op, .string s, .int .i64 n, .int .i64 v, .int .i64 a])
 have HX0 := Lib.hid hx
 have HN := Lib.hid (rName_any op (w.alloc (.cells #[.int .i64 op, .string s, .int .i64 n, .int .i64 v, .int .i64 a] 25)))
 have HF := fun W => Lib.hid (rForm_any op ho.1 ho.2 W)
 rw [hf] at HF
 have q0 := HB.out.cell 0
 have q1 := HB.out.cell 1
 have hn1 : ((mkB (nameF op)).toList == []) = false := by
  rw [ByteArray.toList_eq, mkB_list]
  simpa using hn
 have hn2 : (mkB (nameF op)).toList ≠ [] := by
  rw [ByteArray.toList_eq, mkB_list]
  exact hn
 have hn3 : (mkB (nameF op)).toList.isEmpty = false := by simpa using hn2
 have hs64 : ¬ (64 : Int) < (s.size : Int) := by omega
 have H_v := fun W => Lib.hid (rHas_lit (mkB [115]) 118 false 118 rfl (by decide) (by decide +kernel) W)
 have H_a := fun W => Lib.hid (rHas_lit (mkB [115]) 97 false 97 rfl (by decide) (by decide +kernel) W)
 have H_l := fun W => Lib.hid (rHas_lit (mkB [115]) 108 false 108 rfl (by decide) (by decide +kernel) W)
 have H_n := fun W => Lib.hid (rHas_lit (mkB [115]) 110 false 110 rfl (by decide) (by decide +kernel) W)
 have H_f := fun W => Lib.hid (rHas_lit (mkB [115]) 102 false 102 rfl (by decide) (by decide +kernel) W)
 have H_p := fun W => Lib.hid (rHas_lit (mkB [115]) 112 false 112 rfl (by decide) (by decide +kernel) W)
 have H_e := fun W => Lib.hid (rHas_lit (mkB [115]) 101 false 101 rfl (by decide) (by decide +kernel) W)
 have H_s := fun W => Lib.hid (rHas_lit (mkB [115]) 115 true 115 rfl (by decide) (by decide +kernel) W)
 generalize mkB (nameF op) = nm at *
 unfold insVal
 clear hm hR hx hf hn hs ho
 go_enter Tryz.func72, Tryz.ntmps72
 go_upto_region 3 with (go_at_call 14; refine HN.out.mono ?_; rintro e W1 ⟨rfl, x1⟩; have HX1 := Lib.hid x1; have p0 := x1.cell q0; have p1 := x1.cell q1; clear x1)
 go_upto_region 4 with (go_at_call 73; refine (HF _).out.mono ?_; rintro e W2 ⟨rfl, x2⟩; have HX := Lib.hid ((HX0.out.trans HX1.out).trans x2); have hb := HB.out.ext (HX1.out.trans x2); have y1 := hb.cell 1; have y2 := hb.cell 2; have y3 := hb.cell 3; have y4 := hb.cell 4; clear x2 hb)
 simp only [List.getElem?_toArray, List.getElem?_cons_zero, List.getElem?_cons_succ] at y1 y2 y3 y4
 clear q0 q1 p0 p1 HN HF HB HX0 HX1 hn1 hn2 hn3 hs64
 by_cases k3 : v = 0
 case neg =>
  have k4 : (v == 0) = false := by simpa using k3
  have k5 : (v != 0) = true := by simpa using k3
  have HZ := Lib.hid k3
  clear k3
  go_wp2_with (go_at_call 116; first | ((with_reducible refine (H_v _).out.mono ?_); rintro e W9 ⟨rfl, rfl⟩) | ((with_reducible refine (H_a _).out.mono ?_); rintro e W9 ⟨rfl, rfl⟩) | ((with_reducible refine (H_l _).out.mono ?_); rintro e W9 ⟨rfl, rfl⟩) | ((with_reducible refine (H_n _).out.mono ?_); rintro e W9 ⟨rfl, rfl⟩) | ((with_reducible refine (H_f _).out.mono ?_); rintro e W9 ⟨rfl, rfl⟩) | ((with_reducible refine (H_p _).out.mono ?_); rintro e W9 ⟨rfl, rfl⟩) | ((with_reducible refine (H_e _).out.mono ?_); rintro e W9 ⟨rfl, rfl⟩) | ((with_reducible refine (H_s _).out.mono ?_); rintro e W9 ⟨rfl, rfl⟩))
  go_ret
  exact ⟨ret_bB (by rw [HM.out]; exact (decide_eq_false (by have := HZ.out; omega)).symm), HX.out⟩
 have k4 : (v == 0) = true := by simpa using k3
 have k5 : (v != 0) = false := by simpa using k3
 have G_v := Lib.hid k3
 clear k3
 go_upto_region 6 with (go_at_call 116; first | ((with_reducible refine (H_v _).out.mono ?_); rintro e W9 ⟨rfl, rfl⟩) | ((with_reducible refine (H_a _).out.mono ?_); rintro e W9 ⟨rfl, rfl⟩) | ((with_reducible refine (H_l _).out.mono ?_); rintro e W9 ⟨rfl, rfl⟩) | ((with_reducible refine (H_n _).out.mono ?_); rintro e W9 ⟨rfl, rfl⟩) | ((with_reducible refine (H_f _).out.mono ?_); rintro e W9 ⟨rfl, rfl⟩) | ((with_reducible refine (H_p _).out.mono ?_); rintro e W9 ⟨rfl, rfl⟩) | ((with_reducible refine (H_e _).out.mono ?_); rintro e W9 ⟨rfl, rfl⟩) | ((with_reducible refine (H_s _).out.mono ?_); rintro e W9 ⟨rfl, rfl⟩))
 clear k4 k5
 go_upto_region 10 with (go_at_call 116; first | ((with_reducible refine (H_v _).out.mono ?_); rintro e W9 ⟨rfl, rfl⟩) | ((with_reducible refine (H_a _).out.mono ?_); rintro e W9 ⟨rfl, rfl⟩) | ((with_reducible refine (H_l _).out.mono ?_); rintro e W9 ⟨rfl, rfl⟩) | ((with_reducible refine (H_n _).out.mono ?_); rintro e W9 ⟨rfl, rfl⟩) | ((with_reducible refine (H_f _).out.mono ?_); rintro e W9 ⟨rfl, rfl⟩) | ((with_reducible refine (H_p _).out.mono ?_); rintro e W9 ⟨rfl, rfl⟩) | ((with_reducible refine (H_e _).out.mono ?_); rintro e W9 ⟨rfl, rfl⟩) | ((with_reducible refine (H_s _).out.mono ?_); rintro e W9 ⟨rfl, rfl⟩))
 by_cases k3 : a = 0
 case neg =>
  have k4 : (a == 0) = false := by simpa using k3
  have k5 : (a != 0) = true := by simpa using k3
  have HZ := Lib.hid k3
  clear k3
  go_wp2_with (go_at_call 116; first | ((with_reducible refine (H_v _).out.mono ?_); rintro e W9 ⟨rfl, rfl⟩) | ((with_reducible refine (H_a _).out.mono ?_); rintro e W9 ⟨rfl, rfl⟩) | ((with_reducible refine (H_l _).out.mono ?_); rintro e W9 ⟨rfl, rfl⟩) | ((with_reducible refine (H_n _).out.mono ?_); rintro e W9 ⟨rfl, rfl⟩) | ((with_reducible refine (H_f _).out.mono ?_); rintro e W9 ⟨rfl, rfl⟩) | ((with_reducible refine (H_p _).out.mono ?_); rintro e W9 ⟨rfl, rfl⟩) | ((with_reducible refine (H_e _).out.mono ?_); rintro e W9 ⟨rfl, rfl⟩) | ((with_reducible refine (H_s _).out.mono ?_); rintro e W9 ⟨rfl, rfl⟩))
  go_ret
  exact ⟨ret_bB (by rw [HM.out]; exact (decide_eq_false (by have := HZ.out; omega)).symm), HX.out⟩
 have k4 : (a == 0) = true := by simpa using k3
 have k5 : (a != 0) = false := by simpa using k3
 have G_a := Lib.hid k3
 clear k3
 go_upto_region 12 with (go_at_call 116; first | ((with_reducible refine (H_v _).out.mono ?_); rintro e W9 ⟨rfl, rfl⟩) | ((with_reducible refine (H_a _).out.mono ?_); rintro e W9 ⟨rfl, rfl⟩) | ((with_reducible refine (H_l _).out.mono ?_); rintro e W9 ⟨rfl, rfl⟩) | ((with_reducible refine (H_n _).out.mono ?_); rintro e W9 ⟨rfl, rfl⟩) | ((with_reducible refine (H_f _).out.mono ?_); rintro e W9 ⟨rfl, rfl⟩) | ((with_reducible refine (H_p _).out.mono ?_); rintro e W9 ⟨rfl, rfl⟩) | ((with_reducible refine (H_e _).out.mono ?_); rintro e W9 ⟨rfl, rfl⟩) | ((with_reducible refine (H_s _).out.mono ?_); rintro e W9 ⟨rfl, rfl⟩))
 clear k4 k5
 go_upto_region 16 with (go_at_call 116; first | ((with_reducible refine (H_v _).out.mono ?_); rintro e W9 ⟨rfl, rfl⟩) | ((with_reducible refine (H_a _).out.mono ?_); rintro e W9 ⟨rfl, rfl⟩) | ((with_reducible refine (H_l _).out.mono ?_); rintro e W9 ⟨rfl, rfl⟩) | ((with_reducible refine (H_n _).out.mono ?_); rintro e W9 ⟨rfl, rfl⟩) | ((with_reducible refine (H_f _).out.mono ?_); rintro e W9 ⟨rfl, rfl⟩) | ((with_reducible refine (H_p _).out.mono ?_); rintro e W9 ⟨rfl, rfl⟩) | ((with_reducible refine (H_e _).out.mono ?_); rintro e W9 ⟨rfl, rfl⟩) | ((with_reducible refine (H_s _).out.mono ?_); rintro e W9 ⟨rfl, rfl⟩))
 by_cases k3 : n = 0
 case neg =>
  have k4 : (n == 0) = false := by simpa using k3
  have k5 : (n != 0) = true := by simpa using k3
  have HZ := Lib.hid k3
  clear k3
  go_wp2_with (go_at_call 116; first | ((with_reducible refine (H_v _).out.mono ?_); rintro e W9 ⟨rfl, rfl⟩) | ((with_reducible refine (H_a _).out.mono ?_); rintro e W9 ⟨rfl, rfl⟩) | ((with_reducible refine (H_l _).out.mono ?_); rintro e W9 ⟨rfl, rfl⟩) | ((with_reducible refine (H_n _).out.mono ?_); rintro e W9 ⟨rfl, rfl⟩) | ((with_reducible refine (H_f _).out.mono ?_); rintro e W9 ⟨rfl, rfl⟩) | ((with_reducible refine (H_p _).out.mono ?_); rintro e W9 ⟨rfl, rfl⟩) | ((with_reducible refine (H_e _).out.mono ?_); rintro e W9 ⟨rfl, rfl⟩) | ((with_reducible refine (H_s _).out.mono ?_); rintro e W9 ⟨rfl, rfl⟩))
  go_ret
  exact ⟨ret_bB (by rw [HM.out]; exact (decide_eq_false (by have := HZ.out; omega)).symm), HX.out⟩
 have k4 : (n == 0) = true := by simpa using k3
 have k5 : (n != 0) = false := by simpa using k3
 have G_n := Lib.hid k3
 clear k3
 go_upto_region 18 with (go_at_call 116; first | ((with_reducible refine (H_v _).out.mono ?_); rintro e W9 ⟨rfl, rfl⟩) | ((with_reducible refine (H_a _).out.mono ?_); rintro e W9 ⟨rfl, rfl⟩) | ((with_reducible refine (H_l _).out.mono ?_); rintro e W9 ⟨rfl, rfl⟩) | ((with_reducible refine (H_n _).out.mono ?_); rintro e W9 ⟨rfl, rfl⟩) | ((with_reducible refine (H_f _).out.mono ?_); rintro e W9 ⟨rfl, rfl⟩) | ((with_reducible refine (H_p _).out.mono ?_); rintro e W9 ⟨rfl, rfl⟩) | ((with_reducible refine (H_e _).out.mono ?_); rintro e W9 ⟨rfl, rfl⟩) | ((with_reducible refine (H_s _).out.mono ?_); rintro e W9 ⟨rfl, rfl⟩))
 clear k4 k5
 go_wp2_with (go_at_call 116; first | ((with_reducible refine (H_v _).out.mono ?_); rintro e W9 ⟨rfl, rfl⟩) | ((with_reducible refine (H_a _).out.mono ?_); rintro e W9 ⟨rfl, rfl⟩) | ((with_reducible refine (H_l _).out.mono ?_); rintro e W9 ⟨rfl, rfl⟩) | ((with_reducible refine (H_n _).out.mono ?_); rintro e W9 ⟨rfl, rfl⟩) | ((with_reducible refine (H_f _).out.mono ?_); rintro e W9 ⟨rfl, rfl⟩) | ((with_reducible refine (H_p _).out.mono ?_); rintro e W9 ⟨rfl, rfl⟩) | ((with_reducible refine (H_e _).out.mono ?_); rintro e W9 ⟨rfl, rfl⟩) | ((with_reducible refine (H_s _).out.mono ?_); rintro e W9 ⟨rfl, rfl⟩))
 go_ret
 exact ⟨ret_bB (by rw [HM.out]; exact (decide_eq_true (by have g1 := G_v.out; have g2 := G_a.out; have g3 := G_n.out; omega)).symm), HX.out⟩
set_option maxRecDepth 100000 in
set_option maxHeartbeats 2000000 in
theorem rMay_n (op n v a : Int) (s : ByteArray) (w : World) (ho : 0 ≤ op ∧ op < 31) (hn : nameF op ≠ []) (hs : ¬ 64 < s.size) (hf : formL op = [110]) (hm : insMay ⟨op, s, n, v, a⟩ = decide ((v = 0) ∧ (a = 0) ∧ (-9007199254740991 ≤ n ∧ n ≤ 9007199254740991) ∧ (s.size = 0))) :
  Calls Tryz.prog 72 #[insVal ⟨op, s, n, v, a⟩] w fun e w' => e = .returned (.bool (insMay ⟨op, s, n, v, a⟩)) ∧ Ext w w' := by
 have HM := Lib.hid hm
 obtain ⟨R, hR⟩ : ∃ R, insMay ⟨op, s, n, v, a⟩ = R := ⟨_, rfl⟩
 rw [hR] at HM ⊢
 have hx := ext_boxI w (.cells #[.int .i64 op, .string s, .int .i64 n, .int .i64 v, .int .i64 a] 25)
 have HB := Lib.hid (Blk.new w 25 #[.int .i64 op, .string s, .int .i64 n, .int .i64 v, .int .i64 a])
 have HX0 := Lib.hid hx
 have HN := Lib.hid (rName_any op (w.alloc (.cells #[.int .i64 op, .string s, .int .i64 n, .int .i64 v, .int .i64 a] 25)))
 have HF := fun W => Lib.hid (rForm_any op ho.1 ho.2 W)
 rw [hf] at HF
 have q0 := HB.out.cell 0
 have q1 := HB.out.cell 1
 have hn1 : ((mkB (nameF op)).toList == []) = false := by
  rw [ByteArray.toList_eq, mkB_list]
  simpa using hn
 have hn2 : (mkB (nameF op)).toList ≠ [] := by
  rw [ByteArray.toList_eq, mkB_list]
  exact hn
 have hn3 : (mkB (nameF op)).toList.isEmpty = false := by simpa using hn2
 have hs64 : ¬ (64 : Int) < (s.size : Int) := by omega
 have H_v := fun W => Lib.hid (rHas_lit (mkB [110]) 118 false 118 rfl (by decide) (by decide +kernel) W)
 have H_a := fun W => Lib.hid (rHas_lit (mkB [110]) 97 false 97 rfl (by decide) (by decide +kernel) W)
 have H_l := fun W => Lib.hid (rHas_lit (mkB [110]) 108 false 108 rfl (by decide) (by decide +kernel) W)
 have H_n := fun W => Lib.hid (rHas_lit (mkB [110]) 110 true 110 rfl (by decide) (by decide +kernel) W)
 have H_f := fun W => Lib.hid (rHas_lit (mkB [110]) 102 false 102 rfl (by decide) (by decide +kernel) W)
 have H_p := fun W => Lib.hid (rHas_lit (mkB [110]) 112 false 112 rfl (by decide) (by decide +kernel) W)
 have H_e := fun W => Lib.hid (rHas_lit (mkB [110]) 101 false 101 rfl (by decide) (by decide +kernel) W)
 have H_s := fun W => Lib.hid (rHas_lit (mkB [110]) 115 false 115 rfl (by decide) (by decide +kernel) W)
 generalize mkB (nameF op) = nm at *
 unfold insVal
 clear hm hR hx hf hn hs ho
 go_enter Tryz.func72, Tryz.ntmps72
 go_upto_region 3 with (go_at_call 14; refine HN.out.mono ?_; rintro e W1 ⟨rfl, x1⟩; have HX1 := Lib.hid x1; have p0 := x1.cell q0; have p1 := x1.cell q1; clear x1)
 go_upto_region 4 with (go_at_call 73; refine (HF _).out.mono ?_; rintro e W2 ⟨rfl, x2⟩; have HX := Lib.hid ((HX0.out.trans HX1.out).trans x2); have hb := HB.out.ext (HX1.out.trans x2); have y1 := hb.cell 1; have y2 := hb.cell 2; have y3 := hb.cell 3; have y4 := hb.cell 4; clear x2 hb)
 simp only [List.getElem?_toArray, List.getElem?_cons_zero, List.getElem?_cons_succ] at y1 y2 y3 y4
 clear q0 q1 p0 p1 HN HF HB HX0 HX1 hn1 hn2 hn3 hs64
 by_cases k3 : v = 0
 case neg =>
  have k4 : (v == 0) = false := by simpa using k3
  have k5 : (v != 0) = true := by simpa using k3
  have HZ := Lib.hid k3
  clear k3
  go_wp2_with (go_at_call 116; first | ((with_reducible refine (H_v _).out.mono ?_); rintro e W9 ⟨rfl, rfl⟩) | ((with_reducible refine (H_a _).out.mono ?_); rintro e W9 ⟨rfl, rfl⟩) | ((with_reducible refine (H_l _).out.mono ?_); rintro e W9 ⟨rfl, rfl⟩) | ((with_reducible refine (H_n _).out.mono ?_); rintro e W9 ⟨rfl, rfl⟩) | ((with_reducible refine (H_f _).out.mono ?_); rintro e W9 ⟨rfl, rfl⟩) | ((with_reducible refine (H_p _).out.mono ?_); rintro e W9 ⟨rfl, rfl⟩) | ((with_reducible refine (H_e _).out.mono ?_); rintro e W9 ⟨rfl, rfl⟩) | ((with_reducible refine (H_s _).out.mono ?_); rintro e W9 ⟨rfl, rfl⟩))
  go_ret
  exact ⟨ret_bB (by rw [HM.out]; exact (decide_eq_false (by have := HZ.out; omega)).symm), HX.out⟩
 have k4 : (v == 0) = true := by simpa using k3
 have k5 : (v != 0) = false := by simpa using k3
 have G_v := Lib.hid k3
 clear k3
 go_upto_region 6 with (go_at_call 116; first | ((with_reducible refine (H_v _).out.mono ?_); rintro e W9 ⟨rfl, rfl⟩) | ((with_reducible refine (H_a _).out.mono ?_); rintro e W9 ⟨rfl, rfl⟩) | ((with_reducible refine (H_l _).out.mono ?_); rintro e W9 ⟨rfl, rfl⟩) | ((with_reducible refine (H_n _).out.mono ?_); rintro e W9 ⟨rfl, rfl⟩) | ((with_reducible refine (H_f _).out.mono ?_); rintro e W9 ⟨rfl, rfl⟩) | ((with_reducible refine (H_p _).out.mono ?_); rintro e W9 ⟨rfl, rfl⟩) | ((with_reducible refine (H_e _).out.mono ?_); rintro e W9 ⟨rfl, rfl⟩) | ((with_reducible refine (H_s _).out.mono ?_); rintro e W9 ⟨rfl, rfl⟩))
 clear k4 k5
 go_upto_region 10 with (go_at_call 116; first | ((with_reducible refine (H_v _).out.mono ?_); rintro e W9 ⟨rfl, rfl⟩) | ((with_reducible refine (H_a _).out.mono ?_); rintro e W9 ⟨rfl, rfl⟩) | ((with_reducible refine (H_l _).out.mono ?_); rintro e W9 ⟨rfl, rfl⟩) | ((with_reducible refine (H_n _).out.mono ?_); rintro e W9 ⟨rfl, rfl⟩) | ((with_reducible refine (H_f _).out.mono ?_); rintro e W9 ⟨rfl, rfl⟩) | ((with_reducible refine (H_p _).out.mono ?_); rintro e W9 ⟨rfl, rfl⟩) | ((with_reducible refine (H_e _).out.mono ?_); rintro e W9 ⟨rfl, rfl⟩) | ((with_reducible refine (H_s _).out.mono ?_); rintro e W9 ⟨rfl, rfl⟩))
 by_cases k3 : a = 0
 case neg =>
  have k4 : (a == 0) = false := by simpa using k3
  have k5 : (a != 0) = true := by simpa using k3
  have HZ := Lib.hid k3
  clear k3
  go_wp2_with (go_at_call 116; first | ((with_reducible refine (H_v _).out.mono ?_); rintro e W9 ⟨rfl, rfl⟩) | ((with_reducible refine (H_a _).out.mono ?_); rintro e W9 ⟨rfl, rfl⟩) | ((with_reducible refine (H_l _).out.mono ?_); rintro e W9 ⟨rfl, rfl⟩) | ((with_reducible refine (H_n _).out.mono ?_); rintro e W9 ⟨rfl, rfl⟩) | ((with_reducible refine (H_f _).out.mono ?_); rintro e W9 ⟨rfl, rfl⟩) | ((with_reducible refine (H_p _).out.mono ?_); rintro e W9 ⟨rfl, rfl⟩) | ((with_reducible refine (H_e _).out.mono ?_); rintro e W9 ⟨rfl, rfl⟩) | ((with_reducible refine (H_s _).out.mono ?_); rintro e W9 ⟨rfl, rfl⟩))
  go_ret
  exact ⟨ret_bB (by rw [HM.out]; exact (decide_eq_false (by have := HZ.out; omega)).symm), HX.out⟩
 have k4 : (a == 0) = true := by simpa using k3
 have k5 : (a != 0) = false := by simpa using k3
 have G_a := Lib.hid k3
 clear k3
 go_upto_region 12 with (go_at_call 116; first | ((with_reducible refine (H_v _).out.mono ?_); rintro e W9 ⟨rfl, rfl⟩) | ((with_reducible refine (H_a _).out.mono ?_); rintro e W9 ⟨rfl, rfl⟩) | ((with_reducible refine (H_l _).out.mono ?_); rintro e W9 ⟨rfl, rfl⟩) | ((with_reducible refine (H_n _).out.mono ?_); rintro e W9 ⟨rfl, rfl⟩) | ((with_reducible refine (H_f _).out.mono ?_); rintro e W9 ⟨rfl, rfl⟩) | ((with_reducible refine (H_p _).out.mono ?_); rintro e W9 ⟨rfl, rfl⟩) | ((with_reducible refine (H_e _).out.mono ?_); rintro e W9 ⟨rfl, rfl⟩) | ((with_reducible refine (H_s _).out.mono ?_); rintro e W9 ⟨rfl, rfl⟩))
 clear k4 k5
 by_cases k1 : n < -9007199254740991
 ·skip
  go_wp2_with (go_at_call 116; first | ((with_reducible refine (H_v _).out.mono ?_); rintro e W9 ⟨rfl, rfl⟩) | ((with_reducible refine (H_a _).out.mono ?_); rintro e W9 ⟨rfl, rfl⟩) | ((with_reducible refine (H_l _).out.mono ?_); rintro e W9 ⟨rfl, rfl⟩) | ((with_reducible refine (H_n _).out.mono ?_); rintro e W9 ⟨rfl, rfl⟩) | ((with_reducible refine (H_f _).out.mono ?_); rintro e W9 ⟨rfl, rfl⟩) | ((with_reducible refine (H_p _).out.mono ?_); rintro e W9 ⟨rfl, rfl⟩) | ((with_reducible refine (H_e _).out.mono ?_); rintro e W9 ⟨rfl, rfl⟩) | ((with_reducible refine (H_s _).out.mono ?_); rintro e W9 ⟨rfl, rfl⟩))
  go_ret
  exact ⟨ret_bB (by rw [HM.out]; exact (decide_eq_false (by omega)).symm), HX.out⟩
 by_cases k2 : 9007199254740991 < n
 ·skip
  go_wp2_with (go_at_call 116; first | ((with_reducible refine (H_v _).out.mono ?_); rintro e W9 ⟨rfl, rfl⟩) | ((with_reducible refine (H_a _).out.mono ?_); rintro e W9 ⟨rfl, rfl⟩) | ((with_reducible refine (H_l _).out.mono ?_); rintro e W9 ⟨rfl, rfl⟩) | ((with_reducible refine (H_n _).out.mono ?_); rintro e W9 ⟨rfl, rfl⟩) | ((with_reducible refine (H_f _).out.mono ?_); rintro e W9 ⟨rfl, rfl⟩) | ((with_reducible refine (H_p _).out.mono ?_); rintro e W9 ⟨rfl, rfl⟩) | ((with_reducible refine (H_e _).out.mono ?_); rintro e W9 ⟨rfl, rfl⟩) | ((with_reducible refine (H_s _).out.mono ?_); rintro e W9 ⟨rfl, rfl⟩))
  go_ret
  exact ⟨ret_bB (by rw [HM.out]; exact (decide_eq_false (by omega)).symm), HX.out⟩
 go_upto_region 14 with (go_at_call 116; first | ((with_reducible refine (H_v _).out.mono ?_); rintro e W9 ⟨rfl, rfl⟩) | ((with_reducible refine (H_a _).out.mono ?_); rintro e W9 ⟨rfl, rfl⟩) | ((with_reducible refine (H_l _).out.mono ?_); rintro e W9 ⟨rfl, rfl⟩) | ((with_reducible refine (H_n _).out.mono ?_); rintro e W9 ⟨rfl, rfl⟩) | ((with_reducible refine (H_f _).out.mono ?_); rintro e W9 ⟨rfl, rfl⟩) | ((with_reducible refine (H_p _).out.mono ?_); rintro e W9 ⟨rfl, rfl⟩) | ((with_reducible refine (H_e _).out.mono ?_); rintro e W9 ⟨rfl, rfl⟩) | ((with_reducible refine (H_s _).out.mono ?_); rintro e W9 ⟨rfl, rfl⟩))
 have G_n : Hid (¬ n < -9007199254740991 ∧ ¬ 9007199254740991 < n) := Lib.hid (by omega)
 clear k1 k2
 go_upto_region 18 with (go_at_call 116; first | ((with_reducible refine (H_v _).out.mono ?_); rintro e W9 ⟨rfl, rfl⟩) | ((with_reducible refine (H_a _).out.mono ?_); rintro e W9 ⟨rfl, rfl⟩) | ((with_reducible refine (H_l _).out.mono ?_); rintro e W9 ⟨rfl, rfl⟩) | ((with_reducible refine (H_n _).out.mono ?_); rintro e W9 ⟨rfl, rfl⟩) | ((with_reducible refine (H_f _).out.mono ?_); rintro e W9 ⟨rfl, rfl⟩) | ((with_reducible refine (H_p _).out.mono ?_); rintro e W9 ⟨rfl, rfl⟩) | ((with_reducible refine (H_e _).out.mono ?_); rintro e W9 ⟨rfl, rfl⟩) | ((with_reducible refine (H_s _).out.mono ?_); rintro e W9 ⟨rfl, rfl⟩))
 by_cases k3 : s.size = 0
 ·have e1 := str_empty k3
  have e2 : (s.toList == []) = true := by rw [e1]; rfl
  have e3 : s.toList.isEmpty = true := by rw [e1]; rfl
  have HZ := Lib.hid k3
  clear k3
  go_wp2_with (go_at_call 116; first | ((with_reducible refine (H_v _).out.mono ?_); rintro e W9 ⟨rfl, rfl⟩) | ((with_reducible refine (H_a _).out.mono ?_); rintro e W9 ⟨rfl, rfl⟩) | ((with_reducible refine (H_l _).out.mono ?_); rintro e W9 ⟨rfl, rfl⟩) | ((with_reducible refine (H_n _).out.mono ?_); rintro e W9 ⟨rfl, rfl⟩) | ((with_reducible refine (H_f _).out.mono ?_); rintro e W9 ⟨rfl, rfl⟩) | ((with_reducible refine (H_p _).out.mono ?_); rintro e W9 ⟨rfl, rfl⟩) | ((with_reducible refine (H_e _).out.mono ?_); rintro e W9 ⟨rfl, rfl⟩) | ((with_reducible refine (H_s _).out.mono ?_); rintro e W9 ⟨rfl, rfl⟩))
  go_ret
  exact ⟨ret_bB (by rw [HM.out]; exact (decide_eq_true (by have g1 := G_v.out; have g2 := G_a.out; have g3 := G_n.out; have g4 := HZ.out; omega)).symm), HX.out⟩
 ·have e1 := str_full k3
  have e2 : (s.toList == []) = false := by simpa using e1
  have e3 : s.toList.isEmpty = false := by simpa using e1
  have HZ := Lib.hid k3
  clear k3
  go_wp2_with (go_at_call 116; first | ((with_reducible refine (H_v _).out.mono ?_); rintro e W9 ⟨rfl, rfl⟩) | ((with_reducible refine (H_a _).out.mono ?_); rintro e W9 ⟨rfl, rfl⟩) | ((with_reducible refine (H_l _).out.mono ?_); rintro e W9 ⟨rfl, rfl⟩) | ((with_reducible refine (H_n _).out.mono ?_); rintro e W9 ⟨rfl, rfl⟩) | ((with_reducible refine (H_f _).out.mono ?_); rintro e W9 ⟨rfl, rfl⟩) | ((with_reducible refine (H_p _).out.mono ?_); rintro e W9 ⟨rfl, rfl⟩) | ((with_reducible refine (H_e _).out.mono ?_); rintro e W9 ⟨rfl, rfl⟩) | ((with_reducible refine (H_s _).out.mono ?_); rintro e W9 ⟨rfl, rfl⟩))
  go_ret
  exact ⟨ret_bB (by rw [HM.out]; exact (decide_eq_false (by have g4 := HZ.out; omega)).symm), HX.out⟩
set_option maxRecDepth 100000 in
set_option maxHeartbeats 2000000 in
theorem rMay_e (op n v a : Int) (s : ByteArray) (w : World) (ho : 0 ≤ op ∧ op < 31) (hn : nameF op ≠ []) (hs : ¬ 64 < s.size) (hf : formL op = [101]) (hm : insMay ⟨op, s, n, v, a⟩ = decide ((v = 0) ∧ (a = 0) ∧ (0 ≤ n ∧ n ≤ 64) ∧ (s.size = 0))) :
  Calls Tryz.prog 72 #[insVal ⟨op, s, n, v, a⟩] w fun e w' => e = .returned (.bool (insMay ⟨op, s, n, v, a⟩)) ∧ Ext w w' := by
 have HM := Lib.hid hm
 obtain ⟨R, hR⟩ : ∃ R, insMay ⟨op, s, n, v, a⟩ = R := ⟨_, rfl⟩
 rw [hR] at HM ⊢
 have hx := ext_boxI w (.cells #[.int .i64 op, .string s, .int .i64 n, .int .i64 v, .int .i64 a] 25)
 have HB := Lib.hid (Blk.new w 25 #[.int .i64 op, .string s, .int .i64 n, .int .i64 v, .int .i64 a])
 have HX0 := Lib.hid hx
 have HN := Lib.hid (rName_any op (w.alloc (.cells #[.int .i64 op, .string s, .int .i64 n, .int .i64 v, .int .i64 a] 25)))
 have HF := fun W => Lib.hid (rForm_any op ho.1 ho.2 W)
 rw [hf] at HF
 have q0 := HB.out.cell 0
 have q1 := HB.out.cell 1
 have hn1 : ((mkB (nameF op)).toList == []) = false := by
  rw [ByteArray.toList_eq, mkB_list]
  simpa using hn
 have hn2 : (mkB (nameF op)).toList ≠ [] := by
  rw [ByteArray.toList_eq, mkB_list]
  exact hn
 have hn3 : (mkB (nameF op)).toList.isEmpty = false := by simpa using hn2
 have hs64 : ¬ (64 : Int) < (s.size : Int) := by omega
 have H_v := fun W => Lib.hid (rHas_lit (mkB [101]) 118 false 118 rfl (by decide) (by decide +kernel) W)
 have H_a := fun W => Lib.hid (rHas_lit (mkB [101]) 97 false 97 rfl (by decide) (by decide +kernel) W)
 have H_l := fun W => Lib.hid (rHas_lit (mkB [101]) 108 false 108 rfl (by decide) (by decide +kernel) W)
 have H_n := fun W => Lib.hid (rHas_lit (mkB [101]) 110 false 110 rfl (by decide) (by decide +kernel) W)
 have H_f := fun W => Lib.hid (rHas_lit (mkB [101]) 102 false 102 rfl (by decide) (by decide +kernel) W)
 have H_p := fun W => Lib.hid (rHas_lit (mkB [101]) 112 false 112 rfl (by decide) (by decide +kernel) W)
 have H_e := fun W => Lib.hid (rHas_lit (mkB [101]) 101 true 101 rfl (by decide) (by decide +kernel) W)
 have H_s := fun W => Lib.hid (rHas_lit (mkB [101]) 115 false 115 rfl (by decide) (by decide +kernel) W)
 generalize mkB (nameF op) = nm at *
 unfold insVal
 clear hm hR hx hf hn hs ho
 go_enter Tryz.func72, Tryz.ntmps72
 go_upto_region 3 with (go_at_call 14; refine HN.out.mono ?_; rintro e W1 ⟨rfl, x1⟩; have HX1 := Lib.hid x1; have p0 := x1.cell q0; have p1 := x1.cell q1; clear x1)
 go_upto_region 4 with (go_at_call 73; refine (HF _).out.mono ?_; rintro e W2 ⟨rfl, x2⟩; have HX := Lib.hid ((HX0.out.trans HX1.out).trans x2); have hb := HB.out.ext (HX1.out.trans x2); have y1 := hb.cell 1; have y2 := hb.cell 2; have y3 := hb.cell 3; have y4 := hb.cell 4; clear x2 hb)
 simp only [List.getElem?_toArray, List.getElem?_cons_zero, List.getElem?_cons_succ] at y1 y2 y3 y4
 clear q0 q1 p0 p1 HN HF HB HX0 HX1 hn1 hn2 hn3 hs64
 by_cases k3 : v = 0
 case neg =>
  have k4 : (v == 0) = false := by simpa using k3
  have k5 : (v != 0) = true := by simpa using k3
  have HZ := Lib.hid k3
  clear k3
  go_wp2_with (go_at_call 116; first | ((with_reducible refine (H_v _).out.mono ?_); rintro e W9 ⟨rfl, rfl⟩) | ((with_reducible refine (H_a _).out.mono ?_); rintro e W9 ⟨rfl, rfl⟩) | ((with_reducible refine (H_l _).out.mono ?_); rintro e W9 ⟨rfl, rfl⟩) | ((with_reducible refine (H_n _).out.mono ?_); rintro e W9 ⟨rfl, rfl⟩) | ((with_reducible refine (H_f _).out.mono ?_); rintro e W9 ⟨rfl, rfl⟩) | ((with_reducible refine (H_p _).out.mono ?_); rintro e W9 ⟨rfl, rfl⟩) | ((with_reducible refine (H_e _).out.mono ?_); rintro e W9 ⟨rfl, rfl⟩) | ((with_reducible refine (H_s _).out.mono ?_); rintro e W9 ⟨rfl, rfl⟩))
  go_ret
  exact ⟨ret_bB (by rw [HM.out]; exact (decide_eq_false (by have := HZ.out; omega)).symm), HX.out⟩
 have k4 : (v == 0) = true := by simpa using k3
 have k5 : (v != 0) = false := by simpa using k3
 have G_v := Lib.hid k3
 clear k3
 go_upto_region 6 with (go_at_call 116; first | ((with_reducible refine (H_v _).out.mono ?_); rintro e W9 ⟨rfl, rfl⟩) | ((with_reducible refine (H_a _).out.mono ?_); rintro e W9 ⟨rfl, rfl⟩) | ((with_reducible refine (H_l _).out.mono ?_); rintro e W9 ⟨rfl, rfl⟩) | ((with_reducible refine (H_n _).out.mono ?_); rintro e W9 ⟨rfl, rfl⟩) | ((with_reducible refine (H_f _).out.mono ?_); rintro e W9 ⟨rfl, rfl⟩) | ((with_reducible refine (H_p _).out.mono ?_); rintro e W9 ⟨rfl, rfl⟩) | ((with_reducible refine (H_e _).out.mono ?_); rintro e W9 ⟨rfl, rfl⟩) | ((with_reducible refine (H_s _).out.mono ?_); rintro e W9 ⟨rfl, rfl⟩))
 clear k4 k5
 go_upto_region 10 with (go_at_call 116; first | ((with_reducible refine (H_v _).out.mono ?_); rintro e W9 ⟨rfl, rfl⟩) | ((with_reducible refine (H_a _).out.mono ?_); rintro e W9 ⟨rfl, rfl⟩) | ((with_reducible refine (H_l _).out.mono ?_); rintro e W9 ⟨rfl, rfl⟩) | ((with_reducible refine (H_n _).out.mono ?_); rintro e W9 ⟨rfl, rfl⟩) | ((with_reducible refine (H_f _).out.mono ?_); rintro e W9 ⟨rfl, rfl⟩) | ((with_reducible refine (H_p _).out.mono ?_); rintro e W9 ⟨rfl, rfl⟩) | ((with_reducible refine (H_e _).out.mono ?_); rintro e W9 ⟨rfl, rfl⟩) | ((with_reducible refine (H_s _).out.mono ?_); rintro e W9 ⟨rfl, rfl⟩))
 by_cases k3 : a = 0
 case neg =>
  have k4 : (a == 0) = false := by simpa using k3
  have k5 : (a != 0) = true := by simpa using k3
  have HZ := Lib.hid k3
  clear k3
  go_wp2_with (go_at_call 116; first | ((with_reducible refine (H_v _).out.mono ?_); rintro e W9 ⟨rfl, rfl⟩) | ((with_reducible refine (H_a _).out.mono ?_); rintro e W9 ⟨rfl, rfl⟩) | ((with_reducible refine (H_l _).out.mono ?_); rintro e W9 ⟨rfl, rfl⟩) | ((with_reducible refine (H_n _).out.mono ?_); rintro e W9 ⟨rfl, rfl⟩) | ((with_reducible refine (H_f _).out.mono ?_); rintro e W9 ⟨rfl, rfl⟩) | ((with_reducible refine (H_p _).out.mono ?_); rintro e W9 ⟨rfl, rfl⟩) | ((with_reducible refine (H_e _).out.mono ?_); rintro e W9 ⟨rfl, rfl⟩) | ((with_reducible refine (H_s _).out.mono ?_); rintro e W9 ⟨rfl, rfl⟩))
  go_ret
  exact ⟨ret_bB (by rw [HM.out]; exact (decide_eq_false (by have := HZ.out; omega)).symm), HX.out⟩
 have k4 : (a == 0) = true := by simpa using k3
 have k5 : (a != 0) = false := by simpa using k3
 have G_a := Lib.hid k3
 clear k3
 go_upto_region 12 with (go_at_call 116; first | ((with_reducible refine (H_v _).out.mono ?_); rintro e W9 ⟨rfl, rfl⟩) | ((with_reducible refine (H_a _).out.mono ?_); rintro e W9 ⟨rfl, rfl⟩) | ((with_reducible refine (H_l _).out.mono ?_); rintro e W9 ⟨rfl, rfl⟩) | ((with_reducible refine (H_n _).out.mono ?_); rintro e W9 ⟨rfl, rfl⟩) | ((with_reducible refine (H_f _).out.mono ?_); rintro e W9 ⟨rfl, rfl⟩) | ((with_reducible refine (H_p _).out.mono ?_); rintro e W9 ⟨rfl, rfl⟩) | ((with_reducible refine (H_e _).out.mono ?_); rintro e W9 ⟨rfl, rfl⟩) | ((with_reducible refine (H_s _).out.mono ?_); rintro e W9 ⟨rfl, rfl⟩))
 clear k4 k5
 go_upto_region 14 with (go_at_call 116; first | ((with_reducible refine (H_v _).out.mono ?_); rintro e W9 ⟨rfl, rfl⟩) | ((with_reducible refine (H_a _).out.mono ?_); rintro e W9 ⟨rfl, rfl⟩) | ((with_reducible refine (H_l _).out.mono ?_); rintro e W9 ⟨rfl, rfl⟩) | ((with_reducible refine (H_n _).out.mono ?_); rintro e W9 ⟨rfl, rfl⟩) | ((with_reducible refine (H_f _).out.mono ?_); rintro e W9 ⟨rfl, rfl⟩) | ((with_reducible refine (H_p _).out.mono ?_); rintro e W9 ⟨rfl, rfl⟩) | ((with_reducible refine (H_e _).out.mono ?_); rintro e W9 ⟨rfl, rfl⟩) | ((with_reducible refine (H_s _).out.mono ?_); rintro e W9 ⟨rfl, rfl⟩))
 by_cases k1 : n < 0
 ·skip
  go_wp2_with (go_at_call 116; first | ((with_reducible refine (H_v _).out.mono ?_); rintro e W9 ⟨rfl, rfl⟩) | ((with_reducible refine (H_a _).out.mono ?_); rintro e W9 ⟨rfl, rfl⟩) | ((with_reducible refine (H_l _).out.mono ?_); rintro e W9 ⟨rfl, rfl⟩) | ((with_reducible refine (H_n _).out.mono ?_); rintro e W9 ⟨rfl, rfl⟩) | ((with_reducible refine (H_f _).out.mono ?_); rintro e W9 ⟨rfl, rfl⟩) | ((with_reducible refine (H_p _).out.mono ?_); rintro e W9 ⟨rfl, rfl⟩) | ((with_reducible refine (H_e _).out.mono ?_); rintro e W9 ⟨rfl, rfl⟩) | ((with_reducible refine (H_s _).out.mono ?_); rintro e W9 ⟨rfl, rfl⟩))
  go_ret
  exact ⟨ret_bB (by rw [HM.out]; exact (decide_eq_false (by omega)).symm), HX.out⟩
 by_cases k2 : 64 < n
 ·skip
  go_wp2_with (go_at_call 116; first | ((with_reducible refine (H_v _).out.mono ?_); rintro e W9 ⟨rfl, rfl⟩) | ((with_reducible refine (H_a _).out.mono ?_); rintro e W9 ⟨rfl, rfl⟩) | ((with_reducible refine (H_l _).out.mono ?_); rintro e W9 ⟨rfl, rfl⟩) | ((with_reducible refine (H_n _).out.mono ?_); rintro e W9 ⟨rfl, rfl⟩) | ((with_reducible refine (H_f _).out.mono ?_); rintro e W9 ⟨rfl, rfl⟩) | ((with_reducible refine (H_p _).out.mono ?_); rintro e W9 ⟨rfl, rfl⟩) | ((with_reducible refine (H_e _).out.mono ?_); rintro e W9 ⟨rfl, rfl⟩) | ((with_reducible refine (H_s _).out.mono ?_); rintro e W9 ⟨rfl, rfl⟩))
  go_ret
  exact ⟨ret_bB (by rw [HM.out]; exact (decide_eq_false (by omega)).symm), HX.out⟩
 go_upto_region 16 with (go_at_call 116; first | ((with_reducible refine (H_v _).out.mono ?_); rintro e W9 ⟨rfl, rfl⟩) | ((with_reducible refine (H_a _).out.mono ?_); rintro e W9 ⟨rfl, rfl⟩) | ((with_reducible refine (H_l _).out.mono ?_); rintro e W9 ⟨rfl, rfl⟩) | ((with_reducible refine (H_n _).out.mono ?_); rintro e W9 ⟨rfl, rfl⟩) | ((with_reducible refine (H_f _).out.mono ?_); rintro e W9 ⟨rfl, rfl⟩) | ((with_reducible refine (H_p _).out.mono ?_); rintro e W9 ⟨rfl, rfl⟩) | ((with_reducible refine (H_e _).out.mono ?_); rintro e W9 ⟨rfl, rfl⟩) | ((with_reducible refine (H_s _).out.mono ?_); rintro e W9 ⟨rfl, rfl⟩))
 have G_n : Hid (¬ n < 0 ∧ ¬ 64 < n) := Lib.hid (by omega)
 clear k1 k2
 go_upto_region 18 with (go_at_call 116; first | ((with_reducible refine (H_v _).out.mono ?_); rintro e W9 ⟨rfl, rfl⟩) | ((with_reducible refine (H_a _).out.mono ?_); rintro e W9 ⟨rfl, rfl⟩) | ((with_reducible refine (H_l _).out.mono ?_); rintro e W9 ⟨rfl, rfl⟩) | ((with_reducible refine (H_n _).out.mono ?_); rintro e W9 ⟨rfl, rfl⟩) | ((with_reducible refine (H_f _).out.mono ?_); rintro e W9 ⟨rfl, rfl⟩) | ((with_reducible refine (H_p _).out.mono ?_); rintro e W9 ⟨rfl, rfl⟩) | ((with_reducible refine (H_e _).out.mono ?_); rintro e W9 ⟨rfl, rfl⟩) | ((with_reducible refine (H_s _).out.mono ?_); rintro e W9 ⟨rfl, rfl⟩))
 by_cases k3 : s.size = 0
 ·have e1 := str_empty k3
  have e2 : (s.toList == []) = true := by rw [e1]; rfl
  have e3 : s.toList.isEmpty = true := by rw [e1]; rfl
  have HZ := Lib.hid k3
  clear k3
  go_wp2_with (go_at_call 116; first | ((with_reducible refine (H_v _).out.mono ?_); rintro e W9 ⟨rfl, rfl⟩) | ((with_reducible refine (H_a _).out.mono ?_); rintro e W9 ⟨rfl, rfl⟩) | ((with_reducible refine (H_l _).out.mono ?_); rintro e W9 ⟨rfl, rfl⟩) | ((with_reducible refine (H_n _).out.mono ?_); rintro e W9 ⟨rfl, rfl⟩) | ((with_reducible refine (H_f _).out.mono ?_); rintro e W9 ⟨rfl, rfl⟩) | ((with_reducible refine (H_p _).out.mono ?_); rintro e W9 ⟨rfl, rfl⟩) | ((with_reducible refine (H_e _).out.mono ?_); rintro e W9 ⟨rfl, rfl⟩) | ((with_reducible refine (H_s _).out.mono ?_); rintro e W9 ⟨rfl, rfl⟩))
  go_ret
  exact ⟨ret_bB (by rw [HM.out]; exact (decide_eq_true (by have g1 := G_v.out; have g2 := G_a.out; have g3 := G_n.out; have g4 := HZ.out; omega)).symm), HX.out⟩
 ·have e1 := str_full k3
  have e2 : (s.toList == []) = false := by simpa using e1
  have e3 : s.toList.isEmpty = false := by simpa using e1
  have HZ := Lib.hid k3
  clear k3
  go_wp2_with (go_at_call 116; first | ((with_reducible refine (H_v _).out.mono ?_); rintro e W9 ⟨rfl, rfl⟩) | ((with_reducible refine (H_a _).out.mono ?_); rintro e W9 ⟨rfl, rfl⟩) | ((with_reducible refine (H_l _).out.mono ?_); rintro e W9 ⟨rfl, rfl⟩) | ((with_reducible refine (H_n _).out.mono ?_); rintro e W9 ⟨rfl, rfl⟩) | ((with_reducible refine (H_f _).out.mono ?_); rintro e W9 ⟨rfl, rfl⟩) | ((with_reducible refine (H_p _).out.mono ?_); rintro e W9 ⟨rfl, rfl⟩) | ((with_reducible refine (H_e _).out.mono ?_); rintro e W9 ⟨rfl, rfl⟩) | ((with_reducible refine (H_s _).out.mono ?_); rintro e W9 ⟨rfl, rfl⟩))
  go_ret
  exact ⟨ret_bB (by rw [HM.out]; exact (decide_eq_false (by have g4 := HZ.out; omega)).symm), HX.out⟩
set_option maxRecDepth 100000 in
set_option maxHeartbeats 2000000 in
theorem rMay_pl (op n v a : Int) (s : ByteArray) (w : World) (ho : 0 ≤ op ∧ op < 31) (hn : nameF op ≠ []) (hs : ¬ 64 < s.size) (hf : formL op = [112, 108]) (hm : insMay ⟨op, s, n, v, a⟩ = decide ((v = 0) ∧ (0 ≤ a ∧ a ≤ 64) ∧ (0 ≤ n ∧ n ≤ 16) ∧ (0 ≤ s.size))) :
  Calls Tryz.prog 72 #[insVal ⟨op, s, n, v, a⟩] w fun e w' => e = .returned (.bool (insMay ⟨op, s, n, v, a⟩)) ∧ Ext w w' := by
 have HM := Lib.hid hm
 obtain ⟨R, hR⟩ : ∃ R, insMay ⟨op, s, n, v, a⟩ = R := ⟨_, rfl⟩
 rw [hR] at HM ⊢
 have hx := ext_boxI w (.cells #[.int .i64 op, .string s, .int .i64 n, .int .i64 v, .int .i64 a] 25)
 have HB := Lib.hid (Blk.new w 25 #[.int .i64 op, .string s, .int .i64 n, .int .i64 v, .int .i64 a])
 have HX0 := Lib.hid hx
 have HN := Lib.hid (rName_any op (w.alloc (.cells #[.int .i64 op, .string s, .int .i64 n, .int .i64 v, .int .i64 a] 25)))
 have HF := fun W => Lib.hid (rForm_any op ho.1 ho.2 W)
 rw [hf] at HF
 have q0 := HB.out.cell 0
 have q1 := HB.out.cell 1
 have hn1 : ((mkB (nameF op)).toList == []) = false := by
  rw [ByteArray.toList_eq, mkB_list]
  simpa using hn
 have hn2 : (mkB (nameF op)).toList ≠ [] := by
  rw [ByteArray.toList_eq, mkB_list]
  exact hn
 have hn3 : (mkB (nameF op)).toList.isEmpty = false := by simpa using hn2
 have hs64 : ¬ (64 : Int) < (s.size : Int) := by omega
 have H_v := fun W => Lib.hid (rHas_lit (mkB [112, 108]) 118 false 118 rfl (by decide) (by decide +kernel) W)
 have H_a := fun W => Lib.hid (rHas_lit (mkB [112, 108]) 97 false 97 rfl (by decide) (by decide +kernel) W)
 have H_l := fun W => Lib.hid (rHas_lit (mkB [112, 108]) 108 true 108 rfl (by decide) (by decide +kernel) W)
 have H_n := fun W => Lib.hid (rHas_lit (mkB [112, 108]) 110 false 110 rfl (by decide) (by decide +kernel) W)
 have H_f := fun W => Lib.hid (rHas_lit (mkB [112, 108]) 102 false 102 rfl (by decide) (by decide +kernel) W)
 have H_p := fun W => Lib.hid (rHas_lit (mkB [112, 108]) 112 true 112 rfl (by decide) (by decide +kernel) W)
 have H_e := fun W => Lib.hid (rHas_lit (mkB [112, 108]) 101 false 101 rfl (by decide) (by decide +kernel) W)
 have H_s := fun W => Lib.hid (rHas_lit (mkB [112, 108]) 115 false 115 rfl (by decide) (by decide +kernel) W)
 generalize mkB (nameF op) = nm at *
 unfold insVal
 clear hm hR hx hf hn hs ho
 go_enter Tryz.func72, Tryz.ntmps72
 go_upto_region 3 with (go_at_call 14; refine HN.out.mono ?_; rintro e W1 ⟨rfl, x1⟩; have HX1 := Lib.hid x1; have p0 := x1.cell q0; have p1 := x1.cell q1; clear x1)
 go_upto_region 4 with (go_at_call 73; refine (HF _).out.mono ?_; rintro e W2 ⟨rfl, x2⟩; have HX := Lib.hid ((HX0.out.trans HX1.out).trans x2); have hb := HB.out.ext (HX1.out.trans x2); have y1 := hb.cell 1; have y2 := hb.cell 2; have y3 := hb.cell 3; have y4 := hb.cell 4; clear x2 hb)
 simp only [List.getElem?_toArray, List.getElem?_cons_zero, List.getElem?_cons_succ] at y1 y2 y3 y4
 clear q0 q1 p0 p1 HN HF HB HX0 HX1 hn1 hn2 hn3 hs64
 by_cases k3 : v = 0
 case neg =>
  have k4 : (v == 0) = false := by simpa using k3
  have k5 : (v != 0) = true := by simpa using k3
  have HZ := Lib.hid k3
  clear k3
  go_wp2_with (go_at_call 116; first | ((with_reducible refine (H_v _).out.mono ?_); rintro e W9 ⟨rfl, rfl⟩) | ((with_reducible refine (H_a _).out.mono ?_); rintro e W9 ⟨rfl, rfl⟩) | ((with_reducible refine (H_l _).out.mono ?_); rintro e W9 ⟨rfl, rfl⟩) | ((with_reducible refine (H_n _).out.mono ?_); rintro e W9 ⟨rfl, rfl⟩) | ((with_reducible refine (H_f _).out.mono ?_); rintro e W9 ⟨rfl, rfl⟩) | ((with_reducible refine (H_p _).out.mono ?_); rintro e W9 ⟨rfl, rfl⟩) | ((with_reducible refine (H_e _).out.mono ?_); rintro e W9 ⟨rfl, rfl⟩) | ((with_reducible refine (H_s _).out.mono ?_); rintro e W9 ⟨rfl, rfl⟩))
  go_ret
  exact ⟨ret_bB (by rw [HM.out]; exact (decide_eq_false (by have := HZ.out; omega)).symm), HX.out⟩
 have k4 : (v == 0) = true := by simpa using k3
 have k5 : (v != 0) = false := by simpa using k3
 have G_v := Lib.hid k3
 clear k3
 go_upto_region 6 with (go_at_call 116; first | ((with_reducible refine (H_v _).out.mono ?_); rintro e W9 ⟨rfl, rfl⟩) | ((with_reducible refine (H_a _).out.mono ?_); rintro e W9 ⟨rfl, rfl⟩) | ((with_reducible refine (H_l _).out.mono ?_); rintro e W9 ⟨rfl, rfl⟩) | ((with_reducible refine (H_n _).out.mono ?_); rintro e W9 ⟨rfl, rfl⟩) | ((with_reducible refine (H_f _).out.mono ?_); rintro e W9 ⟨rfl, rfl⟩) | ((with_reducible refine (H_p _).out.mono ?_); rintro e W9 ⟨rfl, rfl⟩) | ((with_reducible refine (H_e _).out.mono ?_); rintro e W9 ⟨rfl, rfl⟩) | ((with_reducible refine (H_s _).out.mono ?_); rintro e W9 ⟨rfl, rfl⟩))
 clear k4 k5
 go_upto_region 8 with (go_at_call 116; first | ((with_reducible refine (H_v _).out.mono ?_); rintro e W9 ⟨rfl, rfl⟩) | ((with_reducible refine (H_a _).out.mono ?_); rintro e W9 ⟨rfl, rfl⟩) | ((with_reducible refine (H_l _).out.mono ?_); rintro e W9 ⟨rfl, rfl⟩) | ((with_reducible refine (H_n _).out.mono ?_); rintro e W9 ⟨rfl, rfl⟩) | ((with_reducible refine (H_f _).out.mono ?_); rintro e W9 ⟨rfl, rfl⟩) | ((with_reducible refine (H_p _).out.mono ?_); rintro e W9 ⟨rfl, rfl⟩) | ((with_reducible refine (H_e _).out.mono ?_); rintro e W9 ⟨rfl, rfl⟩) | ((with_reducible refine (H_s _).out.mono ?_); rintro e W9 ⟨rfl, rfl⟩))
 by_cases k1 : a < 0
 ·skip
  go_wp2_with (go_at_call 116; first | ((with_reducible refine (H_v _).out.mono ?_); rintro e W9 ⟨rfl, rfl⟩) | ((with_reducible refine (H_a _).out.mono ?_); rintro e W9 ⟨rfl, rfl⟩) | ((with_reducible refine (H_l _).out.mono ?_); rintro e W9 ⟨rfl, rfl⟩) | ((with_reducible refine (H_n _).out.mono ?_); rintro e W9 ⟨rfl, rfl⟩) | ((with_reducible refine (H_f _).out.mono ?_); rintro e W9 ⟨rfl, rfl⟩) | ((with_reducible refine (H_p _).out.mono ?_); rintro e W9 ⟨rfl, rfl⟩) | ((with_reducible refine (H_e _).out.mono ?_); rintro e W9 ⟨rfl, rfl⟩) | ((with_reducible refine (H_s _).out.mono ?_); rintro e W9 ⟨rfl, rfl⟩))
  go_ret
  exact ⟨ret_bB (by rw [HM.out]; exact (decide_eq_false (by omega)).symm), HX.out⟩
 by_cases k2 : 64 < a
 ·skip
  go_wp2_with (go_at_call 116; first | ((with_reducible refine (H_v _).out.mono ?_); rintro e W9 ⟨rfl, rfl⟩) | ((with_reducible refine (H_a _).out.mono ?_); rintro e W9 ⟨rfl, rfl⟩) | ((with_reducible refine (H_l _).out.mono ?_); rintro e W9 ⟨rfl, rfl⟩) | ((with_reducible refine (H_n _).out.mono ?_); rintro e W9 ⟨rfl, rfl⟩) | ((with_reducible refine (H_f _).out.mono ?_); rintro e W9 ⟨rfl, rfl⟩) | ((with_reducible refine (H_p _).out.mono ?_); rintro e W9 ⟨rfl, rfl⟩) | ((with_reducible refine (H_e _).out.mono ?_); rintro e W9 ⟨rfl, rfl⟩) | ((with_reducible refine (H_s _).out.mono ?_); rintro e W9 ⟨rfl, rfl⟩))
  go_ret
  exact ⟨ret_bB (by rw [HM.out]; exact (decide_eq_false (by omega)).symm), HX.out⟩
 go_upto_region 10 with (go_at_call 116; first | ((with_reducible refine (H_v _).out.mono ?_); rintro e W9 ⟨rfl, rfl⟩) | ((with_reducible refine (H_a _).out.mono ?_); rintro e W9 ⟨rfl, rfl⟩) | ((with_reducible refine (H_l _).out.mono ?_); rintro e W9 ⟨rfl, rfl⟩) | ((with_reducible refine (H_n _).out.mono ?_); rintro e W9 ⟨rfl, rfl⟩) | ((with_reducible refine (H_f _).out.mono ?_); rintro e W9 ⟨rfl, rfl⟩) | ((with_reducible refine (H_p _).out.mono ?_); rintro e W9 ⟨rfl, rfl⟩) | ((with_reducible refine (H_e _).out.mono ?_); rintro e W9 ⟨rfl, rfl⟩) | ((with_reducible refine (H_s _).out.mono ?_); rintro e W9 ⟨rfl, rfl⟩))
 have G_a : Hid (¬ a < 0 ∧ ¬ 64 < a) := Lib.hid (by omega)
 clear k1 k2
 go_upto_region 12 with (go_at_call 116; first | ((with_reducible refine (H_v _).out.mono ?_); rintro e W9 ⟨rfl, rfl⟩) | ((with_reducible refine (H_a _).out.mono ?_); rintro e W9 ⟨rfl, rfl⟩) | ((with_reducible refine (H_l _).out.mono ?_); rintro e W9 ⟨rfl, rfl⟩) | ((with_reducible refine (H_n _).out.mono ?_); rintro e W9 ⟨rfl, rfl⟩) | ((with_reducible refine (H_f _).out.mono ?_); rintro e W9 ⟨rfl, rfl⟩) | ((with_reducible refine (H_p _).out.mono ?_); rintro e W9 ⟨rfl, rfl⟩) | ((with_reducible refine (H_e _).out.mono ?_); rintro e W9 ⟨rfl, rfl⟩) | ((with_reducible refine (H_s _).out.mono ?_); rintro e W9 ⟨rfl, rfl⟩))
 go_upto_region 14 with (go_at_call 116; first | ((with_reducible refine (H_v _).out.mono ?_); rintro e W9 ⟨rfl, rfl⟩) | ((with_reducible refine (H_a _).out.mono ?_); rintro e W9 ⟨rfl, rfl⟩) | ((with_reducible refine (H_l _).out.mono ?_); rintro e W9 ⟨rfl, rfl⟩) | ((with_reducible refine (H_n _).out.mono ?_); rintro e W9 ⟨rfl, rfl⟩) | ((with_reducible refine (H_f _).out.mono ?_); rintro e W9 ⟨rfl, rfl⟩) | ((with_reducible refine (H_p _).out.mono ?_); rintro e W9 ⟨rfl, rfl⟩) | ((with_reducible refine (H_e _).out.mono ?_); rintro e W9 ⟨rfl, rfl⟩) | ((with_reducible refine (H_s _).out.mono ?_); rintro e W9 ⟨rfl, rfl⟩))
 by_cases k1 : n < 0
 ·skip
  go_wp2_with (go_at_call 116; first | ((with_reducible refine (H_v _).out.mono ?_); rintro e W9 ⟨rfl, rfl⟩) | ((with_reducible refine (H_a _).out.mono ?_); rintro e W9 ⟨rfl, rfl⟩) | ((with_reducible refine (H_l _).out.mono ?_); rintro e W9 ⟨rfl, rfl⟩) | ((with_reducible refine (H_n _).out.mono ?_); rintro e W9 ⟨rfl, rfl⟩) | ((with_reducible refine (H_f _).out.mono ?_); rintro e W9 ⟨rfl, rfl⟩) | ((with_reducible refine (H_p _).out.mono ?_); rintro e W9 ⟨rfl, rfl⟩) | ((with_reducible refine (H_e _).out.mono ?_); rintro e W9 ⟨rfl, rfl⟩) | ((with_reducible refine (H_s _).out.mono ?_); rintro e W9 ⟨rfl, rfl⟩))
  go_ret
  exact ⟨ret_bB (by rw [HM.out]; exact (decide_eq_false (by omega)).symm), HX.out⟩
 by_cases k2 : 16 < n
 ·skip
  go_wp2_with (go_at_call 116; first | ((with_reducible refine (H_v _).out.mono ?_); rintro e W9 ⟨rfl, rfl⟩) | ((with_reducible refine (H_a _).out.mono ?_); rintro e W9 ⟨rfl, rfl⟩) | ((with_reducible refine (H_l _).out.mono ?_); rintro e W9 ⟨rfl, rfl⟩) | ((with_reducible refine (H_n _).out.mono ?_); rintro e W9 ⟨rfl, rfl⟩) | ((with_reducible refine (H_f _).out.mono ?_); rintro e W9 ⟨rfl, rfl⟩) | ((with_reducible refine (H_p _).out.mono ?_); rintro e W9 ⟨rfl, rfl⟩) | ((with_reducible refine (H_e _).out.mono ?_); rintro e W9 ⟨rfl, rfl⟩) | ((with_reducible refine (H_s _).out.mono ?_); rintro e W9 ⟨rfl, rfl⟩))
  go_ret
  exact ⟨ret_bB (by rw [HM.out]; exact (decide_eq_false (by omega)).symm), HX.out⟩
 go_upto_region 16 with (go_at_call 116; first | ((with_reducible refine (H_v _).out.mono ?_); rintro e W9 ⟨rfl, rfl⟩) | ((with_reducible refine (H_a _).out.mono ?_); rintro e W9 ⟨rfl, rfl⟩) | ((with_reducible refine (H_l _).out.mono ?_); rintro e W9 ⟨rfl, rfl⟩) | ((with_reducible refine (H_n _).out.mono ?_); rintro e W9 ⟨rfl, rfl⟩) | ((with_reducible refine (H_f _).out.mono ?_); rintro e W9 ⟨rfl, rfl⟩) | ((with_reducible refine (H_p _).out.mono ?_); rintro e W9 ⟨rfl, rfl⟩) | ((with_reducible refine (H_e _).out.mono ?_); rintro e W9 ⟨rfl, rfl⟩) | ((with_reducible refine (H_s _).out.mono ?_); rintro e W9 ⟨rfl, rfl⟩))
 have G_n : Hid (¬ n < 0 ∧ ¬ 16 < n) := Lib.hid (by omega)
 clear k1 k2
 go_upto_region 18 with (go_at_call 116; first | ((with_reducible refine (H_v _).out.mono ?_); rintro e W9 ⟨rfl, rfl⟩) | ((with_reducible refine (H_a _).out.mono ?_); rintro e W9 ⟨rfl, rfl⟩) | ((with_reducible refine (H_l _).out.mono ?_); rintro e W9 ⟨rfl, rfl⟩) | ((with_reducible refine (H_n _).out.mono ?_); rintro e W9 ⟨rfl, rfl⟩) | ((with_reducible refine (H_f _).out.mono ?_); rintro e W9 ⟨rfl, rfl⟩) | ((with_reducible refine (H_p _).out.mono ?_); rintro e W9 ⟨rfl, rfl⟩) | ((with_reducible refine (H_e _).out.mono ?_); rintro e W9 ⟨rfl, rfl⟩) | ((with_reducible refine (H_s _).out.mono ?_); rintro e W9 ⟨rfl, rfl⟩))
 go_wp2_with (go_at_call 116; first | ((with_reducible refine (H_v _).out.mono ?_); rintro e W9 ⟨rfl, rfl⟩) | ((with_reducible refine (H_a _).out.mono ?_); rintro e W9 ⟨rfl, rfl⟩) | ((with_reducible refine (H_l _).out.mono ?_); rintro e W9 ⟨rfl, rfl⟩) | ((with_reducible refine (H_n _).out.mono ?_); rintro e W9 ⟨rfl, rfl⟩) | ((with_reducible refine (H_f _).out.mono ?_); rintro e W9 ⟨rfl, rfl⟩) | ((with_reducible refine (H_p _).out.mono ?_); rintro e W9 ⟨rfl, rfl⟩) | ((with_reducible refine (H_e _).out.mono ?_); rintro e W9 ⟨rfl, rfl⟩) | ((with_reducible refine (H_s _).out.mono ?_); rintro e W9 ⟨rfl, rfl⟩))
 go_ret
 exact ⟨ret_bB (by rw [HM.out]; exact (decide_eq_true (by have g1 := G_v.out; have g2 := G_a.out; have g3 := G_n.out; omega)).symm), HX.out⟩
set_option maxRecDepth 100000 in
set_option maxHeartbeats 2000000 in
theorem rMay_p (op n v a : Int) (s : ByteArray) (w : World) (ho : 0 ≤ op ∧ op < 31) (hn : nameF op ≠ []) (hs : ¬ 64 < s.size) (hf : formL op = [112]) (hm : insMay ⟨op, s, n, v, a⟩ = decide ((v = 0) ∧ (a = 0) ∧ (0 ≤ n ∧ n ≤ 16) ∧ (0 ≤ s.size))) :
  Calls Tryz.prog 72 #[insVal ⟨op, s, n, v, a⟩] w fun e w' => e = .returned (.bool (insMay ⟨op, s, n, v, a⟩)) ∧ Ext w w' := by
 have HM := Lib.hid hm
 obtain ⟨R, hR⟩ : ∃ R, insMay ⟨op, s, n, v, a⟩ = R := ⟨_, rfl⟩
 rw [hR] at HM ⊢
 have hx := ext_boxI w (.cells #[.int .i64 op, .string s, .int .i64 n, .int .i64 v, .int .i64 a] 25)
 have HB := Lib.hid (Blk.new w 25 #[.int .i64 op, .string s, .int .i64 n, .int .i64 v, .int .i64 a])
 have HX0 := Lib.hid hx
 have HN := Lib.hid (rName_any op (w.alloc (.cells #[.int .i64 op, .string s, .int .i64 n, .int .i64 v, .int .i64 a] 25)))
 have HF := fun W => Lib.hid (rForm_any op ho.1 ho.2 W)
 rw [hf] at HF
 have q0 := HB.out.cell 0
 have q1 := HB.out.cell 1
 have hn1 : ((mkB (nameF op)).toList == []) = false := by
  rw [ByteArray.toList_eq, mkB_list]
  simpa using hn
 have hn2 : (mkB (nameF op)).toList ≠ [] := by
  rw [ByteArray.toList_eq, mkB_list]
  exact hn
 have hn3 : (mkB (nameF op)).toList.isEmpty = false := by simpa using hn2
 have hs64 : ¬ (64 : Int) < (s.size : Int) := by omega
 have H_v := fun W => Lib.hid (rHas_lit (mkB [112]) 118 false 118 rfl (by decide) (by decide +kernel) W)
 have H_a := fun W => Lib.hid (rHas_lit (mkB [112]) 97 false 97 rfl (by decide) (by decide +kernel) W)
 have H_l := fun W => Lib.hid (rHas_lit (mkB [112]) 108 false 108 rfl (by decide) (by decide +kernel) W)
 have H_n := fun W => Lib.hid (rHas_lit (mkB [112]) 110 false 110 rfl (by decide) (by decide +kernel) W)
 have H_f := fun W => Lib.hid (rHas_lit (mkB [112]) 102 false 102 rfl (by decide) (by decide +kernel) W)
 have H_p := fun W => Lib.hid (rHas_lit (mkB [112]) 112 true 112 rfl (by decide) (by decide +kernel) W)
 have H_e := fun W => Lib.hid (rHas_lit (mkB [112]) 101 false 101 rfl (by decide) (by decide +kernel) W)
 have H_s := fun W => Lib.hid (rHas_lit (mkB [112]) 115 false 115 rfl (by decide) (by decide +kernel) W)
 generalize mkB (nameF op) = nm at *
 unfold insVal
 clear hm hR hx hf hn hs ho
 go_enter Tryz.func72, Tryz.ntmps72
 go_upto_region 3 with (go_at_call 14; refine HN.out.mono ?_; rintro e W1 ⟨rfl, x1⟩; have HX1 := Lib.hid x1; have p0 := x1.cell q0; have p1 := x1.cell q1; clear x1)
 go_upto_region 4 with (go_at_call 73; refine (HF _).out.mono ?_; rintro e W2 ⟨rfl, x2⟩; have HX := Lib.hid ((HX0.out.trans HX1.out).trans x2); have hb := HB.out.ext (HX1.out.trans x2); have y1 := hb.cell 1; have y2 := hb.cell 2; have y3 := hb.cell 3; have y4 := hb.cell 4; clear x2 hb)
 simp only [List.getElem?_toArray, List.getElem?_cons_zero, List.getElem?_cons_succ] at y1 y2 y3 y4
 clear q0 q1 p0 p1 HN HF HB HX0 HX1 hn1 hn2 hn3 hs64
 by_cases k3 : v = 0
 case neg =>
  have k4 : (v == 0) = false := by simpa using k3
  have k5 : (v != 0) = true := by simpa using k3
  have HZ := Lib.hid k3
  clear k3
  go_wp2_with (go_at_call 116; first | ((with_reducible refine (H_v _).out.mono ?_); rintro e W9 ⟨rfl, rfl⟩) | ((with_reducible refine (H_a _).out.mono ?_); rintro e W9 ⟨rfl, rfl⟩) | ((with_reducible refine (H_l _).out.mono ?_); rintro e W9 ⟨rfl, rfl⟩) | ((with_reducible refine (H_n _).out.mono ?_); rintro e W9 ⟨rfl, rfl⟩) | ((with_reducible refine (H_f _).out.mono ?_); rintro e W9 ⟨rfl, rfl⟩) | ((with_reducible refine (H_p _).out.mono ?_); rintro e W9 ⟨rfl, rfl⟩) | ((with_reducible refine (H_e _).out.mono ?_); rintro e W9 ⟨rfl, rfl⟩) | ((with_reducible refine (H_s _).out.mono ?_); rintro e W9 ⟨rfl, rfl⟩))
  go_ret
  exact ⟨ret_bB (by rw [HM.out]; exact (decide_eq_false (by have := HZ.out; omega)).symm), HX.out⟩
 have k4 : (v == 0) = true := by simpa using k3
 have k5 : (v != 0) = false := by simpa using k3
 have G_v := Lib.hid k3
 clear k3
 go_upto_region 6 with (go_at_call 116; first | ((with_reducible refine (H_v _).out.mono ?_); rintro e W9 ⟨rfl, rfl⟩) | ((with_reducible refine (H_a _).out.mono ?_); rintro e W9 ⟨rfl, rfl⟩) | ((with_reducible refine (H_l _).out.mono ?_); rintro e W9 ⟨rfl, rfl⟩) | ((with_reducible refine (H_n _).out.mono ?_); rintro e W9 ⟨rfl, rfl⟩) | ((with_reducible refine (H_f _).out.mono ?_); rintro e W9 ⟨rfl, rfl⟩) | ((with_reducible refine (H_p _).out.mono ?_); rintro e W9 ⟨rfl, rfl⟩) | ((with_reducible refine (H_e _).out.mono ?_); rintro e W9 ⟨rfl, rfl⟩) | ((with_reducible refine (H_s _).out.mono ?_); rintro e W9 ⟨rfl, rfl⟩))
 clear k4 k5
 go_upto_region 10 with (go_at_call 116; first | ((with_reducible refine (H_v _).out.mono ?_); rintro e W9 ⟨rfl, rfl⟩) | ((with_reducible refine (H_a _).out.mono ?_); rintro e W9 ⟨rfl, rfl⟩) | ((with_reducible refine (H_l _).out.mono ?_); rintro e W9 ⟨rfl, rfl⟩) | ((with_reducible refine (H_n _).out.mono ?_); rintro e W9 ⟨rfl, rfl⟩) | ((with_reducible refine (H_f _).out.mono ?_); rintro e W9 ⟨rfl, rfl⟩) | ((with_reducible refine (H_p _).out.mono ?_); rintro e W9 ⟨rfl, rfl⟩) | ((with_reducible refine (H_e _).out.mono ?_); rintro e W9 ⟨rfl, rfl⟩) | ((with_reducible refine (H_s _).out.mono ?_); rintro e W9 ⟨rfl, rfl⟩))
 by_cases k3 : a = 0
 case neg =>
  have k4 : (a == 0) = false := by simpa using k3
  have k5 : (a != 0) = true := by simpa using k3
  have HZ := Lib.hid k3
  clear k3
  go_wp2_with (go_at_call 116; first | ((with_reducible refine (H_v _).out.mono ?_); rintro e W9 ⟨rfl, rfl⟩) | ((with_reducible refine (H_a _).out.mono ?_); rintro e W9 ⟨rfl, rfl⟩) | ((with_reducible refine (H_l _).out.mono ?_); rintro e W9 ⟨rfl, rfl⟩) | ((with_reducible refine (H_n _).out.mono ?_); rintro e W9 ⟨rfl, rfl⟩) | ((with_reducible refine (H_f _).out.mono ?_); rintro e W9 ⟨rfl, rfl⟩) | ((with_reducible refine (H_p _).out.mono ?_); rintro e W9 ⟨rfl, rfl⟩) | ((with_reducible refine (H_e _).out.mono ?_); rintro e W9 ⟨rfl, rfl⟩) | ((with_reducible refine (H_s _).out.mono ?_); rintro e W9 ⟨rfl, rfl⟩))
  go_ret
  exact ⟨ret_bB (by rw [HM.out]; exact (decide_eq_false (by have := HZ.out; omega)).symm), HX.out⟩
 have k4 : (a == 0) = true := by simpa using k3
 have k5 : (a != 0) = false := by simpa using k3
 have G_a := Lib.hid k3
 clear k3
 go_upto_region 12 with (go_at_call 116; first | ((with_reducible refine (H_v _).out.mono ?_); rintro e W9 ⟨rfl, rfl⟩) | ((with_reducible refine (H_a _).out.mono ?_); rintro e W9 ⟨rfl, rfl⟩) | ((with_reducible refine (H_l _).out.mono ?_); rintro e W9 ⟨rfl, rfl⟩) | ((with_reducible refine (H_n _).out.mono ?_); rintro e W9 ⟨rfl, rfl⟩) | ((with_reducible refine (H_f _).out.mono ?_); rintro e W9 ⟨rfl, rfl⟩) | ((with_reducible refine (H_p _).out.mono ?_); rintro e W9 ⟨rfl, rfl⟩) | ((with_reducible refine (H_e _).out.mono ?_); rintro e W9 ⟨rfl, rfl⟩) | ((with_reducible refine (H_s _).out.mono ?_); rintro e W9 ⟨rfl, rfl⟩))
 clear k4 k5
 go_upto_region 14 with (go_at_call 116; first | ((with_reducible refine (H_v _).out.mono ?_); rintro e W9 ⟨rfl, rfl⟩) | ((with_reducible refine (H_a _).out.mono ?_); rintro e W9 ⟨rfl, rfl⟩) | ((with_reducible refine (H_l _).out.mono ?_); rintro e W9 ⟨rfl, rfl⟩) | ((with_reducible refine (H_n _).out.mono ?_); rintro e W9 ⟨rfl, rfl⟩) | ((with_reducible refine (H_f _).out.mono ?_); rintro e W9 ⟨rfl, rfl⟩) | ((with_reducible refine (H_p _).out.mono ?_); rintro e W9 ⟨rfl, rfl⟩) | ((with_reducible refine (H_e _).out.mono ?_); rintro e W9 ⟨rfl, rfl⟩) | ((with_reducible refine (H_s _).out.mono ?_); rintro e W9 ⟨rfl, rfl⟩))
 by_cases k1 : n < 0
 ·skip
  go_wp2_with (go_at_call 116; first | ((with_reducible refine (H_v _).out.mono ?_); rintro e W9 ⟨rfl, rfl⟩) | ((with_reducible refine (H_a _).out.mono ?_); rintro e W9 ⟨rfl, rfl⟩) | ((with_reducible refine (H_l _).out.mono ?_); rintro e W9 ⟨rfl, rfl⟩) | ((with_reducible refine (H_n _).out.mono ?_); rintro e W9 ⟨rfl, rfl⟩) | ((with_reducible refine (H_f _).out.mono ?_); rintro e W9 ⟨rfl, rfl⟩) | ((with_reducible refine (H_p _).out.mono ?_); rintro e W9 ⟨rfl, rfl⟩) | ((with_reducible refine (H_e _).out.mono ?_); rintro e W9 ⟨rfl, rfl⟩) | ((with_reducible refine (H_s _).out.mono ?_); rintro e W9 ⟨rfl, rfl⟩))
  go_ret
  exact ⟨ret_bB (by rw [HM.out]; exact (decide_eq_false (by omega)).symm), HX.out⟩
 by_cases k2 : 16 < n
 ·skip
  go_wp2_with (go_at_call 116; first | ((with_reducible refine (H_v _).out.mono ?_); rintro e W9 ⟨rfl, rfl⟩) | ((with_reducible refine (H_a _).out.mono ?_); rintro e W9 ⟨rfl, rfl⟩) | ((with_reducible refine (H_l _).out.mono ?_); rintro e W9 ⟨rfl, rfl⟩) | ((with_reducible refine (H_n _).out.mono ?_); rintro e W9 ⟨rfl, rfl⟩) | ((with_reducible refine (H_f _).out.mono ?_); rintro e W9 ⟨rfl, rfl⟩) | ((with_reducible refine (H_p _).out.mono ?_); rintro e W9 ⟨rfl, rfl⟩) | ((with_reducible refine (H_e _).out.mono ?_); rintro e W9 ⟨rfl, rfl⟩) | ((with_reducible refine (H_s _).out.mono ?_); rintro e W9 ⟨rfl, rfl⟩))
  go_ret
  exact ⟨ret_bB (by rw [HM.out]; exact (decide_eq_false (by omega)).symm), HX.out⟩
 go_upto_region 16 with (go_at_call 116; first | ((with_reducible refine (H_v _).out.mono ?_); rintro e W9 ⟨rfl, rfl⟩) | ((with_reducible refine (H_a _).out.mono ?_); rintro e W9 ⟨rfl, rfl⟩) | ((with_reducible refine (H_l _).out.mono ?_); rintro e W9 ⟨rfl, rfl⟩) | ((with_reducible refine (H_n _).out.mono ?_); rintro e W9 ⟨rfl, rfl⟩) | ((with_reducible refine (H_f _).out.mono ?_); rintro e W9 ⟨rfl, rfl⟩) | ((with_reducible refine (H_p _).out.mono ?_); rintro e W9 ⟨rfl, rfl⟩) | ((with_reducible refine (H_e _).out.mono ?_); rintro e W9 ⟨rfl, rfl⟩) | ((with_reducible refine (H_s _).out.mono ?_); rintro e W9 ⟨rfl, rfl⟩))
 have G_n : Hid (¬ n < 0 ∧ ¬ 16 < n) := Lib.hid (by omega)
 clear k1 k2
 go_upto_region 18 with (go_at_call 116; first | ((with_reducible refine (H_v _).out.mono ?_); rintro e W9 ⟨rfl, rfl⟩) | ((with_reducible refine (H_a _).out.mono ?_); rintro e W9 ⟨rfl, rfl⟩) | ((with_reducible refine (H_l _).out.mono ?_); rintro e W9 ⟨rfl, rfl⟩) | ((with_reducible refine (H_n _).out.mono ?_); rintro e W9 ⟨rfl, rfl⟩) | ((with_reducible refine (H_f _).out.mono ?_); rintro e W9 ⟨rfl, rfl⟩) | ((with_reducible refine (H_p _).out.mono ?_); rintro e W9 ⟨rfl, rfl⟩) | ((with_reducible refine (H_e _).out.mono ?_); rintro e W9 ⟨rfl, rfl⟩) | ((with_reducible refine (H_s _).out.mono ?_); rintro e W9 ⟨rfl, rfl⟩))
 go_wp2_with (go_at_call 116; first | ((with_reducible refine (H_v _).out.mono ?_); rintro e W9 ⟨rfl, rfl⟩) | ((with_reducible refine (H_a _).out.mono ?_); rintro e W9 ⟨rfl, rfl⟩) | ((with_reducible refine (H_l _).out.mono ?_); rintro e W9 ⟨rfl, rfl⟩) | ((with_reducible refine (H_n _).out.mono ?_); rintro e W9 ⟨rfl, rfl⟩) | ((with_reducible refine (H_f _).out.mono ?_); rintro e W9 ⟨rfl, rfl⟩) | ((with_reducible refine (H_p _).out.mono ?_); rintro e W9 ⟨rfl, rfl⟩) | ((with_reducible refine (H_e _).out.mono ?_); rintro e W9 ⟨rfl, rfl⟩) | ((with_reducible refine (H_s _).out.mono ?_); rintro e W9 ⟨rfl, rfl⟩))
 go_ret
 exact ⟨ret_bB (by rw [HM.out]; exact (decide_eq_true (by have g1 := G_v.out; have g2 := G_a.out; have g3 := G_n.out; omega)).symm), HX.out⟩
set_option maxRecDepth 100000 in
set_option maxHeartbeats 2000000 in
theorem rMay_l (op n v a : Int) (s : ByteArray) (w : World) (ho : 0 ≤ op ∧ op < 31) (hn : nameF op ≠ []) (hs : ¬ 64 < s.size) (hf : formL op = [108]) (hm : insMay ⟨op, s, n, v, a⟩ = decide ((v = 0) ∧ (0 ≤ a ∧ a ≤ 64) ∧ (n = 0) ∧ (s.size = 0))) :
  Calls Tryz.prog 72 #[insVal ⟨op, s, n, v, a⟩] w fun e w' => e = .returned (.bool (insMay ⟨op, s, n, v, a⟩)) ∧ Ext w w' := by
 have HM := Lib.hid hm
 obtain ⟨R, hR⟩ : ∃ R, insMay ⟨op, s, n, v, a⟩ = R := ⟨_, rfl⟩
 rw [hR] at HM ⊢
 have hx := ext_boxI w (.cells #[.int .i64 op, .string s, .int .i64 n, .int .i64 v, .int .i64 a] 25)
 have HB := Lib.hid (Blk.new w 25 #[.int .i64 op, .string s, .int .i64 n, .int .i64 v, .int .i64 a])
 have HX0 := Lib.hid hx
 have HN := Lib.hid (rName_any op (w.alloc (.cells #[.int .i64 op, .string s, .int .i64 n, .int .i64 v, .int .i64 a] 25)))
 have HF := fun W => Lib.hid (rForm_any op ho.1 ho.2 W)
 rw [hf] at HF
 have q0 := HB.out.cell 0
 have q1 := HB.out.cell 1
 have hn1 : ((mkB (nameF op)).toList == []) = false := by
  rw [ByteArray.toList_eq, mkB_list]
  simpa using hn
 have hn2 : (mkB (nameF op)).toList ≠ [] := by
  rw [ByteArray.toList_eq, mkB_list]
  exact hn
 have hn3 : (mkB (nameF op)).toList.isEmpty = false := by simpa using hn2
 have hs64 : ¬ (64 : Int) < (s.size : Int) := by omega
 have H_v := fun W => Lib.hid (rHas_lit (mkB [108]) 118 false 118 rfl (by decide) (by decide +kernel) W)
 have H_a := fun W => Lib.hid (rHas_lit (mkB [108]) 97 false 97 rfl (by decide) (by decide +kernel) W)
 have H_l := fun W => Lib.hid (rHas_lit (mkB [108]) 108 true 108 rfl (by decide) (by decide +kernel) W)
 have H_n := fun W => Lib.hid (rHas_lit (mkB [108]) 110 false 110 rfl (by decide) (by decide +kernel) W)
 have H_f := fun W => Lib.hid (rHas_lit (mkB [108]) 102 false 102 rfl (by decide) (by decide +kernel) W)
 have H_p := fun W => Lib.hid (rHas_lit (mkB [108]) 112 false 112 rfl (by decide) (by decide +kernel) W)
 have H_e := fun W => Lib.hid (rHas_lit (mkB [108]) 101 false 101 rfl (by decide) (by decide +kernel) W)
 have H_s := fun W => Lib.hid (rHas_lit (mkB [108]) 115 false 115 rfl (by decide) (by decide +kernel) W)
 generalize mkB (nameF op) = nm at *
 unfold insVal
 clear hm hR hx hf hn hs ho
 go_enter Tryz.func72, Tryz.ntmps72
 go_upto_region 3 with (go_at_call 14; refine HN.out.mono ?_; rintro e W1 ⟨rfl, x1⟩; have HX1 := Lib.hid x1; have p0 := x1.cell q0; have p1 := x1.cell q1; clear x1)
 go_upto_region 4 with (go_at_call 73; refine (HF _).out.mono ?_; rintro e W2 ⟨rfl, x2⟩; have HX := Lib.hid ((HX0.out.trans HX1.out).trans x2); have hb := HB.out.ext (HX1.out.trans x2); have y1 := hb.cell 1; have y2 := hb.cell 2; have y3 := hb.cell 3; have y4 := hb.cell 4; clear x2 hb)
 simp only [List.getElem?_toArray, List.getElem?_cons_zero, List.getElem?_cons_succ] at y1 y2 y3 y4
 clear q0 q1 p0 p1 HN HF HB HX0 HX1 hn1 hn2 hn3 hs64
 by_cases k3 : v = 0
 case neg =>
  have k4 : (v == 0) = false := by simpa using k3
  have k5 : (v != 0) = true := by simpa using k3
  have HZ := Lib.hid k3
  clear k3
  go_wp2_with (go_at_call 116; first | ((with_reducible refine (H_v _).out.mono ?_); rintro e W9 ⟨rfl, rfl⟩) | ((with_reducible refine (H_a _).out.mono ?_); rintro e W9 ⟨rfl, rfl⟩) | ((with_reducible refine (H_l _).out.mono ?_); rintro e W9 ⟨rfl, rfl⟩) | ((with_reducible refine (H_n _).out.mono ?_); rintro e W9 ⟨rfl, rfl⟩) | ((with_reducible refine (H_f _).out.mono ?_); rintro e W9 ⟨rfl, rfl⟩) | ((with_reducible refine (H_p _).out.mono ?_); rintro e W9 ⟨rfl, rfl⟩) | ((with_reducible refine (H_e _).out.mono ?_); rintro e W9 ⟨rfl, rfl⟩) | ((with_reducible refine (H_s _).out.mono ?_); rintro e W9 ⟨rfl, rfl⟩))
  go_ret
  exact ⟨ret_bB (by rw [HM.out]; exact (decide_eq_false (by have := HZ.out; omega)).symm), HX.out⟩
 have k4 : (v == 0) = true := by simpa using k3
 have k5 : (v != 0) = false := by simpa using k3
 have G_v := Lib.hid k3
 clear k3
 go_upto_region 6 with (go_at_call 116; first | ((with_reducible refine (H_v _).out.mono ?_); rintro e W9 ⟨rfl, rfl⟩) | ((with_reducible refine (H_a _).out.mono ?_); rintro e W9 ⟨rfl, rfl⟩) | ((with_reducible refine (H_l _).out.mono ?_); rintro e W9 ⟨rfl, rfl⟩) | ((with_reducible refine (H_n _).out.mono ?_); rintro e W9 ⟨rfl, rfl⟩) | ((with_reducible refine (H_f _).out.mono ?_); rintro e W9 ⟨rfl, rfl⟩) | ((with_reducible refine (H_p _).out.mono ?_); rintro e W9 ⟨rfl, rfl⟩) | ((with_reducible refine (H_e _).out.mono ?_); rintro e W9 ⟨rfl, rfl⟩) | ((with_reducible refine (H_s _).out.mono ?_); rintro e W9 ⟨rfl, rfl⟩))
 clear k4 k5
 go_upto_region 8 with (go_at_call 116; first | ((with_reducible refine (H_v _).out.mono ?_); rintro e W9 ⟨rfl, rfl⟩) | ((with_reducible refine (H_a _).out.mono ?_); rintro e W9 ⟨rfl, rfl⟩) | ((with_reducible refine (H_l _).out.mono ?_); rintro e W9 ⟨rfl, rfl⟩) | ((with_reducible refine (H_n _).out.mono ?_); rintro e W9 ⟨rfl, rfl⟩) | ((with_reducible refine (H_f _).out.mono ?_); rintro e W9 ⟨rfl, rfl⟩) | ((with_reducible refine (H_p _).out.mono ?_); rintro e W9 ⟨rfl, rfl⟩) | ((with_reducible refine (H_e _).out.mono ?_); rintro e W9 ⟨rfl, rfl⟩) | ((with_reducible refine (H_s _).out.mono ?_); rintro e W9 ⟨rfl, rfl⟩))
 by_cases k1 : a < 0
 ·skip
  go_wp2_with (go_at_call 116; first | ((with_reducible refine (H_v _).out.mono ?_); rintro e W9 ⟨rfl, rfl⟩) | ((with_reducible refine (H_a _).out.mono ?_); rintro e W9 ⟨rfl, rfl⟩) | ((with_reducible refine (H_l _).out.mono ?_); rintro e W9 ⟨rfl, rfl⟩) | ((with_reducible refine (H_n _).out.mono ?_); rintro e W9 ⟨rfl, rfl⟩) | ((with_reducible refine (H_f _).out.mono ?_); rintro e W9 ⟨rfl, rfl⟩) | ((with_reducible refine (H_p _).out.mono ?_); rintro e W9 ⟨rfl, rfl⟩) | ((with_reducible refine (H_e _).out.mono ?_); rintro e W9 ⟨rfl, rfl⟩) | ((with_reducible refine (H_s _).out.mono ?_); rintro e W9 ⟨rfl, rfl⟩))
  go_ret
  exact ⟨ret_bB (by rw [HM.out]; exact (decide_eq_false (by omega)).symm), HX.out⟩
 by_cases k2 : 64 < a
 ·skip
  go_wp2_with (go_at_call 116; first | ((with_reducible refine (H_v _).out.mono ?_); rintro e W9 ⟨rfl, rfl⟩) | ((with_reducible refine (H_a _).out.mono ?_); rintro e W9 ⟨rfl, rfl⟩) | ((with_reducible refine (H_l _).out.mono ?_); rintro e W9 ⟨rfl, rfl⟩) | ((with_reducible refine (H_n _).out.mono ?_); rintro e W9 ⟨rfl, rfl⟩) | ((with_reducible refine (H_f _).out.mono ?_); rintro e W9 ⟨rfl, rfl⟩) | ((with_reducible refine (H_p _).out.mono ?_); rintro e W9 ⟨rfl, rfl⟩) | ((with_reducible refine (H_e _).out.mono ?_); rintro e W9 ⟨rfl, rfl⟩) | ((with_reducible refine (H_s _).out.mono ?_); rintro e W9 ⟨rfl, rfl⟩))
  go_ret
  exact ⟨ret_bB (by rw [HM.out]; exact (decide_eq_false (by omega)).symm), HX.out⟩
 go_upto_region 10 with (go_at_call 116; first | ((with_reducible refine (H_v _).out.mono ?_); rintro e W9 ⟨rfl, rfl⟩) | ((with_reducible refine (H_a _).out.mono ?_); rintro e W9 ⟨rfl, rfl⟩) | ((with_reducible refine (H_l _).out.mono ?_); rintro e W9 ⟨rfl, rfl⟩) | ((with_reducible refine (H_n _).out.mono ?_); rintro e W9 ⟨rfl, rfl⟩) | ((with_reducible refine (H_f _).out.mono ?_); rintro e W9 ⟨rfl, rfl⟩) | ((with_reducible refine (H_p _).out.mono ?_); rintro e W9 ⟨rfl, rfl⟩) | ((with_reducible refine (H_e _).out.mono ?_); rintro e W9 ⟨rfl, rfl⟩) | ((with_reducible refine (H_s _).out.mono ?_); rintro e W9 ⟨rfl, rfl⟩))
 have G_a : Hid (¬ a < 0 ∧ ¬ 64 < a) := Lib.hid (by omega)
 clear k1 k2
 go_upto_region 12 with (go_at_call 116; first | ((with_reducible refine (H_v _).out.mono ?_); rintro e W9 ⟨rfl, rfl⟩) | ((with_reducible refine (H_a _).out.mono ?_); rintro e W9 ⟨rfl, rfl⟩) | ((with_reducible refine (H_l _).out.mono ?_); rintro e W9 ⟨rfl, rfl⟩) | ((with_reducible refine (H_n _).out.mono ?_); rintro e W9 ⟨rfl, rfl⟩) | ((with_reducible refine (H_f _).out.mono ?_); rintro e W9 ⟨rfl, rfl⟩) | ((with_reducible refine (H_p _).out.mono ?_); rintro e W9 ⟨rfl, rfl⟩) | ((with_reducible refine (H_e _).out.mono ?_); rintro e W9 ⟨rfl, rfl⟩) | ((with_reducible refine (H_s _).out.mono ?_); rintro e W9 ⟨rfl, rfl⟩))
 go_upto_region 16 with (go_at_call 116; first | ((with_reducible refine (H_v _).out.mono ?_); rintro e W9 ⟨rfl, rfl⟩) | ((with_reducible refine (H_a _).out.mono ?_); rintro e W9 ⟨rfl, rfl⟩) | ((with_reducible refine (H_l _).out.mono ?_); rintro e W9 ⟨rfl, rfl⟩) | ((with_reducible refine (H_n _).out.mono ?_); rintro e W9 ⟨rfl, rfl⟩) | ((with_reducible refine (H_f _).out.mono ?_); rintro e W9 ⟨rfl, rfl⟩) | ((with_reducible refine (H_p _).out.mono ?_); rintro e W9 ⟨rfl, rfl⟩) | ((with_reducible refine (H_e _).out.mono ?_); rintro e W9 ⟨rfl, rfl⟩) | ((with_reducible refine (H_s _).out.mono ?_); rintro e W9 ⟨rfl, rfl⟩))
 by_cases k3 : n = 0
 case neg =>
  have k4 : (n == 0) = false := by simpa using k3
  have k5 : (n != 0) = true := by simpa using k3
  have HZ := Lib.hid k3
  clear k3
  go_wp2_with (go_at_call 116; first | ((with_reducible refine (H_v _).out.mono ?_); rintro e W9 ⟨rfl, rfl⟩) | ((with_reducible refine (H_a _).out.mono ?_); rintro e W9 ⟨rfl, rfl⟩) | ((with_reducible refine (H_l _).out.mono ?_); rintro e W9 ⟨rfl, rfl⟩) | ((with_reducible refine (H_n _).out.mono ?_); rintro e W9 ⟨rfl, rfl⟩) | ((with_reducible refine (H_f _).out.mono ?_); rintro e W9 ⟨rfl, rfl⟩) | ((with_reducible refine (H_p _).out.mono ?_); rintro e W9 ⟨rfl, rfl⟩) | ((with_reducible refine (H_e _).out.mono ?_); rintro e W9 ⟨rfl, rfl⟩) | ((with_reducible refine (H_s _).out.mono ?_); rintro e W9 ⟨rfl, rfl⟩))
  go_ret
  exact ⟨ret_bB (by rw [HM.out]; exact (decide_eq_false (by have := HZ.out; omega)).symm), HX.out⟩
 have k4 : (n == 0) = true := by simpa using k3
 have k5 : (n != 0) = false := by simpa using k3
 have G_n := Lib.hid k3
 clear k3
 go_upto_region 18 with (go_at_call 116; first | ((with_reducible refine (H_v _).out.mono ?_); rintro e W9 ⟨rfl, rfl⟩) | ((with_reducible refine (H_a _).out.mono ?_); rintro e W9 ⟨rfl, rfl⟩) | ((with_reducible refine (H_l _).out.mono ?_); rintro e W9 ⟨rfl, rfl⟩) | ((with_reducible refine (H_n _).out.mono ?_); rintro e W9 ⟨rfl, rfl⟩) | ((with_reducible refine (H_f _).out.mono ?_); rintro e W9 ⟨rfl, rfl⟩) | ((with_reducible refine (H_p _).out.mono ?_); rintro e W9 ⟨rfl, rfl⟩) | ((with_reducible refine (H_e _).out.mono ?_); rintro e W9 ⟨rfl, rfl⟩) | ((with_reducible refine (H_s _).out.mono ?_); rintro e W9 ⟨rfl, rfl⟩))
 clear k4 k5
 by_cases k3 : s.size = 0
 ·have e1 := str_empty k3
  have e2 : (s.toList == []) = true := by rw [e1]; rfl
  have e3 : s.toList.isEmpty = true := by rw [e1]; rfl
  have HZ := Lib.hid k3
  clear k3
  go_wp2_with (go_at_call 116; first | ((with_reducible refine (H_v _).out.mono ?_); rintro e W9 ⟨rfl, rfl⟩) | ((with_reducible refine (H_a _).out.mono ?_); rintro e W9 ⟨rfl, rfl⟩) | ((with_reducible refine (H_l _).out.mono ?_); rintro e W9 ⟨rfl, rfl⟩) | ((with_reducible refine (H_n _).out.mono ?_); rintro e W9 ⟨rfl, rfl⟩) | ((with_reducible refine (H_f _).out.mono ?_); rintro e W9 ⟨rfl, rfl⟩) | ((with_reducible refine (H_p _).out.mono ?_); rintro e W9 ⟨rfl, rfl⟩) | ((with_reducible refine (H_e _).out.mono ?_); rintro e W9 ⟨rfl, rfl⟩) | ((with_reducible refine (H_s _).out.mono ?_); rintro e W9 ⟨rfl, rfl⟩))
  go_ret
  exact ⟨ret_bB (by rw [HM.out]; exact (decide_eq_true (by have g1 := G_v.out; have g2 := G_a.out; have g3 := G_n.out; have g4 := HZ.out; omega)).symm), HX.out⟩
 ·have e1 := str_full k3
  have e2 : (s.toList == []) = false := by simpa using e1
  have e3 : s.toList.isEmpty = false := by simpa using e1
  have HZ := Lib.hid k3
  clear k3
  go_wp2_with (go_at_call 116; first | ((with_reducible refine (H_v _).out.mono ?_); rintro e W9 ⟨rfl, rfl⟩) | ((with_reducible refine (H_a _).out.mono ?_); rintro e W9 ⟨rfl, rfl⟩) | ((with_reducible refine (H_l _).out.mono ?_); rintro e W9 ⟨rfl, rfl⟩) | ((with_reducible refine (H_n _).out.mono ?_); rintro e W9 ⟨rfl, rfl⟩) | ((with_reducible refine (H_f _).out.mono ?_); rintro e W9 ⟨rfl, rfl⟩) | ((with_reducible refine (H_p _).out.mono ?_); rintro e W9 ⟨rfl, rfl⟩) | ((with_reducible refine (H_e _).out.mono ?_); rintro e W9 ⟨rfl, rfl⟩) | ((with_reducible refine (H_s _).out.mono ?_); rintro e W9 ⟨rfl, rfl⟩))
  go_ret
  exact ⟨ret_bB (by rw [HM.out]; exact (decide_eq_false (by have g4 := HZ.out; omega)).symm), HX.out⟩
set_option maxRecDepth 100000 in
set_option maxHeartbeats 2000000 in
theorem rMay_none (op n v a : Int) (s : ByteArray) (w : World) (ho : 0 ≤ op ∧ op < 31) (hn : nameF op ≠ []) (hs : ¬ 64 < s.size) (hf : formL op = []) (hm : insMay ⟨op, s, n, v, a⟩ = decide ((v = 0) ∧ (a = 0) ∧ (n = 0) ∧ (s.size = 0))) :
  Calls Tryz.prog 72 #[insVal ⟨op, s, n, v, a⟩] w fun e w' => e = .returned (.bool (insMay ⟨op, s, n, v, a⟩)) ∧ Ext w w' := by
 have HM := Lib.hid hm
 obtain ⟨R, hR⟩ : ∃ R, insMay ⟨op, s, n, v, a⟩ = R := ⟨_, rfl⟩
 rw [hR] at HM ⊢
 have hx := ext_boxI w (.cells #[.int .i64 op, .string s, .int .i64 n, .int .i64 v, .int .i64 a] 25)
 have HB := Lib.hid (Blk.new w 25 #[.int .i64 op, .string s, .int .i64 n, .int .i64 v, .int .i64 a])
 have HX0 := Lib.hid hx
 have HN := Lib.hid (rName_any op (w.alloc (.cells #[.int .i64 op, .string s, .int .i64 n, .int .i64 v, .int .i64 a] 25)))
 have HF := fun W => Lib.hid (rForm_any op ho.1 ho.2 W)
 rw [hf] at HF
 have q0 := HB.out.cell 0
 have q1 := HB.out.cell 1
 have hn1 : ((mkB (nameF op)).toList == []) = false := by
  rw [ByteArray.toList_eq, mkB_list]
  simpa using hn
 have hn2 : (mkB (nameF op)).toList ≠ [] := by
  rw [ByteArray.toList_eq, mkB_list]
  exact hn
 have hn3 : (mkB (nameF op)).toList.isEmpty = false := by simpa using hn2
 have hs64 : ¬ (64 : Int) < (s.size : Int) := by omega
 have H_v := fun W => Lib.hid (rHas_lit (mkB []) 118 false 118 rfl (by decide) (by decide +kernel) W)
 have H_a := fun W => Lib.hid (rHas_lit (mkB []) 97 false 97 rfl (by decide) (by decide +kernel) W)
 have H_l := fun W => Lib.hid (rHas_lit (mkB []) 108 false 108 rfl (by decide) (by decide +kernel) W)
 have H_n := fun W => Lib.hid (rHas_lit (mkB []) 110 false 110 rfl (by decide) (by decide +kernel) W)
 have H_f := fun W => Lib.hid (rHas_lit (mkB []) 102 false 102 rfl (by decide) (by decide +kernel) W)
 have H_p := fun W => Lib.hid (rHas_lit (mkB []) 112 false 112 rfl (by decide) (by decide +kernel) W)
 have H_e := fun W => Lib.hid (rHas_lit (mkB []) 101 false 101 rfl (by decide) (by decide +kernel) W)
 have H_s := fun W => Lib.hid (rHas_lit (mkB []) 115 false 115 rfl (by decide) (by decide +kernel) W)
 generalize mkB (nameF op) = nm at *
 unfold insVal
 clear hm hR hx hf hn hs ho
 go_enter Tryz.func72, Tryz.ntmps72
 go_upto_region 3 with (go_at_call 14; refine HN.out.mono ?_; rintro e W1 ⟨rfl, x1⟩; have HX1 := Lib.hid x1; have p0 := x1.cell q0; have p1 := x1.cell q1; clear x1)
 go_upto_region 4 with (go_at_call 73; refine (HF _).out.mono ?_; rintro e W2 ⟨rfl, x2⟩; have HX := Lib.hid ((HX0.out.trans HX1.out).trans x2); have hb := HB.out.ext (HX1.out.trans x2); have y1 := hb.cell 1; have y2 := hb.cell 2; have y3 := hb.cell 3; have y4 := hb.cell 4; clear x2 hb)
 simp only [List.getElem?_toArray, List.getElem?_cons_zero, List.getElem?_cons_succ] at y1 y2 y3 y4
 clear q0 q1 p0 p1 HN HF HB HX0 HX1 hn1 hn2 hn3 hs64
 by_cases k3 : v = 0
 case neg =>
  have k4 : (v == 0) = false := by simpa using k3
  have k5 : (v != 0) = true := by simpa using k3
  have HZ := Lib.hid k3
  clear k3
  go_wp2_with (go_at_call 116; first | ((with_reducible refine (H_v _).out.mono ?_); rintro e W9 ⟨rfl, rfl⟩) | ((with_reducible refine (H_a _).out.mono ?_); rintro e W9 ⟨rfl, rfl⟩) | ((with_reducible refine (H_l _).out.mono ?_); rintro e W9 ⟨rfl, rfl⟩) | ((with_reducible refine (H_n _).out.mono ?_); rintro e W9 ⟨rfl, rfl⟩) | ((with_reducible refine (H_f _).out.mono ?_); rintro e W9 ⟨rfl, rfl⟩) | ((with_reducible refine (H_p _).out.mono ?_); rintro e W9 ⟨rfl, rfl⟩) | ((with_reducible refine (H_e _).out.mono ?_); rintro e W9 ⟨rfl, rfl⟩) | ((with_reducible refine (H_s _).out.mono ?_); rintro e W9 ⟨rfl, rfl⟩))
  go_ret
  exact ⟨ret_bB (by rw [HM.out]; exact (decide_eq_false (by have := HZ.out; omega)).symm), HX.out⟩
 have k4 : (v == 0) = true := by simpa using k3
 have k5 : (v != 0) = false := by simpa using k3
 have G_v := Lib.hid k3
 clear k3
 go_upto_region 6 with (go_at_call 116; first | ((with_reducible refine (H_v _).out.mono ?_); rintro e W9 ⟨rfl, rfl⟩) | ((with_reducible refine (H_a _).out.mono ?_); rintro e W9 ⟨rfl, rfl⟩) | ((with_reducible refine (H_l _).out.mono ?_); rintro e W9 ⟨rfl, rfl⟩) | ((with_reducible refine (H_n _).out.mono ?_); rintro e W9 ⟨rfl, rfl⟩) | ((with_reducible refine (H_f _).out.mono ?_); rintro e W9 ⟨rfl, rfl⟩) | ((with_reducible refine (H_p _).out.mono ?_); rintro e W9 ⟨rfl, rfl⟩) | ((with_reducible refine (H_e _).out.mono ?_); rintro e W9 ⟨rfl, rfl⟩) | ((with_reducible refine (H_s _).out.mono ?_); rintro e W9 ⟨rfl, rfl⟩))
 clear k4 k5
 go_upto_region 10 with (go_at_call 116; first | ((with_reducible refine (H_v _).out.mono ?_); rintro e W9 ⟨rfl, rfl⟩) | ((with_reducible refine (H_a _).out.mono ?_); rintro e W9 ⟨rfl, rfl⟩) | ((with_reducible refine (H_l _).out.mono ?_); rintro e W9 ⟨rfl, rfl⟩) | ((with_reducible refine (H_n _).out.mono ?_); rintro e W9 ⟨rfl, rfl⟩) | ((with_reducible refine (H_f _).out.mono ?_); rintro e W9 ⟨rfl, rfl⟩) | ((with_reducible refine (H_p _).out.mono ?_); rintro e W9 ⟨rfl, rfl⟩) | ((with_reducible refine (H_e _).out.mono ?_); rintro e W9 ⟨rfl, rfl⟩) | ((with_reducible refine (H_s _).out.mono ?_); rintro e W9 ⟨rfl, rfl⟩))
 by_cases k3 : a = 0
 case neg =>
  have k4 : (a == 0) = false := by simpa using k3
  have k5 : (a != 0) = true := by simpa using k3
  have HZ := Lib.hid k3
  clear k3
  go_wp2_with (go_at_call 116; first | ((with_reducible refine (H_v _).out.mono ?_); rintro e W9 ⟨rfl, rfl⟩) | ((with_reducible refine (H_a _).out.mono ?_); rintro e W9 ⟨rfl, rfl⟩) | ((with_reducible refine (H_l _).out.mono ?_); rintro e W9 ⟨rfl, rfl⟩) | ((with_reducible refine (H_n _).out.mono ?_); rintro e W9 ⟨rfl, rfl⟩) | ((with_reducible refine (H_f _).out.mono ?_); rintro e W9 ⟨rfl, rfl⟩) | ((with_reducible refine (H_p _).out.mono ?_); rintro e W9 ⟨rfl, rfl⟩) | ((with_reducible refine (H_e _).out.mono ?_); rintro e W9 ⟨rfl, rfl⟩) | ((with_reducible refine (H_s _).out.mono ?_); rintro e W9 ⟨rfl, rfl⟩))
  go_ret
  exact ⟨ret_bB (by rw [HM.out]; exact (decide_eq_false (by have := HZ.out; omega)).symm), HX.out⟩
 have k4 : (a == 0) = true := by simpa using k3
 have k5 : (a != 0) = false := by simpa using k3
 have G_a := Lib.hid k3
 clear k3
 go_upto_region 12 with (go_at_call 116; first | ((with_reducible refine (H_v _).out.mono ?_); rintro e W9 ⟨rfl, rfl⟩) | ((with_reducible refine (H_a _).out.mono ?_); rintro e W9 ⟨rfl, rfl⟩) | ((with_reducible refine (H_l _).out.mono ?_); rintro e W9 ⟨rfl, rfl⟩) | ((with_reducible refine (H_n _).out.mono ?_); rintro e W9 ⟨rfl, rfl⟩) | ((with_reducible refine (H_f _).out.mono ?_); rintro e W9 ⟨rfl, rfl⟩) | ((with_reducible refine (H_p _).out.mono ?_); rintro e W9 ⟨rfl, rfl⟩) | ((with_reducible refine (H_e _).out.mono ?_); rintro e W9 ⟨rfl, rfl⟩) | ((with_reducible refine (H_s _).out.mono ?_); rintro e W9 ⟨rfl, rfl⟩))
 clear k4 k5
 go_upto_region 16 with (go_at_call 116; first | ((with_reducible refine (H_v _).out.mono ?_); rintro e W9 ⟨rfl, rfl⟩) | ((with_reducible refine (H_a _).out.mono ?_); rintro e W9 ⟨rfl, rfl⟩) | ((with_reducible refine (H_l _).out.mono ?_); rintro e W9 ⟨rfl, rfl⟩) | ((with_reducible refine (H_n _).out.mono ?_); rintro e W9 ⟨rfl, rfl⟩) | ((with_reducible refine (H_f _).out.mono ?_); rintro e W9 ⟨rfl, rfl⟩) | ((with_reducible refine (H_p _).out.mono ?_); rintro e W9 ⟨rfl, rfl⟩) | ((with_reducible refine (H_e _).out.mono ?_); rintro e W9 ⟨rfl, rfl⟩) | ((with_reducible refine (H_s _).out.mono ?_); rintro e W9 ⟨rfl, rfl⟩))
 by_cases k3 : n = 0
 case neg =>
  have k4 : (n == 0) = false := by simpa using k3
  have k5 : (n != 0) = true := by simpa using k3
  have HZ := Lib.hid k3
  clear k3
  go_wp2_with (go_at_call 116; first | ((with_reducible refine (H_v _).out.mono ?_); rintro e W9 ⟨rfl, rfl⟩) | ((with_reducible refine (H_a _).out.mono ?_); rintro e W9 ⟨rfl, rfl⟩) | ((with_reducible refine (H_l _).out.mono ?_); rintro e W9 ⟨rfl, rfl⟩) | ((with_reducible refine (H_n _).out.mono ?_); rintro e W9 ⟨rfl, rfl⟩) | ((with_reducible refine (H_f _).out.mono ?_); rintro e W9 ⟨rfl, rfl⟩) | ((with_reducible refine (H_p _).out.mono ?_); rintro e W9 ⟨rfl, rfl⟩) | ((with_reducible refine (H_e _).out.mono ?_); rintro e W9 ⟨rfl, rfl⟩) | ((with_reducible refine (H_s _).out.mono ?_); rintro e W9 ⟨rfl, rfl⟩))
  go_ret
  exact ⟨ret_bB (by rw [HM.out]; exact (decide_eq_false (by have := HZ.out; omega)).symm), HX.out⟩
 have k4 : (n == 0) = true := by simpa using k3
 have k5 : (n != 0) = false := by simpa using k3
 have G_n := Lib.hid k3
 clear k3
 go_upto_region 18 with (go_at_call 116; first | ((with_reducible refine (H_v _).out.mono ?_); rintro e W9 ⟨rfl, rfl⟩) | ((with_reducible refine (H_a _).out.mono ?_); rintro e W9 ⟨rfl, rfl⟩) | ((with_reducible refine (H_l _).out.mono ?_); rintro e W9 ⟨rfl, rfl⟩) | ((with_reducible refine (H_n _).out.mono ?_); rintro e W9 ⟨rfl, rfl⟩) | ((with_reducible refine (H_f _).out.mono ?_); rintro e W9 ⟨rfl, rfl⟩) | ((with_reducible refine (H_p _).out.mono ?_); rintro e W9 ⟨rfl, rfl⟩) | ((with_reducible refine (H_e _).out.mono ?_); rintro e W9 ⟨rfl, rfl⟩) | ((with_reducible refine (H_s _).out.mono ?_); rintro e W9 ⟨rfl, rfl⟩))
 clear k4 k5
 by_cases k3 : s.size = 0
 ·have e1 := str_empty k3
  have e2 : (s.toList == []) = true := by rw [e1]; rfl
  have e3 : s.toList.isEmpty = true := by rw [e1]; rfl
  have HZ := Lib.hid k3
  clear k3
  go_wp2_with (go_at_call 116; first | ((with_reducible refine (H_v _).out.mono ?_); rintro e W9 ⟨rfl, rfl⟩) | ((with_reducible refine (H_a _).out.mono ?_); rintro e W9 ⟨rfl, rfl⟩) | ((with_reducible refine (H_l _).out.mono ?_); rintro e W9 ⟨rfl, rfl⟩) | ((with_reducible refine (H_n _).out.mono ?_); rintro e W9 ⟨rfl, rfl⟩) | ((with_reducible refine (H_f _).out.mono ?_); rintro e W9 ⟨rfl, rfl⟩) | ((with_reducible refine (H_p _).out.mono ?_); rintro e W9 ⟨rfl, rfl⟩) | ((with_reducible refine (H_e _).out.mono ?_); rintro e W9 ⟨rfl, rfl⟩) | ((with_reducible refine (H_s _).out.mono ?_); rintro e W9 ⟨rfl, rfl⟩))
  go_ret
  exact ⟨ret_bB (by rw [HM.out]; exact (decide_eq_true (by have g1 := G_v.out; have g2 := G_a.out; have g3 := G_n.out; have g4 := HZ.out; omega)).symm), HX.out⟩
 ·have e1 := str_full k3
  have e2 : (s.toList == []) = false := by simpa using e1
  have e3 : s.toList.isEmpty = false := by simpa using e1
  have HZ := Lib.hid k3
  clear k3
  go_wp2_with (go_at_call 116; first | ((with_reducible refine (H_v _).out.mono ?_); rintro e W9 ⟨rfl, rfl⟩) | ((with_reducible refine (H_a _).out.mono ?_); rintro e W9 ⟨rfl, rfl⟩) | ((with_reducible refine (H_l _).out.mono ?_); rintro e W9 ⟨rfl, rfl⟩) | ((with_reducible refine (H_n _).out.mono ?_); rintro e W9 ⟨rfl, rfl⟩) | ((with_reducible refine (H_f _).out.mono ?_); rintro e W9 ⟨rfl, rfl⟩) | ((with_reducible refine (H_p _).out.mono ?_); rintro e W9 ⟨rfl, rfl⟩) | ((with_reducible refine (H_e _).out.mono ?_); rintro e W9 ⟨rfl, rfl⟩) | ((with_reducible refine (H_s _).out.mono ?_); rintro e W9 ⟨rfl, rfl⟩))
  go_ret
  exact ⟨ret_bB (by rw [HM.out]; exact (decide_eq_false (by have g4 := HZ.out; omega)).symm), HX.out⟩
end Go.Proofs.YtmnnhdegoapfcaaGreatDoor
