/- The reference of layer 16: May, whole; the walk of register. -/
import Derived.Test.YtmnnhdegoapfcaaGreatDoorQ10
namespace Go.Proofs.YtmnnhdegoapfcaaGreatDoor
open Go.RowKit Go.El
theorem hm_gen {op n v a : Int} {s : ByteArray} (hs : ¬ 64 < s.size) (hn : nameF op ≠ []) {b1 b2 b4 b16 b32 b64 b128 b104 : Bool} (h1 : hasF op 1 = b1) (h2 : hasF op 2 = b2) (h4 : hasF op 4 = b4) (h16 : hasF op 16 = b16) (h32 : hasF op 32 = b32) (h64 : hasF op 64 = b64) (h128 : hasF op 128 = b128) (h104 : hasF op 104 = b104) :
  insMay ⟨op, s, n, v, a⟩ = (withinF b1 v (-64) 255 && (decide (v ≠ 0) || !b1) && (if b4 then withinF true a 0 64 else withinF b2 a 1 255) && (if b32 then withinF true n 1 16 else if b64 then withinF true n 0 16 else if b128 then withinF true n 0 64 else withinF b16 n (-9007199254740991) 9007199254740991) && (decide (s.size = 0) || b104)) := by
 subst h1 h2 h4 h16 h32 h64 h128 h104
 unfold insMay numberF
 exact if_neg (by simp [hn, hs])
set_option maxRecDepth 100000 in
theorem rMay_bad (op n v a : Int) (s : ByteArray) (w : World) (hn : nameF op = []) :
  Calls Tryz.prog 72 #[insVal ⟨op, s, n, v, a⟩] w fun e w' => e = .returned (.bool (insMay ⟨op, s, n, v, a⟩)) ∧ Ext w w' := by
 rw [show insMay ⟨op, s, n, v, a⟩ = false from if_pos (.inl hn)]
 have HX0 := Lib.hid (ext_boxI w (.cells #[.int .i64 op, .string s, .int .i64 n, .int .i64 v, .int .i64 a] 25))
 have hb := Blk.new w 25 #[.int .i64 op, .string s, .int .i64 n, .int .i64 v, .int .i64 a]
 have q0 := hb.cell 0
 have HN := Lib.hid (rName_any op (w.alloc (.cells #[.int .i64 op, .string s, .int .i64 n, .int .i64 v, .int .i64 a] 25)))
 rw [hn] at HN
 have k1 : ((mkB []).toList == []) = true := by decide +kernel
 have k2 : (mkB []).toList = [] := by decide +kernel
 have k3 : (mkB []).toList.isEmpty = true := by decide +kernel
 generalize mkB [] = nm at *
 unfold insVal
 clear hn hb
 go_enter Tryz.func72, Tryz.ntmps72
 go_wp2_with (go_at_call 14; refine HN.out.mono ?_; rintro e W1 ⟨rfl, x1⟩)
 go_ret
 exact ⟨rfl, HX0.out.trans x1⟩
set_option maxRecDepth 100000 in
theorem rMay_long (op n v a : Int) (s : ByteArray) (w : World) (hn : nameF op ≠ []) (hs : 64 < s.size) :
  Calls Tryz.prog 72 #[insVal ⟨op, s, n, v, a⟩] w fun e w' => e = .returned (.bool (insMay ⟨op, s, n, v, a⟩)) ∧ Ext w w' := by
 rw [show insMay ⟨op, s, n, v, a⟩ = false from if_pos (.inr hs)]
 have HX0 := Lib.hid (ext_boxI w (.cells #[.int .i64 op, .string s, .int .i64 n, .int .i64 v, .int .i64 a] 25))
 have hb := Blk.new w 25 #[.int .i64 op, .string s, .int .i64 n, .int .i64 v, .int .i64 a]
 have q0 := hb.cell 0
 have q1 := hb.cell 1
 have HN := Lib.hid (rName_any op (w.alloc (.cells #[.int .i64 op, .string s, .int .i64 n, .int .i64 v, .int .i64 a] 25)))
 have hn1 : ((mkB (nameF op)).toList == []) = false := by
  rw [ByteArray.toList_eq, mkB_list]
  simpa using hn
 have hn2 : (mkB (nameF op)).toList ≠ [] := by
  rw [ByteArray.toList_eq, mkB_list]
  exact hn
 have hn3 : (mkB (nameF op)).toList.isEmpty = false := by simpa using hn2
 have hs64 : (64 : Int) < (s.size : Int) := by omega
 generalize mkB (nameF op) = nm at *
 unfold insVal
 clear hn hb
 go_enter Tryz.func72, Tryz.ntmps72
 go_wp2_with (go_at_call 14; refine HN.out.mono ?_; rintro e W1 ⟨rfl, x1⟩; have p1 := x1.cell q1)
 go_ret
 exact ⟨rfl, HX0.out.trans x1⟩
theorem rMay_any (i : Ins) (w : World) :
  Calls Tryz.prog 72 #[insVal i] w fun e w' => e = .returned (.bool (insMay i)) ∧ Ext w w' := by
 obtain ⟨op, s, n, v, a⟩ := i
 by_cases hn : nameF op = []
 ·exact rMay_bad op n v a s w hn
 by_cases hs : 64 < s.size
 ·exact rMay_long op n v a s w hn hs
 obtain ⟨h0, h3⟩ := nameF_in hn
 obtain ⟨k, rfl⟩ : ∃ k : Nat, op = k := ⟨op.toNat, by omega⟩
 have hk : k < 31 := by omega
 match k, hk with
 | 0, _ => exact absurd (by decide +kernel) hn
 | 1, _ => exact rMay_va 1 n v a s w (by decide) hn hs (by decide +kernel) (by
   rw [hm_gen (op := 1) (n := n) (v := v) (a := a) hs hn (show hasF (1 : Int) 1 = true by decide +kernel) (show hasF (1 : Int) 2 = true by decide +kernel) (show hasF (1 : Int) 4 = false by decide +kernel) (show hasF (1 : Int) 16 = false by decide +kernel) (show hasF (1 : Int) 32 = false by decide +kernel) (show hasF (1 : Int) 64 = false by decide +kernel) (show hasF (1 : Int) 128 = false by decide +kernel) (show hasF (1 : Int) 104 = false by decide +kernel), Bool.eq_iff_iff]
   generalize s.size = z
   simp [withinF]
   try omega)
 | 2, _ => exact rMay_va 2 n v a s w (by decide) hn hs (by decide +kernel) (by
   rw [hm_gen (op := 2) (n := n) (v := v) (a := a) hs hn (show hasF (2 : Int) 1 = true by decide +kernel) (show hasF (2 : Int) 2 = true by decide +kernel) (show hasF (2 : Int) 4 = false by decide +kernel) (show hasF (2 : Int) 16 = false by decide +kernel) (show hasF (2 : Int) 32 = false by decide +kernel) (show hasF (2 : Int) 64 = false by decide +kernel) (show hasF (2 : Int) 128 = false by decide +kernel) (show hasF (2 : Int) 104 = false by decide +kernel), Bool.eq_iff_iff]
   generalize s.size = z
   simp [withinF]
   try omega)
 | 3, _ => exact rMay_sa 3 n v a s w (by decide) hn hs (by decide +kernel) (by
   rw [hm_gen (op := 3) (n := n) (v := v) (a := a) hs hn (show hasF (3 : Int) 1 = false by decide +kernel) (show hasF (3 : Int) 2 = true by decide +kernel) (show hasF (3 : Int) 4 = false by decide +kernel) (show hasF (3 : Int) 16 = false by decide +kernel) (show hasF (3 : Int) 32 = false by decide +kernel) (show hasF (3 : Int) 64 = false by decide +kernel) (show hasF (3 : Int) 128 = false by decide +kernel) (show hasF (3 : Int) 104 = true by decide +kernel), Bool.eq_iff_iff]
   generalize s.size = z
   simp [withinF]
   try omega)
 | 4, _ => exact rMay_na 4 n v a s w (by decide) hn hs (by decide +kernel) (by
   rw [hm_gen (op := 4) (n := n) (v := v) (a := a) hs hn (show hasF (4 : Int) 1 = false by decide +kernel) (show hasF (4 : Int) 2 = true by decide +kernel) (show hasF (4 : Int) 4 = false by decide +kernel) (show hasF (4 : Int) 16 = true by decide +kernel) (show hasF (4 : Int) 32 = false by decide +kernel) (show hasF (4 : Int) 64 = false by decide +kernel) (show hasF (4 : Int) 128 = false by decide +kernel) (show hasF (4 : Int) 104 = false by decide +kernel), Bool.eq_iff_iff]
   generalize s.size = z
   simp [withinF]
   try omega)
 | 5, _ => exact rMay_fa 5 n v a s w (by decide) hn hs (by decide +kernel) (by
   rw [hm_gen (op := 5) (n := n) (v := v) (a := a) hs hn (show hasF (5 : Int) 1 = false by decide +kernel) (show hasF (5 : Int) 2 = true by decide +kernel) (show hasF (5 : Int) 4 = false by decide +kernel) (show hasF (5 : Int) 16 = false by decide +kernel) (show hasF (5 : Int) 32 = true by decide +kernel) (show hasF (5 : Int) 64 = false by decide +kernel) (show hasF (5 : Int) 128 = false by decide +kernel) (show hasF (5 : Int) 104 = true by decide +kernel), Bool.eq_iff_iff]
   generalize s.size = z
   simp [withinF]
   try omega)
 | 6, _ => exact rMay_v 6 n v a s w (by decide) hn hs (by decide +kernel) (by
   rw [hm_gen (op := 6) (n := n) (v := v) (a := a) hs hn (show hasF (6 : Int) 1 = true by decide +kernel) (show hasF (6 : Int) 2 = false by decide +kernel) (show hasF (6 : Int) 4 = false by decide +kernel) (show hasF (6 : Int) 16 = false by decide +kernel) (show hasF (6 : Int) 32 = false by decide +kernel) (show hasF (6 : Int) 64 = false by decide +kernel) (show hasF (6 : Int) 128 = false by decide +kernel) (show hasF (6 : Int) 104 = false by decide +kernel), Bool.eq_iff_iff]
   generalize s.size = z
   simp [withinF]
   try omega)
 | 7, _ => exact rMay_v 7 n v a s w (by decide) hn hs (by decide +kernel) (by
   rw [hm_gen (op := 7) (n := n) (v := v) (a := a) hs hn (show hasF (7 : Int) 1 = true by decide +kernel) (show hasF (7 : Int) 2 = false by decide +kernel) (show hasF (7 : Int) 4 = false by decide +kernel) (show hasF (7 : Int) 16 = false by decide +kernel) (show hasF (7 : Int) 32 = false by decide +kernel) (show hasF (7 : Int) 64 = false by decide +kernel) (show hasF (7 : Int) 128 = false by decide +kernel) (show hasF (7 : Int) 104 = false by decide +kernel), Bool.eq_iff_iff]
   generalize s.size = z
   simp [withinF]
   try omega)
 | 8, _ => exact rMay_s 8 n v a s w (by decide) hn hs (by decide +kernel) (by
   rw [hm_gen (op := 8) (n := n) (v := v) (a := a) hs hn (show hasF (8 : Int) 1 = false by decide +kernel) (show hasF (8 : Int) 2 = false by decide +kernel) (show hasF (8 : Int) 4 = false by decide +kernel) (show hasF (8 : Int) 16 = false by decide +kernel) (show hasF (8 : Int) 32 = false by decide +kernel) (show hasF (8 : Int) 64 = false by decide +kernel) (show hasF (8 : Int) 128 = false by decide +kernel) (show hasF (8 : Int) 104 = true by decide +kernel), Bool.eq_iff_iff]
   generalize s.size = z
   simp [withinF]
   try omega)
 | 9, _ => exact rMay_n 9 n v a s w (by decide) hn hs (by decide +kernel) (by
   rw [hm_gen (op := 9) (n := n) (v := v) (a := a) hs hn (show hasF (9 : Int) 1 = false by decide +kernel) (show hasF (9 : Int) 2 = false by decide +kernel) (show hasF (9 : Int) 4 = false by decide +kernel) (show hasF (9 : Int) 16 = true by decide +kernel) (show hasF (9 : Int) 32 = false by decide +kernel) (show hasF (9 : Int) 64 = false by decide +kernel) (show hasF (9 : Int) 128 = false by decide +kernel) (show hasF (9 : Int) 104 = false by decide +kernel), Bool.eq_iff_iff]
   generalize s.size = z
   simp [withinF]
   try omega)
 | 10, _ => exact rMay_va 10 n v a s w (by decide) hn hs (by decide +kernel) (by
   rw [hm_gen (op := 10) (n := n) (v := v) (a := a) hs hn (show hasF (10 : Int) 1 = true by decide +kernel) (show hasF (10 : Int) 2 = true by decide +kernel) (show hasF (10 : Int) 4 = false by decide +kernel) (show hasF (10 : Int) 16 = false by decide +kernel) (show hasF (10 : Int) 32 = false by decide +kernel) (show hasF (10 : Int) 64 = false by decide +kernel) (show hasF (10 : Int) 128 = false by decide +kernel) (show hasF (10 : Int) 104 = false by decide +kernel), Bool.eq_iff_iff]
   generalize s.size = z
   simp [withinF]
   try omega)
 | 11, _ => exact rMay_va 11 n v a s w (by decide) hn hs (by decide +kernel) (by
   rw [hm_gen (op := 11) (n := n) (v := v) (a := a) hs hn (show hasF (11 : Int) 1 = true by decide +kernel) (show hasF (11 : Int) 2 = true by decide +kernel) (show hasF (11 : Int) 4 = false by decide +kernel) (show hasF (11 : Int) 16 = false by decide +kernel) (show hasF (11 : Int) 32 = false by decide +kernel) (show hasF (11 : Int) 64 = false by decide +kernel) (show hasF (11 : Int) 128 = false by decide +kernel) (show hasF (11 : Int) 104 = false by decide +kernel), Bool.eq_iff_iff]
   generalize s.size = z
   simp [withinF]
   try omega)
 | 12, _ => exact rMay_sa 12 n v a s w (by decide) hn hs (by decide +kernel) (by
   rw [hm_gen (op := 12) (n := n) (v := v) (a := a) hs hn (show hasF (12 : Int) 1 = false by decide +kernel) (show hasF (12 : Int) 2 = true by decide +kernel) (show hasF (12 : Int) 4 = false by decide +kernel) (show hasF (12 : Int) 16 = false by decide +kernel) (show hasF (12 : Int) 32 = false by decide +kernel) (show hasF (12 : Int) 64 = false by decide +kernel) (show hasF (12 : Int) 128 = false by decide +kernel) (show hasF (12 : Int) 104 = true by decide +kernel), Bool.eq_iff_iff]
   generalize s.size = z
   simp [withinF]
   try omega)
 | 13, _ => exact rMay_na 13 n v a s w (by decide) hn hs (by decide +kernel) (by
   rw [hm_gen (op := 13) (n := n) (v := v) (a := a) hs hn (show hasF (13 : Int) 1 = false by decide +kernel) (show hasF (13 : Int) 2 = true by decide +kernel) (show hasF (13 : Int) 4 = false by decide +kernel) (show hasF (13 : Int) 16 = true by decide +kernel) (show hasF (13 : Int) 32 = false by decide +kernel) (show hasF (13 : Int) 64 = false by decide +kernel) (show hasF (13 : Int) 128 = false by decide +kernel) (show hasF (13 : Int) 104 = false by decide +kernel), Bool.eq_iff_iff]
   generalize s.size = z
   simp [withinF]
   try omega)
 | 14, _ => exact rMay_fa 14 n v a s w (by decide) hn hs (by decide +kernel) (by
   rw [hm_gen (op := 14) (n := n) (v := v) (a := a) hs hn (show hasF (14 : Int) 1 = false by decide +kernel) (show hasF (14 : Int) 2 = true by decide +kernel) (show hasF (14 : Int) 4 = false by decide +kernel) (show hasF (14 : Int) 16 = false by decide +kernel) (show hasF (14 : Int) 32 = true by decide +kernel) (show hasF (14 : Int) 64 = false by decide +kernel) (show hasF (14 : Int) 128 = false by decide +kernel) (show hasF (14 : Int) 104 = true by decide +kernel), Bool.eq_iff_iff]
   generalize s.size = z
   simp [withinF]
   try omega)
 | 15, _ => exact rMay_v 15 n v a s w (by decide) hn hs (by decide +kernel) (by
   rw [hm_gen (op := 15) (n := n) (v := v) (a := a) hs hn (show hasF (15 : Int) 1 = true by decide +kernel) (show hasF (15 : Int) 2 = false by decide +kernel) (show hasF (15 : Int) 4 = false by decide +kernel) (show hasF (15 : Int) 16 = false by decide +kernel) (show hasF (15 : Int) 32 = false by decide +kernel) (show hasF (15 : Int) 64 = false by decide +kernel) (show hasF (15 : Int) 128 = false by decide +kernel) (show hasF (15 : Int) 104 = false by decide +kernel), Bool.eq_iff_iff]
   generalize s.size = z
   simp [withinF]
   try omega)
 | 16, _ => exact rMay_v 16 n v a s w (by decide) hn hs (by decide +kernel) (by
   rw [hm_gen (op := 16) (n := n) (v := v) (a := a) hs hn (show hasF (16 : Int) 1 = true by decide +kernel) (show hasF (16 : Int) 2 = false by decide +kernel) (show hasF (16 : Int) 4 = false by decide +kernel) (show hasF (16 : Int) 16 = false by decide +kernel) (show hasF (16 : Int) 32 = false by decide +kernel) (show hasF (16 : Int) 64 = false by decide +kernel) (show hasF (16 : Int) 128 = false by decide +kernel) (show hasF (16 : Int) 104 = false by decide +kernel), Bool.eq_iff_iff]
   generalize s.size = z
   simp [withinF]
   try omega)
 | 17, _ => exact rMay_s 17 n v a s w (by decide) hn hs (by decide +kernel) (by
   rw [hm_gen (op := 17) (n := n) (v := v) (a := a) hs hn (show hasF (17 : Int) 1 = false by decide +kernel) (show hasF (17 : Int) 2 = false by decide +kernel) (show hasF (17 : Int) 4 = false by decide +kernel) (show hasF (17 : Int) 16 = false by decide +kernel) (show hasF (17 : Int) 32 = false by decide +kernel) (show hasF (17 : Int) 64 = false by decide +kernel) (show hasF (17 : Int) 128 = false by decide +kernel) (show hasF (17 : Int) 104 = true by decide +kernel), Bool.eq_iff_iff]
   generalize s.size = z
   simp [withinF]
   try omega)
 | 18, _ => exact rMay_n 18 n v a s w (by decide) hn hs (by decide +kernel) (by
   rw [hm_gen (op := 18) (n := n) (v := v) (a := a) hs hn (show hasF (18 : Int) 1 = false by decide +kernel) (show hasF (18 : Int) 2 = false by decide +kernel) (show hasF (18 : Int) 4 = false by decide +kernel) (show hasF (18 : Int) 16 = true by decide +kernel) (show hasF (18 : Int) 32 = false by decide +kernel) (show hasF (18 : Int) 64 = false by decide +kernel) (show hasF (18 : Int) 128 = false by decide +kernel) (show hasF (18 : Int) 104 = false by decide +kernel), Bool.eq_iff_iff]
   generalize s.size = z
   simp [withinF]
   try omega)
 | 19, _ => exact rMay_e 19 n v a s w (by decide) hn hs (by decide +kernel) (by
   rw [hm_gen (op := 19) (n := n) (v := v) (a := a) hs hn (show hasF (19 : Int) 1 = false by decide +kernel) (show hasF (19 : Int) 2 = false by decide +kernel) (show hasF (19 : Int) 4 = false by decide +kernel) (show hasF (19 : Int) 16 = false by decide +kernel) (show hasF (19 : Int) 32 = false by decide +kernel) (show hasF (19 : Int) 64 = false by decide +kernel) (show hasF (19 : Int) 128 = true by decide +kernel) (show hasF (19 : Int) 104 = false by decide +kernel), Bool.eq_iff_iff]
   generalize s.size = z
   simp [withinF]
   try omega)
 | 20, _ => exact rMay_none 20 n v a s w (by decide) hn hs (by decide +kernel) (by
   rw [hm_gen (op := 20) (n := n) (v := v) (a := a) hs hn (show hasF (20 : Int) 1 = false by decide +kernel) (show hasF (20 : Int) 2 = false by decide +kernel) (show hasF (20 : Int) 4 = false by decide +kernel) (show hasF (20 : Int) 16 = false by decide +kernel) (show hasF (20 : Int) 32 = false by decide +kernel) (show hasF (20 : Int) 64 = false by decide +kernel) (show hasF (20 : Int) 128 = false by decide +kernel) (show hasF (20 : Int) 104 = false by decide +kernel), Bool.eq_iff_iff]
   generalize s.size = z
   simp [withinF]
   try omega)
 | 21, _ => exact rMay_pl 21 n v a s w (by decide) hn hs (by decide +kernel) (by
   rw [hm_gen (op := 21) (n := n) (v := v) (a := a) hs hn (show hasF (21 : Int) 1 = false by decide +kernel) (show hasF (21 : Int) 2 = false by decide +kernel) (show hasF (21 : Int) 4 = true by decide +kernel) (show hasF (21 : Int) 16 = false by decide +kernel) (show hasF (21 : Int) 32 = false by decide +kernel) (show hasF (21 : Int) 64 = true by decide +kernel) (show hasF (21 : Int) 128 = false by decide +kernel) (show hasF (21 : Int) 104 = true by decide +kernel), Bool.eq_iff_iff]
   generalize s.size = z
   simp [withinF]
   try omega)
 | 22, _ => exact rMay_p 22 n v a s w (by decide) hn hs (by decide +kernel) (by
   rw [hm_gen (op := 22) (n := n) (v := v) (a := a) hs hn (show hasF (22 : Int) 1 = false by decide +kernel) (show hasF (22 : Int) 2 = false by decide +kernel) (show hasF (22 : Int) 4 = false by decide +kernel) (show hasF (22 : Int) 16 = false by decide +kernel) (show hasF (22 : Int) 32 = false by decide +kernel) (show hasF (22 : Int) 64 = true by decide +kernel) (show hasF (22 : Int) 128 = false by decide +kernel) (show hasF (22 : Int) 104 = true by decide +kernel), Bool.eq_iff_iff]
   generalize s.size = z
   simp [withinF]
   try omega)
 | 23, _ => exact rMay_l 23 n v a s w (by decide) hn hs (by decide +kernel) (by
   rw [hm_gen (op := 23) (n := n) (v := v) (a := a) hs hn (show hasF (23 : Int) 1 = false by decide +kernel) (show hasF (23 : Int) 2 = false by decide +kernel) (show hasF (23 : Int) 4 = true by decide +kernel) (show hasF (23 : Int) 16 = false by decide +kernel) (show hasF (23 : Int) 32 = false by decide +kernel) (show hasF (23 : Int) 64 = false by decide +kernel) (show hasF (23 : Int) 128 = false by decide +kernel) (show hasF (23 : Int) 104 = false by decide +kernel), Bool.eq_iff_iff]
   generalize s.size = z
   simp [withinF]
   try omega)
 | 24, _ => exact rMay_none 24 n v a s w (by decide) hn hs (by decide +kernel) (by
   rw [hm_gen (op := 24) (n := n) (v := v) (a := a) hs hn (show hasF (24 : Int) 1 = false by decide +kernel) (show hasF (24 : Int) 2 = false by decide +kernel) (show hasF (24 : Int) 4 = false by decide +kernel) (show hasF (24 : Int) 16 = false by decide +kernel) (show hasF (24 : Int) 32 = false by decide +kernel) (show hasF (24 : Int) 64 = false by decide +kernel) (show hasF (24 : Int) 128 = false by decide +kernel) (show hasF (24 : Int) 104 = false by decide +kernel), Bool.eq_iff_iff]
   generalize s.size = z
   simp [withinF]
   try omega)
 | 25, _ => exact rMay_none 25 n v a s w (by decide) hn hs (by decide +kernel) (by
   rw [hm_gen (op := 25) (n := n) (v := v) (a := a) hs hn (show hasF (25 : Int) 1 = false by decide +kernel) (show hasF (25 : Int) 2 = false by decide +kernel) (show hasF (25 : Int) 4 = false by decide +kernel) (show hasF (25 : Int) 16 = false by decide +kernel) (show hasF (25 : Int) 32 = false by decide +kernel) (show hasF (25 : Int) 64 = false by decide +kernel) (show hasF (25 : Int) 128 = false by decide +kernel) (show hasF (25 : Int) 104 = false by decide +kernel), Bool.eq_iff_iff]
   generalize s.size = z
   simp [withinF]
   try omega)
 | 26, _ => exact rMay_v 26 n v a s w (by decide) hn hs (by decide +kernel) (by
   rw [hm_gen (op := 26) (n := n) (v := v) (a := a) hs hn (show hasF (26 : Int) 1 = true by decide +kernel) (show hasF (26 : Int) 2 = false by decide +kernel) (show hasF (26 : Int) 4 = false by decide +kernel) (show hasF (26 : Int) 16 = false by decide +kernel) (show hasF (26 : Int) 32 = false by decide +kernel) (show hasF (26 : Int) 64 = false by decide +kernel) (show hasF (26 : Int) 128 = false by decide +kernel) (show hasF (26 : Int) 104 = false by decide +kernel), Bool.eq_iff_iff]
   generalize s.size = z
   simp [withinF]
   try omega)
 | 27, _ => exact rMay_v 27 n v a s w (by decide) hn hs (by decide +kernel) (by
   rw [hm_gen (op := 27) (n := n) (v := v) (a := a) hs hn (show hasF (27 : Int) 1 = true by decide +kernel) (show hasF (27 : Int) 2 = false by decide +kernel) (show hasF (27 : Int) 4 = false by decide +kernel) (show hasF (27 : Int) 16 = false by decide +kernel) (show hasF (27 : Int) 32 = false by decide +kernel) (show hasF (27 : Int) 64 = false by decide +kernel) (show hasF (27 : Int) 128 = false by decide +kernel) (show hasF (27 : Int) 104 = false by decide +kernel), Bool.eq_iff_iff]
   generalize s.size = z
   simp [withinF]
   try omega)
 | 28, _ => exact rMay_none 28 n v a s w (by decide) hn hs (by decide +kernel) (by
   rw [hm_gen (op := 28) (n := n) (v := v) (a := a) hs hn (show hasF (28 : Int) 1 = false by decide +kernel) (show hasF (28 : Int) 2 = false by decide +kernel) (show hasF (28 : Int) 4 = false by decide +kernel) (show hasF (28 : Int) 16 = false by decide +kernel) (show hasF (28 : Int) 32 = false by decide +kernel) (show hasF (28 : Int) 64 = false by decide +kernel) (show hasF (28 : Int) 128 = false by decide +kernel) (show hasF (28 : Int) 104 = false by decide +kernel), Bool.eq_iff_iff]
   generalize s.size = z
   simp [withinF]
   try omega)
 | 29, _ => exact rMay_v 29 n v a s w (by decide) hn hs (by decide +kernel) (by
   rw [hm_gen (op := 29) (n := n) (v := v) (a := a) hs hn (show hasF (29 : Int) 1 = true by decide +kernel) (show hasF (29 : Int) 2 = false by decide +kernel) (show hasF (29 : Int) 4 = false by decide +kernel) (show hasF (29 : Int) 16 = false by decide +kernel) (show hasF (29 : Int) 32 = false by decide +kernel) (show hasF (29 : Int) 64 = false by decide +kernel) (show hasF (29 : Int) 128 = false by decide +kernel) (show hasF (29 : Int) 104 = false by decide +kernel), Bool.eq_iff_iff]
   generalize s.size = z
   simp [withinF]
   try omega)
 | 30, _ => exact rMay_none 30 n v a s w (by decide) hn hs (by decide +kernel) (by
   rw [hm_gen (op := 30) (n := n) (v := v) (a := a) hs hn (show hasF (30 : Int) 1 = false by decide +kernel) (show hasF (30 : Int) 2 = false by decide +kernel) (show hasF (30 : Int) 4 = false by decide +kernel) (show hasF (30 : Int) 16 = false by decide +kernel) (show hasF (30 : Int) 32 = false by decide +kernel) (show hasF (30 : Int) 64 = false by decide +kernel) (show hasF (30 : Int) 128 = false by decide +kernel) (show hasF (30 : Int) 104 = false by decide +kernel), Bool.eq_iff_iff]
   generalize s.size = z
   simp [withinF]
   try omega)
set_option maxRecDepth 100000 in
theorem rReg_any (v : Int) (w : World) (hv : -64 ≤ v) (hv2 : v ≤ 255) :
  Calls Tryz.prog 74 #[.int .i64 v] w fun e w' => e = .returned (.string (mkB (regT v))) ∧ w = w' := by
 by_cases h : v < 0
 ·have HI := Lib.hid (refDigits_any (-v) (by omega) (by omega) w)
  have HR : Hid (mkB (regT v) = ⟨#[89]⟩ ++ strB (Lib.itoa (-v))) := by
   unfold regT
   rw [if_pos h]
   rfl
  have hbig : ¬ 9223372036854775807 < 1 + (strB (Lib.itoa (-v))).size := by
   rw [strB_size]
   have := Lib.itoa_length_le (-v) (by omega) (by omega)
   omega
  generalize mkB (regT v) = r at *
  generalize strB (Lib.itoa (-v)) = q at *
  go_enter Tryz.func74, Tryz.ntmps74
  go_wp2_with (go_at_call 75; refine HI.out.mono ?_; rintro e W1 ⟨rfl, rfl⟩)
  go_ret
  exact ⟨by rw [HR.out]; rfl, rfl⟩
 ·have HI := Lib.hid (refDigits_any v (by omega) (by omega) w)
  have HR : Hid (mkB (regT v) = ⟨#[88]⟩ ++ strB (Lib.itoa v)) := by
   unfold regT
   rw [if_neg h]
   rfl
  have hbig : ¬ 9223372036854775807 < 1 + (strB (Lib.itoa v)).size := by
   rw [strB_size]
   have := Lib.itoa_length_le v (by omega) (by omega)
   omega
  generalize mkB (regT v) = r at *
  generalize strB (Lib.itoa v) = q at *
  go_enter Tryz.func74, Tryz.ntmps74
  go_wp2_with (go_at_call 75; refine HI.out.mono ?_; rintro e W1 ⟨rfl, rfl⟩)
  go_ret
  exact ⟨by rw [HR.out]; rfl, rfl⟩
end Go.Proofs.YtmnnhdegoapfcaaGreatDoor
