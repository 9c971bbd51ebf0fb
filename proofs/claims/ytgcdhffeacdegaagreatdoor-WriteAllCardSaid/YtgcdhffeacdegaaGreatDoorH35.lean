/- Layer 8, the program: the walk of one: sign, great. -/
import Derived.Test.YtgcdhffeacdegaaGreatDoorH34
namespace Go.Proofs.YtgcdhffeacdegaaGreatDoor
open Go.RowKit Go.El
set_option maxRecDepth 100000 in
set_option maxHeartbeats 4000000 in
theorem pOne_sign (sb b off cap : Nat) (B : List UInt8) (i : Nat) (c : UInt8) (w : World) (h : ScAt w sb b off cap B i) (o : Old w sb b) (ho : B[i]? = some c) (hk : endsS B i c = false ∧ isSign c = true) :
  Calls Tryz.prog 92 #[.pointer (some ⟨sb, 0, none⟩)] w fun e w' => e = .returned (onePV (oneS B i c)) ∧ OneIn w w' sb b off cap B (oneS B i c) := by
 have hlt : i < B.length := (List.getElem?_eq_some_iff.1 ho).1
 have hcp := h.cap
 have hlen := h.len
 have hck : ¬ cap = i := by omega
 have d1 : ∀ x, (w.alloc x).cell? ⟨sb, 0, none⟩ = _ := fun x => (ext_box w x).cell h.c0
 have d2 : ∀ x, (w.alloc x).cell? ⟨sb, 1, none⟩ = _ := fun x => (ext_box w x).cell h.c1
 have d0 : ∀ x, (w.alloc x).cell? ⟨b, off + i, none⟩ = _ := fun x => (ext_box w x).cell (h.cells ho)
 have HH := Lib.hid h
 have HO := Lib.hid ho
 have HB := Lib.hid o
 clear h ho o
 have hnsm : isSmall c = false := by
  have := all_bytes (p := fun c => (!isSign c || !isSmall c) = true) (by decide +kernel) c
  rw [hk.2] at this
  simpa using this
 have HE := Lib.hid hk.1
 have FA := Lib.hid (show hasB smallS c = false from by rw [hasB_small]; exact hnsm)
 have FB := Lib.hid (show hasB signS c = true from hk.2)
 have hle : rowTo isSign B i ≤ B.length := rowTo_le (by omega)
 have hsl := sub_length (l := B) (i := i) hle
 have hsz := strB_size (sub B i (rowTo isSign B i))
 rw [hsl] at hsz
 have HS := Lib.hid (oneS_sign (B := B) (i := i) hk.1 hk.2)
 have hN1 : 64 < (sub B i (rowTo isSign B i)).length → oneS B i c = .error 3 := fun g => HS.out.trans (nameS_long g)
 have hN2 : ¬ 64 < (sub B i (rowTo isSign B i)).length → oneS B i c = .ok (1, sub B i (rowTo isSign B i), 0, rowTo isSign B i) := fun g => HS.out.trans (nameS_ok g)
 have HR := fun W hW => Lib.hid (row_any sb b off cap B i signS isSign sign_has W hW)
 rw [hsl] at hN1 hN2
 generalize hgs : strB (sub B i (rowTo isSign B i)) = s at hsz HR
 have HGS := Lib.hid hgs
 generalize rowTo isSign B i = e at *
 clear hgs hsl hle hk HS
 by_cases hlong : 64 < e - i
 ·have HN := Lib.hid (hN1 hlong)
  clear hN1 hN2
  go_enter Tryz.func92, Tryz.ntmps92
  go_upto_region 1 with fail
  go_quiet (fail)
  go_upto_region 2 with fail
  refine wp_abs (fun V => ScIn w V sb b off cap B i ∧ Blk V w.heap.size 55 #[.int .i64 0, .string ⟨#[]⟩, .int .i64 0, .int .i64 0, .bool false]) ⟨((ScIn.start HH.out).go (ext_box _ _)).drewN _, (Blk.new _ _ _).ext ((Ext.refl _).drewN _)⟩ ?_
  clear d0 d1 d2
  rintro V ⟨hV, hz⟩
  have HQ := Lib.hid (PoAt.new hV hz HB.out)
  clear hV hz
  go_wp2_with (first | (go_at_call 131; refine (ends_is HQ.out.sc.sc HO.out HE.out).mono ?_; rintro e1 w1 ⟨rfl, hx⟩; have HQ1 := Lib.hid (HQ.out.go hx); clear hx) | (go_at_call 85; refine (in8_is (s := smallS) FA.out _).mono ?_; clear FA; rintro e1 w9 ⟨rfl, rfl⟩) | (go_at_call 85; refine (in8_is (s := signS) FB.out _).mono ?_; clear FB; rintro e1 w9 ⟨rfl, rfl⟩) | (go_at_call 133; refine (HR _ HQ1.out.sc.sc).out.mono ?_; rintro e1 w2 ⟨rfl, hy⟩; have HQ2 := Lib.hid (HQ1.out.in_ hy); clear hy; have kzc := HQ2.out.bz.cell; have kzf := HQ2.out.bz.frozen; have ktc := HQ2.out.bt.cell; have ktf := HQ2.out.bt.frozen; have hne1 := HQ2.out.ne.1; have hne2 := HQ2.out.ne.2))
  have kb := blk_set5 (po_set HQ2.out.bz hne1 1 (.string s)) (.int .i64 0) (.string ⟨#[]⟩) (.int .i64 0) (.int .i64 0) (.bool false)
  have kc := kb.cell
  refine bodyPost_ret (v := onePV (oneS B i c)) ?_ rfl ⟨rfl, ?_⟩
  ·rw [HN.out]
   simp [results, Tryz.results92, go_sem, onePV, kc]
  ·rw [HN.out]
   exact ⟨_, ((HQ2.out.sc.set HB.out (p := ⟨V.heap.size, 1, none⟩) (Nat.le_of_lt HQ2.out.ht) (.string s)).set5 HB.out (Nat.le_refl _) _ _ _ _ _)⟩
 ·have HN := Lib.hid (hN2 hlong)
  clear hN1 hN2
  go_enter Tryz.func92, Tryz.ntmps92
  go_upto_region 1 with fail
  go_quiet (fail)
  go_upto_region 2 with fail
  refine wp_abs (fun V => ScIn w V sb b off cap B i ∧ Blk V w.heap.size 55 #[.int .i64 0, .string ⟨#[]⟩, .int .i64 0, .int .i64 0, .bool false]) ⟨((ScIn.start HH.out).go (ext_box _ _)).drewN _, (Blk.new _ _ _).ext ((Ext.refl _).drewN _)⟩ ?_
  clear d0 d1 d2
  rintro V ⟨hV, hz⟩
  have HQ := Lib.hid (PoAt.new hV hz HB.out)
  clear hV hz
  go_wp2_with (first | (go_at_call 131; refine (ends_is HQ.out.sc.sc HO.out HE.out).mono ?_; rintro e1 w1 ⟨rfl, hx⟩; have HQ1 := Lib.hid (HQ.out.go hx); clear hx) | (go_at_call 85; refine (in8_is (s := smallS) FA.out _).mono ?_; clear FA; rintro e1 w9 ⟨rfl, rfl⟩) | (go_at_call 85; refine (in8_is (s := signS) FB.out _).mono ?_; clear FB; rintro e1 w9 ⟨rfl, rfl⟩) | (go_at_call 133; refine (HR _ HQ1.out.sc.sc).out.mono ?_; rintro e1 w2 ⟨rfl, hy⟩; have HQ2 := Lib.hid (HQ1.out.in_ hy); clear hy; have kzc := HQ2.out.bz.cell; have kzf := HQ2.out.bz.frozen; have ktc := HQ2.out.bt.cell; have ktf := HQ2.out.bt.frozen; have hne1 := HQ2.out.ne.1; have hne2 := HQ2.out.ne.2))
  have kb := blk_set5 (po_set HQ2.out.bz hne1 1 (.string s)) (.int .i64 1) (.string s) (.int .i64 0) (.int .i64 0) (.bool false)
  have kc := kb.cell
  refine bodyPost_ret (v := onePV (oneS B i c)) ?_ rfl ⟨rfl, ?_⟩
  ·rw [HN.out]
   simp [results, Tryz.results92, go_sem, onePV, HGS.out, kc]
  ·rw [HN.out]
   exact ((HQ2.out.sc.set HB.out (p := ⟨V.heap.size, 1, none⟩) (Nat.le_of_lt HQ2.out.ht) (.string s)).set5 HB.out (Nat.le_refl _) _ _ _ _ _)
set_option maxRecDepth 100000 in
set_option maxHeartbeats 4000000 in
theorem pOne_great (sb b off cap : Nat) (B : List UInt8) (i : Nat) (c : UInt8) (w : World) (h : ScAt w sb b off cap B i) (o : Old w sb b) (ho : B[i]? = some c) (hk : isGreat c = true) :
  Calls Tryz.prog 92 #[.pointer (some ⟨sb, 0, none⟩)] w fun e w' => e = .returned (onePV (oneS B i c)) ∧ OneIn w w' sb b off cap B (oneS B i c) := by
 have hlt : i < B.length := (List.getElem?_eq_some_iff.1 ho).1
 have hcp := h.cap
 have hlen := h.len
 have hck : ¬ cap = i := by omega
 have d1 : ∀ x, (w.alloc x).cell? ⟨sb, 0, none⟩ = _ := fun x => (ext_box w x).cell h.c0
 have d2 : ∀ x, (w.alloc x).cell? ⟨sb, 1, none⟩ = _ := fun x => (ext_box w x).cell h.c1
 have d0 : ∀ x, (w.alloc x).cell? ⟨b, off + i, none⟩ = _ := fun x => (ext_box w x).cell (h.cells ho)
 have HH := Lib.hid h
 have HO := Lib.hid ho
 have HB := Lib.hid o
 clear h ho o
 obtain ⟨g1, g2, g3, g4, g5, g6, g7⟩ := great_not c hk
 have HE := Lib.hid (ends_no (B := B) (i := i) (c := c) g1)
 have FA := Lib.hid (show hasB smallS c = false from by rw [hasB_small]; exact g2)
 have FB := Lib.hid (show hasB signS c = false from g3)
 have FC := Lib.hid (show hasB soloS c = false from by rw [solo_has]; simp [g4, g5])
 have FD := Lib.hid (show hasB digS c = false from by rw [dig_has]; exact g6)
 have FE := Lib.hid (show hasB wordS c = true from by rw [hasB_word]; exact g7)
 clear g1 g2 g3 g4 g5 g6 g7
 have hle : rowTo isWord B i ≤ B.length := rowTo_le (by omega)
 have hsl := sub_length (l := B) (i := i) hle
 have hsz := strB_size (sub B i (rowTo isWord B i))
 rw [hsl] at hsz
 have HS := Lib.hid (oneS_great (B := B) (i := i) hk)
 have hN1 : 64 < (sub B i (rowTo isWord B i)).length → oneS B i c = .error 3 := fun g => HS.out.trans (nameS_long g)
 have hN2 : ¬ 64 < (sub B i (rowTo isWord B i)).length → oneS B i c = .ok (3, sub B i (rowTo isWord B i), 0, rowTo isWord B i) := fun g => HS.out.trans (nameS_ok g)
 have HR := fun W hW => Lib.hid (row_any sb b off cap B i wordS isWord hasB_word W hW)
 rw [hsl] at hN1 hN2
 generalize hgs : strB (sub B i (rowTo isWord B i)) = s at hsz HR
 have HGS := Lib.hid hgs
 generalize rowTo isWord B i = e at *
 clear hgs hsl hle hk HS
 by_cases hlong : 64 < e - i
 ·have HN := Lib.hid (hN1 hlong)
  clear hN1 hN2
  go_enter Tryz.func92, Tryz.ntmps92
  go_upto_region 1 with fail
  go_quiet (fail)
  go_upto_region 2 with fail
  refine wp_abs (fun V => ScIn w V sb b off cap B i ∧ Blk V w.heap.size 55 #[.int .i64 0, .string ⟨#[]⟩, .int .i64 0, .int .i64 0, .bool false]) ⟨((ScIn.start HH.out).go (ext_box _ _)).drewN _, (Blk.new _ _ _).ext ((Ext.refl _).drewN _)⟩ ?_
  clear d0 d1 d2
  rintro V ⟨hV, hz⟩
  have HQ := Lib.hid (PoAt.new hV hz HB.out)
  clear hV hz
  go_wp2_with (first | (go_at_call 131; refine (ends_is HQ.out.sc.sc HO.out HE.out).mono ?_; rintro e1 w1 ⟨rfl, hx⟩; have HQ1 := Lib.hid (HQ.out.go hx); clear hx) | (go_at_call 85; refine (in8_is (s := smallS) FA.out _).mono ?_; clear FA; rintro e1 w9 ⟨rfl, rfl⟩) | (go_at_call 85; refine (in8_is (s := signS) FB.out _).mono ?_; clear FB; rintro e1 w9 ⟨rfl, rfl⟩) | (go_at_call 85; refine (in8_is (s := soloS) FC.out _).mono ?_; clear FC; rintro e1 w9 ⟨rfl, rfl⟩) | (go_at_call 85; refine (in8_is (s := digS) FD.out _).mono ?_; clear FD; rintro e1 w9 ⟨rfl, rfl⟩) | (go_at_call 85; refine (in8_is (s := wordS) FE.out _).mono ?_; clear FE; rintro e1 w9 ⟨rfl, rfl⟩) | (go_at_call 133; refine (HR _ HQ1.out.sc.sc).out.mono ?_; rintro e1 w2 ⟨rfl, hy⟩; have HQ2 := Lib.hid (HQ1.out.in_ hy); clear hy; have kzc := HQ2.out.bz.cell; have kzf := HQ2.out.bz.frozen; have ktc := HQ2.out.bt.cell; have ktf := HQ2.out.bt.frozen; have hne1 := HQ2.out.ne.1; have hne2 := HQ2.out.ne.2))
  have kb := blk_set5 (po_set (po_set HQ2.out.bz hne1 0 (.int .i64 3)) hne1 1 (.string s)) (.int .i64 0) (.string ⟨#[]⟩) (.int .i64 0) (.int .i64 0) (.bool false)
  have kc := kb.cell
  refine bodyPost_ret (v := onePV (oneS B i c)) ?_ rfl ⟨rfl, ?_⟩
  ·rw [HN.out]
   simp [results, Tryz.results92, go_sem, onePV, kc]
  ·rw [HN.out]
   exact ⟨_, (((HQ2.out.sc.set HB.out (p := ⟨V.heap.size, 0, none⟩) (Nat.le_of_lt HQ2.out.ht) (.int .i64 3)).set HB.out (p := ⟨V.heap.size, 1, none⟩) (Nat.le_of_lt HQ2.out.ht) (.string s)).set5 HB.out (Nat.le_refl _) _ _ _ _ _)⟩
 ·have HN := Lib.hid (hN2 hlong)
  clear hN1 hN2
  go_enter Tryz.func92, Tryz.ntmps92
  go_upto_region 1 with fail
  go_quiet (fail)
  go_upto_region 2 with fail
  refine wp_abs (fun V => ScIn w V sb b off cap B i ∧ Blk V w.heap.size 55 #[.int .i64 0, .string ⟨#[]⟩, .int .i64 0, .int .i64 0, .bool false]) ⟨((ScIn.start HH.out).go (ext_box _ _)).drewN _, (Blk.new _ _ _).ext ((Ext.refl _).drewN _)⟩ ?_
  clear d0 d1 d2
  rintro V ⟨hV, hz⟩
  have HQ := Lib.hid (PoAt.new hV hz HB.out)
  clear hV hz
  go_wp2_with (first | (go_at_call 131; refine (ends_is HQ.out.sc.sc HO.out HE.out).mono ?_; rintro e1 w1 ⟨rfl, hx⟩; have HQ1 := Lib.hid (HQ.out.go hx); clear hx) | (go_at_call 85; refine (in8_is (s := smallS) FA.out _).mono ?_; clear FA; rintro e1 w9 ⟨rfl, rfl⟩) | (go_at_call 85; refine (in8_is (s := signS) FB.out _).mono ?_; clear FB; rintro e1 w9 ⟨rfl, rfl⟩) | (go_at_call 85; refine (in8_is (s := soloS) FC.out _).mono ?_; clear FC; rintro e1 w9 ⟨rfl, rfl⟩) | (go_at_call 85; refine (in8_is (s := digS) FD.out _).mono ?_; clear FD; rintro e1 w9 ⟨rfl, rfl⟩) | (go_at_call 85; refine (in8_is (s := wordS) FE.out _).mono ?_; clear FE; rintro e1 w9 ⟨rfl, rfl⟩) | (go_at_call 133; refine (HR _ HQ1.out.sc.sc).out.mono ?_; rintro e1 w2 ⟨rfl, hy⟩; have HQ2 := Lib.hid (HQ1.out.in_ hy); clear hy; have kzc := HQ2.out.bz.cell; have kzf := HQ2.out.bz.frozen; have ktc := HQ2.out.bt.cell; have ktf := HQ2.out.bt.frozen; have hne1 := HQ2.out.ne.1; have hne2 := HQ2.out.ne.2))
  have kb := blk_set5 (po_set (po_set HQ2.out.bz hne1 0 (.int .i64 3)) hne1 1 (.string s)) (.int .i64 3) (.string s) (.int .i64 0) (.int .i64 0) (.bool false)
  have kc := kb.cell
  refine bodyPost_ret (v := onePV (oneS B i c)) ?_ rfl ⟨rfl, ?_⟩
  ·rw [HN.out]
   simp [results, Tryz.results92, go_sem, onePV, HGS.out, kc]
  ·rw [HN.out]
   exact (((HQ2.out.sc.set HB.out (p := ⟨V.heap.size, 0, none⟩) (Nat.le_of_lt HQ2.out.ht) (.int .i64 3)).set HB.out (p := ⟨V.heap.size, 1, none⟩) (Nat.le_of_lt HQ2.out.ht) (.string s)).set5 HB.out (Nat.le_refl _) _ _ _ _ _)
end Go.Proofs.YtgcdhffeacdegaaGreatDoor
/- Layer 8, the program: the walk of one: end, solo, punct, other. -/
namespace Go.Proofs.YtgcdhffeacdegaaGreatDoor
open Go.RowKit Go.El
set_option maxRecDepth 100000 in
set_option maxHeartbeats 4000000 in
theorem pOne_end (sb b off cap : Nat) (B : List UInt8) (i : Nat) (c : UInt8) (w : World) (h : ScAt w sb b off cap B i) (o : Old w sb b) (ho : B[i]? = some c) (hk : endsS B i c = true) :
  Calls Tryz.prog 92 #[.pointer (some ⟨sb, 0, none⟩)] w fun e w' => e = .returned (onePV (oneS B i c)) ∧ OneIn w w' sb b off cap B (oneS B i c) := by
 have hlt : i < B.length := (List.getElem?_eq_some_iff.1 ho).1
 have hcp := h.cap
 have hlen := h.len
 have hck : ¬ cap = i := by omega
 have d1 : ∀ x, (w.alloc x).cell? ⟨sb, 0, none⟩ = _ := fun x => (ext_box w x).cell h.c0
 have d2 : ∀ x, (w.alloc x).cell? ⟨sb, 1, none⟩ = _ := fun x => (ext_box w x).cell h.c1
 have d0 : ∀ x, (w.alloc x).cell? ⟨b, off + i, none⟩ = _ := fun x => (ext_box w x).cell (h.cells ho)
 have HH := Lib.hid h
 have HO := Lib.hid ho
 have HB := Lib.hid o
 clear h ho o
 have HE := Lib.hid hk
 have HN := Lib.hid ((show oneS B i c = nameS 6 [c] (i + 1) from oneS_end hk).trans (nameS_ok (by simp)))
 have HR := fun W hW => Lib.hid (alone_any sb b off cap B i c W hW HO.out)
 have hsz : (strB [c]).size = 1 := strB_size [c]
 generalize hgs : strB [c] = s at hsz HR
 have HGS := Lib.hid hgs
 clear hgs hk
 go_enter Tryz.func92, Tryz.ntmps92
 go_upto_region 1 with fail
 go_quiet (fail)
 go_upto_region 2 with fail
 refine wp_abs (fun V => ScIn w V sb b off cap B i ∧ Blk V w.heap.size 55 #[.int .i64 0, .string ⟨#[]⟩, .int .i64 0, .int .i64 0, .bool false]) ⟨((ScIn.start HH.out).go (ext_box _ _)).drewN _, (Blk.new _ _ _).ext ((Ext.refl _).drewN _)⟩ ?_
 clear d0 d1 d2
 rintro V ⟨hV, hz⟩
 have HQ := Lib.hid (PoAt.new hV hz HB.out)
 clear hV hz
 go_wp2_with (first | (go_at_call 131; refine (ends_is HQ.out.sc.sc HO.out HE.out).mono ?_; rintro e1 w1 ⟨rfl, hx⟩; have HQ1 := Lib.hid (HQ.out.go hx); clear hx) | (go_at_call 132; refine (HR _ HQ1.out.sc.sc).out.mono ?_; rintro e1 w2 ⟨rfl, hy⟩; have HQ2 := Lib.hid (HQ1.out.in_ hy); clear hy; have kzc := HQ2.out.bz.cell; have kzf := HQ2.out.bz.frozen; have ktc := HQ2.out.bt.cell; have ktf := HQ2.out.bt.frozen; have hne1 := HQ2.out.ne.1; have hne2 := HQ2.out.ne.2))
 have kb := blk_set5 (po_set (po_set HQ2.out.bz hne1 0 (.int .i64 6)) hne1 1 (.string s)) (.int .i64 6) (.string s) (.int .i64 0) (.int .i64 0) (.bool false)
 have kc := kb.cell
 refine bodyPost_ret (v := onePV (oneS B i c)) ?_ rfl ⟨rfl, ?_⟩
 ·rw [HN.out]
  simp [results, Tryz.results92, go_sem, onePV, HGS.out, kc]
 ·rw [HN.out]
  exact (((HQ2.out.sc.set HB.out (p := ⟨V.heap.size, 0, none⟩) (Nat.le_of_lt HQ2.out.ht) (.int .i64 6)).set HB.out (p := ⟨V.heap.size, 1, none⟩) (Nat.le_of_lt HQ2.out.ht) (.string s)).set5 HB.out (Nat.le_refl _) _ _ _ _ _)
set_option maxRecDepth 100000 in
set_option maxHeartbeats 4000000 in
theorem pOne_solo (sb b off cap : Nat) (B : List UInt8) (i : Nat) (c : UInt8) (w : World) (h : ScAt w sb b off cap B i) (o : Old w sb b) (ho : B[i]? = some c) (hk : c = 33 ∨ c = 59) :
  Calls Tryz.prog 92 #[.pointer (some ⟨sb, 0, none⟩)] w fun e w' => e = .returned (onePV (oneS B i c)) ∧ OneIn w w' sb b off cap B (oneS B i c) := by
 have hlt : i < B.length := (List.getElem?_eq_some_iff.1 ho).1
 have hcp := h.cap
 have hlen := h.len
 have hck : ¬ cap = i := by omega
 have d1 : ∀ x, (w.alloc x).cell? ⟨sb, 0, none⟩ = _ := fun x => (ext_box w x).cell h.c0
 have d2 : ∀ x, (w.alloc x).cell? ⟨sb, 1, none⟩ = _ := fun x => (ext_box w x).cell h.c1
 have d0 : ∀ x, (w.alloc x).cell? ⟨b, off + i, none⟩ = _ := fun x => (ext_box w x).cell (h.cells ho)
 have HH := Lib.hid h
 have HO := Lib.hid ho
 have HB := Lib.hid o
 clear h ho o
 have g1 : c ≠ 46 := by rcases hk with rfl | rfl <;> decide
 have g2 : isSmall c = false := by rcases hk with rfl | rfl <;> rfl
 have g3 : isSign c = false := by rcases hk with rfl | rfl <;> rfl
 have HE := Lib.hid (ends_no (B := B) (i := i) (c := c) g1)
 have FA := Lib.hid (show hasB smallS c = false from by rw [hasB_small]; exact g2)
 have FB := Lib.hid (show hasB signS c = false from g3)
 have FC := Lib.hid (show hasB soloS c = true from by rw [solo_has]; rcases hk with rfl | rfl <;> rfl)
 clear g1 g2 g3
 have HN := Lib.hid ((show oneS B i c = nameS 1 [c] (i + 1) from oneS_solo hk).trans (nameS_ok (by simp)))
 have HR := fun W hW => Lib.hid (alone_any sb b off cap B i c W hW HO.out)
 have hsz : (strB [c]).size = 1 := strB_size [c]
 generalize hgs : strB [c] = s at hsz HR
 have HGS := Lib.hid hgs
 clear hgs hk
 go_enter Tryz.func92, Tryz.ntmps92
 go_upto_region 1 with fail
 go_quiet (fail)
 go_upto_region 2 with fail
 refine wp_abs (fun V => ScIn w V sb b off cap B i ∧ Blk V w.heap.size 55 #[.int .i64 0, .string ⟨#[]⟩, .int .i64 0, .int .i64 0, .bool false]) ⟨((ScIn.start HH.out).go (ext_box _ _)).drewN _, (Blk.new _ _ _).ext ((Ext.refl _).drewN _)⟩ ?_
 clear d0 d1 d2
 rintro V ⟨hV, hz⟩
 have HQ := Lib.hid (PoAt.new hV hz HB.out)
 clear hV hz
 go_wp2_with (first | (go_at_call 131; refine (ends_is HQ.out.sc.sc HO.out HE.out).mono ?_; rintro e1 w1 ⟨rfl, hx⟩; have HQ1 := Lib.hid (HQ.out.go hx); clear hx) | (go_at_call 85; refine (in8_is (s := smallS) FA.out _).mono ?_; clear FA; rintro e1 w9 ⟨rfl, rfl⟩) | (go_at_call 85; refine (in8_is (s := signS) FB.out _).mono ?_; clear FB; rintro e1 w9 ⟨rfl, rfl⟩) | (go_at_call 85; refine (in8_is (s := soloS) FC.out _).mono ?_; clear FC; rintro e1 w9 ⟨rfl, rfl⟩) | (go_at_call 132; refine (HR _ HQ1.out.sc.sc).out.mono ?_; rintro e1 w2 ⟨rfl, hy⟩; have HQ2 := Lib.hid (HQ1.out.in_ hy); clear hy; have kzc := HQ2.out.bz.cell; have kzf := HQ2.out.bz.frozen; have ktc := HQ2.out.bt.cell; have ktf := HQ2.out.bt.frozen; have hne1 := HQ2.out.ne.1; have hne2 := HQ2.out.ne.2))
 have kb := blk_set5 (po_set HQ2.out.bz hne1 1 (.string s)) (.int .i64 1) (.string s) (.int .i64 0) (.int .i64 0) (.bool false)
 have kc := kb.cell
 refine bodyPost_ret (v := onePV (oneS B i c)) ?_ rfl ⟨rfl, ?_⟩
 ·rw [HN.out]
  simp [results, Tryz.results92, go_sem, onePV, HGS.out, kc]
 ·rw [HN.out]
  exact ((HQ2.out.sc.set HB.out (p := ⟨V.heap.size, 1, none⟩) (Nat.le_of_lt HQ2.out.ht) (.string s)).set5 HB.out (Nat.le_refl _) _ _ _ _ _)
set_option maxRecDepth 100000 in
set_option maxHeartbeats 4000000 in
theorem pOne_punct (sb b off cap : Nat) (B : List UInt8) (i : Nat) (c : UInt8) (w : World) (h : ScAt w sb b off cap B i) (o : Old w sb b) (ho : B[i]? = some c) (hk : isPunct c = true) :
  Calls Tryz.prog 92 #[.pointer (some ⟨sb, 0, none⟩)] w fun e w' => e = .returned (onePV (oneS B i c)) ∧ OneIn w w' sb b off cap B (oneS B i c) := by
 have hlt : i < B.length := (List.getElem?_eq_some_iff.1 ho).1
 have hcp := h.cap
 have hlen := h.len
 have hck : ¬ cap = i := by omega
 have d1 : ∀ x, (w.alloc x).cell? ⟨sb, 0, none⟩ = _ := fun x => (ext_box w x).cell h.c0
 have d2 : ∀ x, (w.alloc x).cell? ⟨sb, 1, none⟩ = _ := fun x => (ext_box w x).cell h.c1
 have d0 : ∀ x, (w.alloc x).cell? ⟨b, off + i, none⟩ = _ := fun x => (ext_box w x).cell (h.cells ho)
 have HH := Lib.hid h
 have HO := Lib.hid ho
 have HB := Lib.hid o
 clear h ho o
 obtain ⟨g1, g2, g3, g4, g5, g6, g7⟩ := punct_not c hk
 have HE := Lib.hid (ends_no (B := B) (i := i) (c := c) g1)
 have FA := Lib.hid (show hasB smallS c = false from by rw [hasB_small]; exact g2)
 have FB := Lib.hid (show hasB signS c = false from g3)
 have FC := Lib.hid (show hasB soloS c = false from by rw [solo_has]; simp [g4, g5])
 have FD := Lib.hid (show hasB digS c = false from by rw [dig_has]; exact g6)
 have FE := Lib.hid (show hasB wordS c = false from by rw [hasB_word]; exact g7)
 have FF := Lib.hid (show hasB punctS c = true from by rw [punct_has]; exact hk)
 clear g1 g2 g3 g4 g5 g6 g7
 have HN := Lib.hid ((show oneS B i c = nameS 5 [c] (i + 1) from oneS_punct hk).trans (nameS_ok (by simp)))
 have HR := fun W hW => Lib.hid (alone_any sb b off cap B i c W hW HO.out)
 have hsz : (strB [c]).size = 1 := strB_size [c]
 generalize hgs : strB [c] = s at hsz HR
 have HGS := Lib.hid hgs
 clear hgs hk
 go_enter Tryz.func92, Tryz.ntmps92
 go_upto_region 1 with fail
 go_quiet (fail)
 go_upto_region 2 with fail
 refine wp_abs (fun V => ScIn w V sb b off cap B i ∧ Blk V w.heap.size 55 #[.int .i64 0, .string ⟨#[]⟩, .int .i64 0, .int .i64 0, .bool false]) ⟨((ScIn.start HH.out).go (ext_box _ _)).drewN _, (Blk.new _ _ _).ext ((Ext.refl _).drewN _)⟩ ?_
 clear d0 d1 d2
 rintro V ⟨hV, hz⟩
 have HQ := Lib.hid (PoAt.new hV hz HB.out)
 clear hV hz
 go_wp2_with (first | (go_at_call 131; refine (ends_is HQ.out.sc.sc HO.out HE.out).mono ?_; rintro e1 w1 ⟨rfl, hx⟩; have HQ1 := Lib.hid (HQ.out.go hx); clear hx) | (go_at_call 85; refine (in8_is (s := smallS) FA.out _).mono ?_; clear FA; rintro e1 w9 ⟨rfl, rfl⟩) | (go_at_call 85; refine (in8_is (s := signS) FB.out _).mono ?_; clear FB; rintro e1 w9 ⟨rfl, rfl⟩) | (go_at_call 85; refine (in8_is (s := soloS) FC.out _).mono ?_; clear FC; rintro e1 w9 ⟨rfl, rfl⟩) | (go_at_call 85; refine (in8_is (s := digS) FD.out _).mono ?_; clear FD; rintro e1 w9 ⟨rfl, rfl⟩) | (go_at_call 85; refine (in8_is (s := wordS) FE.out _).mono ?_; clear FE; rintro e1 w9 ⟨rfl, rfl⟩) | (go_at_call 85; refine (in8_is (s := punctS) FF.out _).mono ?_; clear FF; rintro e1 w9 ⟨rfl, rfl⟩) | (go_at_call 132; refine (HR _ HQ1.out.sc.sc).out.mono ?_; rintro e1 w2 ⟨rfl, hy⟩; have HQ2 := Lib.hid (HQ1.out.in_ hy); clear hy; have kzc := HQ2.out.bz.cell; have kzf := HQ2.out.bz.frozen; have ktc := HQ2.out.bt.cell; have ktf := HQ2.out.bt.frozen; have hne1 := HQ2.out.ne.1; have hne2 := HQ2.out.ne.2))
 have kb := blk_set5 (po_set (po_set HQ2.out.bz hne1 0 (.int .i64 5)) hne1 1 (.string s)) (.int .i64 5) (.string s) (.int .i64 0) (.int .i64 0) (.bool false)
 have kc := kb.cell
 refine bodyPost_ret (v := onePV (oneS B i c)) ?_ rfl ⟨rfl, ?_⟩
 ·rw [HN.out]
  simp [results, Tryz.results92, go_sem, onePV, HGS.out, kc]
 ·rw [HN.out]
  exact (((HQ2.out.sc.set HB.out (p := ⟨V.heap.size, 0, none⟩) (Nat.le_of_lt HQ2.out.ht) (.int .i64 5)).set HB.out (p := ⟨V.heap.size, 1, none⟩) (Nat.le_of_lt HQ2.out.ht) (.string s)).set5 HB.out (Nat.le_refl _) _ _ _ _ _)
set_option maxRecDepth 100000 in
set_option maxHeartbeats 4000000 in
theorem pOne_other (sb b off cap : Nat) (B : List UInt8) (i : Nat) (c : UInt8) (w : World) (h : ScAt w sb b off cap B i) (o : Old w sb b) (ho : B[i]? = some c) (hk : isOther c = true) :
  Calls Tryz.prog 92 #[.pointer (some ⟨sb, 0, none⟩)] w fun e w' => e = .returned (onePV (oneS B i c)) ∧ OneIn w w' sb b off cap B (oneS B i c) := by
 have hlt : i < B.length := (List.getElem?_eq_some_iff.1 ho).1
 have hcp := h.cap
 have hlen := h.len
 have hck : ¬ cap = i := by omega
 have d1 : ∀ x, (w.alloc x).cell? ⟨sb, 0, none⟩ = _ := fun x => (ext_box w x).cell h.c0
 have d2 : ∀ x, (w.alloc x).cell? ⟨sb, 1, none⟩ = _ := fun x => (ext_box w x).cell h.c1
 have d0 : ∀ x, (w.alloc x).cell? ⟨b, off + i, none⟩ = _ := fun x => (ext_box w x).cell (h.cells ho)
 have HH := Lib.hid h
 have HO := Lib.hid ho
 have HB := Lib.hid o
 clear h ho o
 obtain ⟨g1, g2, g3, g4, g5, g6, g7, g8, g9⟩ := other_not c hk
 have HE := Lib.hid (ends_no (B := B) (i := i) (c := c) g1)
 have FA := Lib.hid (show hasB smallS c = false from by rw [hasB_small]; exact g2)
 have FB := Lib.hid (show hasB signS c = false from g3)
 have FC := Lib.hid (show hasB soloS c = false from by rw [solo_has]; simp [g4, g5])
 have FD := Lib.hid (show hasB digS c = false from by rw [dig_has]; exact g6)
 have FE := Lib.hid (show hasB wordS c = false from by rw [hasB_word]; exact g7)
 have FF := Lib.hid (show hasB punctS c = false from by rw [punct_has]; exact g8)
 have q39 := u8_ne' (c := c) (n := 39) (z := 39) rfl (by omega) g9
 have HN := Lib.hid (oneS_other (B := B) (i := i) hk)
 clear g1 g2 g3 g4 g5 g6 g7 g8 g9 hk
 go_enter Tryz.func92, Tryz.ntmps92
 go_upto_region 1 with fail
 go_quiet (fail)
 go_upto_region 2 with fail
 refine wp_abs (fun V => ScIn w V sb b off cap B i ∧ Blk V w.heap.size 55 #[.int .i64 0, .string ⟨#[]⟩, .int .i64 0, .int .i64 0, .bool false]) ⟨((ScIn.start HH.out).go (ext_box _ _)).drewN _, (Blk.new _ _ _).ext ((Ext.refl _).drewN _)⟩ ?_
 clear d0 d1 d2
 rintro V ⟨hV, hz⟩
 have HQ := Lib.hid (PoAt.new hV hz HB.out)
 clear hV hz
 go_wp2_with (first | (go_at_call 131; refine (ends_is HQ.out.sc.sc HO.out HE.out).mono ?_; rintro e1 w1 ⟨rfl, hx⟩; have HQ1 := Lib.hid (HQ.out.go hx); clear hx; have HQ2 := HQ1; have kzc := HQ2.out.bz.cell; have kzf := HQ2.out.bz.frozen; have ktc := HQ2.out.bt.cell; have ktf := HQ2.out.bt.frozen; have hne1 := HQ2.out.ne.1; have hne2 := HQ2.out.ne.2) | (go_at_call 85; refine (in8_is (s := smallS) FA.out _).mono ?_; clear FA; rintro e1 w9 ⟨rfl, rfl⟩) | (go_at_call 85; refine (in8_is (s := signS) FB.out _).mono ?_; clear FB; rintro e1 w9 ⟨rfl, rfl⟩) | (go_at_call 85; refine (in8_is (s := soloS) FC.out _).mono ?_; clear FC; rintro e1 w9 ⟨rfl, rfl⟩) | (go_at_call 85; refine (in8_is (s := digS) FD.out _).mono ?_; clear FD; rintro e1 w9 ⟨rfl, rfl⟩) | (go_at_call 85; refine (in8_is (s := wordS) FE.out _).mono ?_; clear FE; rintro e1 w9 ⟨rfl, rfl⟩) | (go_at_call 85; refine (in8_is (s := punctS) FF.out _).mono ?_; clear FF; rintro e1 w9 ⟨rfl, rfl⟩))
 have kb := blk_set5 HQ2.out.bz (.int .i64 0) (.string ⟨#[]⟩) (.int .i64 0) (.int .i64 0) (.bool false)
 have kc := kb.cell
 refine bodyPost_ret (v := onePV (oneS B i c)) ?_ rfl ⟨rfl, ?_⟩
 ·rw [HN.out]
  simp [results, Tryz.results92, go_sem, onePV, kc]
 ·rw [HN.out]
  exact ⟨_, (HQ2.out.sc.set5 HB.out (Nat.le_refl _) _ _ _ _ _)⟩
end Go.Proofs.YtgcdhffeacdegaaGreatDoor
/- Layer 8, the program: the walk of one: digit, quote. -/
namespace Go.Proofs.YtgcdhffeacdegaaGreatDoor
open Go.RowKit Go.El
set_option maxRecDepth 100000 in
set_option maxHeartbeats 4000000 in
theorem pOne_digit (sb b off cap : Nat) (B : List UInt8) (i : Nat) (c : UInt8) (w : World) (h : ScAt w sb b off cap B i) (o : Old w sb b) (ho : B[i]? = some c) (hk : isDigit c = true) :
  Calls Tryz.prog 92 #[.pointer (some ⟨sb, 0, none⟩)] w fun e w' => e = .returned (onePV (oneS B i c)) ∧ OneIn w w' sb b off cap B (oneS B i c) := by
 have hlt : i < B.length := (List.getElem?_eq_some_iff.1 ho).1
 have hcp := h.cap
 have hlen := h.len
 have hck : ¬ cap = i := by omega
 have d1 : ∀ x, (w.alloc x).cell? ⟨sb, 0, none⟩ = _ := fun x => (ext_box w x).cell h.c0
 have d2 : ∀ x, (w.alloc x).cell? ⟨sb, 1, none⟩ = _ := fun x => (ext_box w x).cell h.c1
 have d0 : ∀ x, (w.alloc x).cell? ⟨b, off + i, none⟩ = _ := fun x => (ext_box w x).cell (h.cells ho)
 have HH := Lib.hid h
 have HO := Lib.hid ho
 have HB := Lib.hid o
 clear h ho o
 obtain ⟨g1, g2, g3, g4, g5, g7⟩ := digit_not c hk
 have HE := Lib.hid (ends_no (B := B) (i := i) (c := c) g1)
 have FA := Lib.hid (show hasB smallS c = false from by rw [hasB_small]; exact g2)
 have FB := Lib.hid (show hasB signS c = false from g3)
 have FC := Lib.hid (show hasB soloS c = false from by rw [solo_has]; simp [g4, g5])
 have FD := Lib.hid (show hasB digS c = true from by rw [dig_has]; exact hk)
 have HS := Lib.hid (oneS_digit (B := B) (i := i) hk)
 have HR := fun W hW oW => Lib.hid (integer_any sb b off cap B i c W hW oW HO.out hk)
 clear g1 g2 g3 g4 g5 g7 hk
 generalize hl : sub B i (rowTo isDigit B i) = l at *
 generalize rowTo isDigit B i = e at *
 clear hl
 by_cases hbig : numV l ≤ 9007199254740991
 ·have HN := Lib.hid (HS.out.trans (if_pos hbig))
  have HV := Lib.hid (show intPV l = _ from if_pos hbig)
  generalize numV l = n at *
  clear hbig
  go_enter Tryz.func92, Tryz.ntmps92
  go_upto_region 1 with fail
  go_quiet (fail)
  go_upto_region 2 with fail
  refine wp_abs (fun V => ScIn w V sb b off cap B i ∧ Blk V w.heap.size 55 #[.int .i64 0, .string ⟨#[]⟩, .int .i64 0, .int .i64 0, .bool false]) ⟨((ScIn.start HH.out).go (ext_box _ _)).drewN _, (Blk.new _ _ _).ext ((Ext.refl _).drewN _)⟩ ?_
  clear d0 d1 d2
  rintro V ⟨hV, hz⟩
  have HQ := Lib.hid (PoAt.new hV hz HB.out)
  clear hV hz
  go_wp2_with (first | (go_at_call 131; refine (ends_is HQ.out.sc.sc HO.out HE.out).mono ?_; rintro e1 w1 ⟨rfl, hx⟩; have HQ1 := Lib.hid (HQ.out.go hx); clear hx) | (go_at_call 85; refine (in8_is (s := smallS) FA.out _).mono ?_; clear FA; rintro e1 w9 ⟨rfl, rfl⟩) | (go_at_call 85; refine (in8_is (s := signS) FB.out _).mono ?_; clear FB; rintro e1 w9 ⟨rfl, rfl⟩) | (go_at_call 85; refine (in8_is (s := soloS) FC.out _).mono ?_; clear FC; rintro e1 w9 ⟨rfl, rfl⟩) | (go_at_call 85; refine (in8_is (s := digS) FD.out _).mono ?_; clear FD; rintro e1 w9 ⟨rfl, rfl⟩) | (go_at_call 134; refine (HR _ HQ1.out.sc.sc (HB.out.up HQ1.out.sc.mods)).out.mono ?_; rw [HV.out]; rintro e1 w2 ⟨rfl, hy⟩; have HQ2 := Lib.hid (HQ1.out.in_ hy); clear hy; have kzc := HQ2.out.bz.cell; have kzf := HQ2.out.bz.frozen; have ktc := HQ2.out.bt.cell; have ktf := HQ2.out.bt.frozen; have hne1 := HQ2.out.ne.1; have hne2 := HQ2.out.ne.2))
  have kb := blk_set5 HQ2.out.bz (.int .i64 4) (.string ⟨#[]⟩) (.int .i64 n) (.int .i64 0) (.bool false)
  have kc := kb.cell
  refine bodyPost_ret (v := onePV (oneS B i c)) ?_ rfl ⟨rfl, ?_⟩
  ·rw [HN.out]
   simp [results, Tryz.results92, go_sem, onePV, strB, kc]
  ·rw [HN.out]
   exact (HQ2.out.sc.set5 HB.out (Nat.le_refl _) _ _ _ _ _)
 ·have HN := Lib.hid (HS.out.trans (if_neg hbig))
  have HV := Lib.hid (show intPV l = _ from if_neg hbig)
  clear hbig
  go_enter Tryz.func92, Tryz.ntmps92
  go_upto_region 1 with fail
  go_quiet (fail)
  go_upto_region 2 with fail
  refine wp_abs (fun V => ScIn w V sb b off cap B i ∧ Blk V w.heap.size 55 #[.int .i64 0, .string ⟨#[]⟩, .int .i64 0, .int .i64 0, .bool false]) ⟨((ScIn.start HH.out).go (ext_box _ _)).drewN _, (Blk.new _ _ _).ext ((Ext.refl _).drewN _)⟩ ?_
  clear d0 d1 d2
  rintro V ⟨hV, hz⟩
  have HQ := Lib.hid (PoAt.new hV hz HB.out)
  clear hV hz
  go_wp2_with (first | (go_at_call 131; refine (ends_is HQ.out.sc.sc HO.out HE.out).mono ?_; rintro e1 w1 ⟨rfl, hx⟩; have HQ1 := Lib.hid (HQ.out.go hx); clear hx) | (go_at_call 85; refine (in8_is (s := smallS) FA.out _).mono ?_; clear FA; rintro e1 w9 ⟨rfl, rfl⟩) | (go_at_call 85; refine (in8_is (s := signS) FB.out _).mono ?_; clear FB; rintro e1 w9 ⟨rfl, rfl⟩) | (go_at_call 85; refine (in8_is (s := soloS) FC.out _).mono ?_; clear FC; rintro e1 w9 ⟨rfl, rfl⟩) | (go_at_call 85; refine (in8_is (s := digS) FD.out _).mono ?_; clear FD; rintro e1 w9 ⟨rfl, rfl⟩) | (go_at_call 134; refine (HR _ HQ1.out.sc.sc (HB.out.up HQ1.out.sc.mods)).out.mono ?_; rw [HV.out]; rintro e1 w2 ⟨rfl, hy⟩; have HQ2 := Lib.hid (HQ1.out.in_ hy); clear hy; have kzc := HQ2.out.bz.cell; have kzf := HQ2.out.bz.frozen; have ktc := HQ2.out.bt.cell; have ktf := HQ2.out.bt.frozen; have hne1 := HQ2.out.ne.1; have hne2 := HQ2.out.ne.2))
  have kb := blk_set5 HQ2.out.bz (.int .i64 0) (.string ⟨#[]⟩) (.int .i64 0) (.int .i64 0) (.bool false)
  have kc := kb.cell
  refine bodyPost_ret (v := onePV (oneS B i c)) ?_ rfl ⟨rfl, ?_⟩
  ·rw [HN.out]
   simp [results, Tryz.results92, go_sem, onePV, kc]
  ·rw [HN.out]
   exact ⟨_, (HQ2.out.sc.set5 HB.out (Nat.le_refl _) _ _ _ _ _)⟩
set_option maxRecDepth 100000 in
set_option maxHeartbeats 4000000 in
theorem pOne_quote (sb b off cap : Nat) (B : List UInt8) (i : Nat) (c : UInt8) (w : World) (h : ScAt w sb b off cap B i) (o : Old w sb b) (ho : B[i]? = some c) (hk : c = 39) :
  Calls Tryz.prog 92 #[.pointer (some ⟨sb, 0, none⟩)] w fun e w' => e = .returned (onePV (oneS B i c)) ∧ OneIn w w' sb b off cap B (oneS B i c) := by
 have hlt : i < B.length := (List.getElem?_eq_some_iff.1 ho).1
 have hcp := h.cap
 have hlen := h.len
 have hck : ¬ cap = i := by omega
 have d1 : ∀ x, (w.alloc x).cell? ⟨sb, 0, none⟩ = _ := fun x => (ext_box w x).cell h.c0
 have d2 : ∀ x, (w.alloc x).cell? ⟨sb, 1, none⟩ = _ := fun x => (ext_box w x).cell h.c1
 have d0 : ∀ x, (w.alloc x).cell? ⟨b, off + i, none⟩ = _ := fun x => (ext_box w x).cell (h.cells ho)
 have HH := Lib.hid h
 have HO := Lib.hid ho
 have HB := Lib.hid o
 clear h ho o
 have HE := Lib.hid (ends_no (B := B) (i := i) (c := c) (by rw [hk]; decide))
 have FA := Lib.hid (show hasB smallS c = false from by rw [hk]; rfl)
 have FB := Lib.hid (show hasB signS c = false from by rw [hk]; rfl)
 have FC := Lib.hid (show hasB soloS c = false from by rw [hk]; rfl)
 have FD := Lib.hid (show hasB digS c = false from by rw [hk]; rfl)
 have FE := Lib.hid (show hasB wordS c = false from by rw [hk]; rfl)
 have FF := Lib.hid (show hasB punctS c = false from by rw [hk]; rfl)
 have q39 : ((c.toNat : Int) == (39 : Int)) = true := by rw [hk]; rfl
 have HS : Hid (oneS B i c = match quoS B (i + 1) [] with | none => .error 80 | some (s, e) => nameS 2 s e) := by rw [hk]; exact oneS_quote
 have HR := fun W hW (oW : Old W sb b) => Lib.hid (quoted_any sb b off cap B i W hW hlt oW.ls oW.lb oW.lm oW.le)
 clear hk
 cases hq : quoS B (i + 1) [] with
 | none =>
  have HN := Lib.hid (HS.out.trans (by rw [hq]))
  rw [hq] at HR
  clear hq HS
  go_enter Tryz.func92, Tryz.ntmps92
  go_upto_region 1 with fail
  go_quiet (fail)
  go_upto_region 2 with fail
  refine wp_abs (fun V => ScIn w V sb b off cap B i ∧ Blk V w.heap.size 55 #[.int .i64 0, .string ⟨#[]⟩, .int .i64 0, .int .i64 0, .bool false]) ⟨((ScIn.start HH.out).go (ext_box _ _)).drewN _, (Blk.new _ _ _).ext ((Ext.refl _).drewN _)⟩ ?_
  clear d0 d1 d2
  rintro V ⟨hV, hz⟩
  have HQ := Lib.hid (PoAt.new hV hz HB.out)
  clear hV hz
  go_wp2_with (first | (go_at_call 131; refine (ends_is HQ.out.sc.sc HO.out HE.out).mono ?_; rintro e1 w1 ⟨rfl, hx⟩; have HQ1 := Lib.hid (HQ.out.go hx); clear hx) | (go_at_call 85; refine (in8_is (s := smallS) FA.out _).mono ?_; clear FA; rintro e1 w9 ⟨rfl, rfl⟩) | (go_at_call 85; refine (in8_is (s := signS) FB.out _).mono ?_; clear FB; rintro e1 w9 ⟨rfl, rfl⟩) | (go_at_call 85; refine (in8_is (s := soloS) FC.out _).mono ?_; clear FC; rintro e1 w9 ⟨rfl, rfl⟩) | (go_at_call 85; refine (in8_is (s := digS) FD.out _).mono ?_; clear FD; rintro e1 w9 ⟨rfl, rfl⟩) | (go_at_call 85; refine (in8_is (s := wordS) FE.out _).mono ?_; clear FE; rintro e1 w9 ⟨rfl, rfl⟩) | (go_at_call 85; refine (in8_is (s := punctS) FF.out _).mono ?_; clear FF; rintro e1 w9 ⟨rfl, rfl⟩) | (go_at_call 135; refine (HR _ HQ1.out.sc.sc (HB.out.up HQ1.out.sc.mods)).out.mono ?_; simp only [quoPV, QuoIn]; rintro e1 w2 ⟨rfl, j, hy⟩; have HQ2 := Lib.hid (HQ1.out.in_ hy); clear hy; have kzc := HQ2.out.bz.cell; have kzf := HQ2.out.bz.frozen; have ktc := HQ2.out.bt.cell; have ktf := HQ2.out.bt.frozen; have hne1 := HQ2.out.ne.1; have hne2 := HQ2.out.ne.2))
  have kb := blk_set5 HQ2.out.bz (.int .i64 0) (.string ⟨#[]⟩) (.int .i64 0) (.int .i64 0) (.bool false)
  have kc := kb.cell
  refine bodyPost_ret (v := onePV (oneS B i c)) ?_ rfl ⟨rfl, ?_⟩
  ·rw [HN.out]
   simp [results, Tryz.results92, go_sem, onePV, kc]
  ·rw [HN.out]
   exact ⟨_, (HQ2.out.sc.set5 HB.out (Nat.le_refl _) _ _ _ _ _)⟩
 | some p =>
  obtain ⟨l, e⟩ := p
  have hN1 : 64 < l.length → oneS B i c = .error 3 := fun g => HS.out.trans (by rw [hq]; exact nameS_long g)
  have hN2 : ¬ 64 < l.length → oneS B i c = .ok (2, l, 0, e) := fun g => HS.out.trans (by rw [hq]; exact nameS_ok g)
  rw [hq] at HR
  have hsz := strB_size l
  have HR2 : ∀ W (hW : ScAt W sb b off cap B i) (oW : Old W sb b), Hid (Calls Tryz.prog 135 #[.pointer (some ⟨sb, 0, none⟩)] W fun e1 w' => e1 = .returned (.tuple #[.string (strB l), .bool true]) ∧ ScIn W w' sb b off cap B e) := fun W hW oW => HR W hW oW
  generalize hgs : strB l = s at hsz HR2
  have HGS := Lib.hid hgs
  clear hq HS HR hgs
  by_cases hlong : 64 < l.length
  ·have HN := Lib.hid (hN1 hlong)
   clear hN1 hN2
   go_enter Tryz.func92, Tryz.ntmps92
   go_upto_region 1 with fail
   go_quiet (fail)
   go_upto_region 2 with fail
   refine wp_abs (fun V => ScIn w V sb b off cap B i ∧ Blk V w.heap.size 55 #[.int .i64 0, .string ⟨#[]⟩, .int .i64 0, .int .i64 0, .bool false]) ⟨((ScIn.start HH.out).go (ext_box _ _)).drewN _, (Blk.new _ _ _).ext ((Ext.refl _).drewN _)⟩ ?_
   clear d0 d1 d2
   rintro V ⟨hV, hz⟩
   have HQ := Lib.hid (PoAt.new hV hz HB.out)
   clear hV hz
   go_wp2_with (first | (go_at_call 131; refine (ends_is HQ.out.sc.sc HO.out HE.out).mono ?_; rintro e1 w1 ⟨rfl, hx⟩; have HQ1 := Lib.hid (HQ.out.go hx); clear hx) | (go_at_call 85; refine (in8_is (s := smallS) FA.out _).mono ?_; clear FA; rintro e1 w9 ⟨rfl, rfl⟩) | (go_at_call 85; refine (in8_is (s := signS) FB.out _).mono ?_; clear FB; rintro e1 w9 ⟨rfl, rfl⟩) | (go_at_call 85; refine (in8_is (s := soloS) FC.out _).mono ?_; clear FC; rintro e1 w9 ⟨rfl, rfl⟩) | (go_at_call 85; refine (in8_is (s := digS) FD.out _).mono ?_; clear FD; rintro e1 w9 ⟨rfl, rfl⟩) | (go_at_call 85; refine (in8_is (s := wordS) FE.out _).mono ?_; clear FE; rintro e1 w9 ⟨rfl, rfl⟩) | (go_at_call 85; refine (in8_is (s := punctS) FF.out _).mono ?_; clear FF; rintro e1 w9 ⟨rfl, rfl⟩) | (go_at_call 135; refine (HR2 _ HQ1.out.sc.sc (HB.out.up HQ1.out.sc.mods)).out.mono ?_; rintro e1 w2 ⟨rfl, hy⟩; have HQ2 := Lib.hid (HQ1.out.in_ hy); clear hy; have kzc := HQ2.out.bz.cell; have kzf := HQ2.out.bz.frozen; have ktc := HQ2.out.bt.cell; have ktf := HQ2.out.bt.frozen; have hne1 := HQ2.out.ne.1; have hne2 := HQ2.out.ne.2))
   have kb := blk_set5 (po_set (po_set HQ2.out.bz hne1 0 (.int .i64 2)) hne1 1 (.string s)) (.int .i64 0) (.string ⟨#[]⟩) (.int .i64 0) (.int .i64 0) (.bool false)
   have kc := kb.cell
   refine bodyPost_ret (v := onePV (oneS B i c)) ?_ rfl ⟨rfl, ?_⟩
   ·rw [HN.out]
    simp [results, Tryz.results92, go_sem, onePV, kc]
   ·rw [HN.out]
    exact ⟨_, (((HQ2.out.sc.set HB.out (p := ⟨V.heap.size, 0, none⟩) (Nat.le_of_lt HQ2.out.ht) (.int .i64 2)).set HB.out (p := ⟨V.heap.size, 1, none⟩) (Nat.le_of_lt HQ2.out.ht) (.string s)).set5 HB.out (Nat.le_refl _) _ _ _ _ _)⟩
  ·have HN := Lib.hid (hN2 hlong)
   clear hN1 hN2
   go_enter Tryz.func92, Tryz.ntmps92
   go_upto_region 1 with fail
   go_quiet (fail)
   go_upto_region 2 with fail
   refine wp_abs (fun V => ScIn w V sb b off cap B i ∧ Blk V w.heap.size 55 #[.int .i64 0, .string ⟨#[]⟩, .int .i64 0, .int .i64 0, .bool false]) ⟨((ScIn.start HH.out).go (ext_box _ _)).drewN _, (Blk.new _ _ _).ext ((Ext.refl _).drewN _)⟩ ?_
   clear d0 d1 d2
   rintro V ⟨hV, hz⟩
   have HQ := Lib.hid (PoAt.new hV hz HB.out)
   clear hV hz
   go_wp2_with (first | (go_at_call 131; refine (ends_is HQ.out.sc.sc HO.out HE.out).mono ?_; rintro e1 w1 ⟨rfl, hx⟩; have HQ1 := Lib.hid (HQ.out.go hx); clear hx) | (go_at_call 85; refine (in8_is (s := smallS) FA.out _).mono ?_; clear FA; rintro e1 w9 ⟨rfl, rfl⟩) | (go_at_call 85; refine (in8_is (s := signS) FB.out _).mono ?_; clear FB; rintro e1 w9 ⟨rfl, rfl⟩) | (go_at_call 85; refine (in8_is (s := soloS) FC.out _).mono ?_; clear FC; rintro e1 w9 ⟨rfl, rfl⟩) | (go_at_call 85; refine (in8_is (s := digS) FD.out _).mono ?_; clear FD; rintro e1 w9 ⟨rfl, rfl⟩) | (go_at_call 85; refine (in8_is (s := wordS) FE.out _).mono ?_; clear FE; rintro e1 w9 ⟨rfl, rfl⟩) | (go_at_call 85; refine (in8_is (s := punctS) FF.out _).mono ?_; clear FF; rintro e1 w9 ⟨rfl, rfl⟩) | (go_at_call 135; refine (HR2 _ HQ1.out.sc.sc (HB.out.up HQ1.out.sc.mods)).out.mono ?_; rintro e1 w2 ⟨rfl, hy⟩; have HQ2 := Lib.hid (HQ1.out.in_ hy); clear hy; have kzc := HQ2.out.bz.cell; have kzf := HQ2.out.bz.frozen; have ktc := HQ2.out.bt.cell; have ktf := HQ2.out.bt.frozen; have hne1 := HQ2.out.ne.1; have hne2 := HQ2.out.ne.2))
   have kb := blk_set5 (po_set (po_set HQ2.out.bz hne1 0 (.int .i64 2)) hne1 1 (.string s)) (.int .i64 2) (.string s) (.int .i64 0) (.int .i64 0) (.bool false)
   have kc := kb.cell
   refine bodyPost_ret (v := onePV (oneS B i c)) ?_ rfl ⟨rfl, ?_⟩
   ·rw [HN.out]
    simp [results, Tryz.results92, go_sem, onePV, HGS.out, kc]
   ·rw [HN.out]
    exact (((HQ2.out.sc.set HB.out (p := ⟨V.heap.size, 0, none⟩) (Nat.le_of_lt HQ2.out.ht) (.int .i64 2)).set HB.out (p := ⟨V.heap.size, 1, none⟩) (Nat.le_of_lt HQ2.out.ht) (.string s)).set5 HB.out (Nat.le_refl _) _ _ _ _ _)
end Go.Proofs.YtgcdhffeacdegaaGreatDoor
