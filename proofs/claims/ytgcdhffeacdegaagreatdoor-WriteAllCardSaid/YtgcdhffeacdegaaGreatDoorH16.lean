/- Layer 11, the program: the walks of operator, within. -/
import Derived.Test.YtgcdhffeacdegaaGreatDoorH15
namespace Go.Proofs.YtgcdhffeacdegaaGreatDoor
open Go.RowKit Go.El
theorem oprK_k {I Q : List OpV} {k : Int} {s : ByteArray} {l : List Tm} (h : k ≠ 4) : oprK I Q k s l = none := by unfold oprK; rw [if_pos (.inl h)]
theorem oprK_dot {I Q : List OpV} {k : Int} {s : ByteArray} {l : List Tm} (h : s.data.toList = [46]) (hl : l.length = 2) : oprK I Q k s l = none := by unfold oprK; rw [if_pos (.inr (.inl ⟨h, hl⟩))]
theorem oprK_br {I Q : List OpV} {k : Int} {s : ByteArray} {l : List Tm} (h : s.data.toList = [123, 125]) (hl : l.length = 1) : oprK I Q k s l = none := by unfold oprK; rw [if_pos (.inr (.inr ⟨h, hl⟩))]
theorem oprK_inf {I Q : List OpV} {k : Int} {s : ByteArray} {l : List Tm} (hk : k = 4) (h : s.data.toList ≠ [46]) (hl : l.length = 2) : oprK I Q k s l = findO s I := by
 subst hk
 unfold oprK
 rw [if_neg (by rintro (e | e | e); exact e rfl; exact h e.1; omega), if_pos hl]
theorem oprK_pre {I Q : List OpV} {k : Int} {s : ByteArray} {l : List Tm} (hk : k = 4) (h : s.data.toList ≠ [123, 125]) (hl : l.length = 1) (hm : isMinus s l = false) : oprK I Q k s l = findO s Q := by
 subst hk
 unfold oprK
 rw [if_neg (by rintro (e | e | e); exact e rfl; omega; exact h e.1), if_neg (by omega), if_pos ⟨hl, hm⟩]
theorem oprK_min {I Q : List OpV} {k : Int} {s : ByteArray} {l : List Tm} (hl : l.length = 1) (hm : isMinus s l = true) : oprK I Q k s l = none := by
 unfold oprK
 split
 ·rfl
 ·rw [if_neg (by omega), if_neg (by rintro ⟨_, e⟩; rw [hm] at e; cases e)]
theorem oprK_len {I Q : List OpV} {k : Int} {s : ByteArray} {l : List Tm} (h1 : l.length ≠ 1) (h2 : l.length ≠ 2) : oprK I Q k s l = none := by
 unfold oprK
 split
 ·rfl
 ·first | rw [if_neg h2, if_neg (fun e => h1 e.1)] | rw [if_neg (fun e => h1 e.1)]
theorem blk2b {w : World} {t t2 : TypeId} {cs cs2 : Array Value} : Blk ((w.alloc (.cells cs t)).alloc (.cells cs2 t2)) (w.heap.size + 1) t2 cs2 := by
 have := Blk.new (w.alloc (.cells cs t)) t2 cs2
 rw [World.size_alloc] at this
 exact this
set_option maxRecDepth 100000 in
set_option maxHeartbeats 8000000 in
theorem operator_any {base : Nat} {w : World} {b : Nat} {v : Value} {F : List UInt8} {I Q : List OpV} {op : Value} (h : WrSt base w b v F (some (I, Q)) op) (t : Tm) (A : Option Addr) (c : Nat) (D : Nat → Prop) (ht : TmIn D w t A c) :
  Calls Tryz.prog 156 #[.pointer (some ⟨b, 0, none⟩), tmVal t A c] w fun e w' => e = .returned (.tuple #[opVal ((oprT I Q t).getD zeroO), .bool (oprT I Q t).isSome]) ∧ Ext w w' := by
 obtain ⟨⟨p, hb⟩, ⟨tb, m1, m2, rfl, htb, _, _, _⟩, _, _⟩ := h
 have d2 : w.cell? ⟨b, 2, none⟩ = some (.pointer (some ⟨tb, 0, none⟩)) := hb.blk.cell 2
 have HM := fun (hl : 0 < t.l.length) W (x : Ext w W) => Lib.hid (minus_any t A c W D (ht.ext x) hl)
 have HT := Lib.hid htb
 unfold oprT
 unfold tmVal at HM ⊢
 clear hb htb ht
 obtain ⟨k, n, s, l⟩ := t
 simp only [Tm.k, Tm.n, Tm.s, Tm.l] at HM ⊢
 generalize hr : oprK I Q k s l = r
 by_cases hk : k = 4
 ·have k2 : (k == 4) = true := by simpa using hk
  have kT : (k = 4) = True := eq_true hk
  by_cases hl2 : l.length = 2
  ·have q2 : ((l.length : Int) == 2) = true := by simpa using (show (l.length : Int) = 2 by omega)
   have q1 : ((l.length : Int) == 1) = false := by simpa using (show ¬ (l.length : Int) = 1 by omega)
   by_cases h1 : s.data.toList = [46]
   ·have s1 : (s.toList == [46]) = true := by rw [ByteArray.toList_eq]; simpa using h1
    have s2 := lit_ne (s := s) (l := [123, 125]) (by rw [h1]; decide)
    obtain rfl : r = none := hr.symm.trans (oprK_dot h1 hl2)
    (try clear hl1)
    (try clear hl2)
    clear hr hk
    go_enter Tryz.func156, Tryz.ntmps156
    go_upto_region 1 with fail
    refine wp_abs (fun V => Hid (Blk V (w.heap.size + 1) 70 #[.int .i64 0, .int .i64 0, .string ⟨#[]⟩]) ∧ Hid (Blk V w.heap.size 32 #[.int .i64 k, .int .i64 n, .string s, .slice A l.length c]) ∧ Hid (Ext w V)) ⟨blk2b, (Blk.new w _ _).alloc _, ((Ext.refl w).alloc _).alloc _⟩ ?_
    rintro V ⟨HZ, HX, HE⟩
    have d2 := HE.out.cell d2
    have x0 : V.cell? ⟨w.heap.size, 0, none⟩ = some (.int .i64 k) := HX.out.cell 0
    have x1 : V.cell? ⟨w.heap.size, 1, none⟩ = some (.int .i64 n) := HX.out.cell 1
    have x2 : V.cell? ⟨w.heap.size, 2, none⟩ = some (.string s) := HX.out.cell 2
    have x3 : V.cell? ⟨w.heap.size, 3, none⟩ = some (.slice A l.length c) := HX.out.cell 3
    have z0 : V.cell? ⟨w.heap.size + 1, 0, none⟩ = some (.int .i64 0) := HZ.out.cell 0
    have z1 : V.cell? ⟨w.heap.size + 1, 1, none⟩ = some (.int .i64 0) := HZ.out.cell 1
    have z2 : V.cell? ⟨w.heap.size + 1, 2, none⟩ = some (.string ⟨#[]⟩) := HZ.out.cell 2
    have g0 := HZ.out.frozen 0
    have g1 := HZ.out.frozen 1
    have g2 := HZ.out.frozen 2
    go_wp2_with fail
    have hbf := ((HZ.out.set_ 0 (.int .i64 0)).set_ 1 (.int .i64 0)).set_ 2 (.string ⟨#[]⟩)
    have hEF := ((HE.out.setCell (p := ⟨w.heap.size + 1, 0, none⟩) (by simp) (.int .i64 0)).setCell (p := ⟨w.heap.size + 1, 1, none⟩) (by simp) (.int .i64 0)).setCell (p := ⟨w.heap.size + 1, 2, none⟩) (by simp) (.string ⟨#[]⟩)
    generalize ((V.setCell ⟨w.heap.size + 1, 0, none⟩ (.int .i64 0)).setCell ⟨w.heap.size + 1, 1, none⟩ (.int .i64 0)).setCell ⟨w.heap.size + 1, 2, none⟩ (.string ⟨#[]⟩) = VF at hbf hEF ⊢
    have r0 : VF.cell? ⟨w.heap.size + 1, 0, none⟩ = some (.int .i64 0) := hbf.cell 0
    have r1 : VF.cell? ⟨w.heap.size + 1, 1, none⟩ = some (.int .i64 0) := hbf.cell 1
    have r2 : VF.cell? ⟨w.heap.size + 1, 2, none⟩ = some (.string ⟨#[]⟩) := hbf.cell 2
    refine bodyPost_ret (v := .tuple #[opVal zeroO, .bool false]) (by simp [results, Tryz.results156, go_sem, r0, r1, r2, opVal_eq, zeroO]) rfl ⟨rfl, hEF⟩
   by_cases h2 : s.data.toList = [123, 125]
   ·have s1 := lit_ne (s := s) (l := [46]) (by rw [h2]; decide)
    have s2 : (s.toList == [123, 125]) = true := by rw [ByteArray.toList_eq]; simpa using h2
    obtain rfl : r = findO s I := hr.symm.trans (oprK_inf hk h1 hl2)
    (try clear hl1)
    (try clear hl2)
    clear hr hk h1 h2
    go_enter Tryz.func156, Tryz.ntmps156
    go_upto_region 1 with fail
    refine wp_abs (fun V => Hid (Blk V (w.heap.size + 1) 70 #[.int .i64 0, .int .i64 0, .string ⟨#[]⟩]) ∧ Hid (Blk V w.heap.size 32 #[.int .i64 k, .int .i64 n, .string s, .slice A l.length c]) ∧ Hid (Ext w V)) ⟨blk2b, (Blk.new w _ _).alloc _, ((Ext.refl w).alloc _).alloc _⟩ ?_
    rintro V ⟨HZ, HX, HE⟩
    have d2 := HE.out.cell d2
    have x0 : V.cell? ⟨w.heap.size, 0, none⟩ = some (.int .i64 k) := HX.out.cell 0
    have x1 : V.cell? ⟨w.heap.size, 1, none⟩ = some (.int .i64 n) := HX.out.cell 1
    have x2 : V.cell? ⟨w.heap.size, 2, none⟩ = some (.string s) := HX.out.cell 2
    have x3 : V.cell? ⟨w.heap.size, 3, none⟩ = some (.slice A l.length c) := HX.out.cell 3
    have z0 : V.cell? ⟨w.heap.size + 1, 0, none⟩ = some (.int .i64 0) := HZ.out.cell 0
    have z1 : V.cell? ⟨w.heap.size + 1, 1, none⟩ = some (.int .i64 0) := HZ.out.cell 1
    have z2 : V.cell? ⟨w.heap.size + 1, 2, none⟩ = some (.string ⟨#[]⟩) := HZ.out.cell 2
    have g0 := HZ.out.frozen 0
    have g1 := HZ.out.frozen 1
    have g2 := HZ.out.frozen 2
    go_upto_region 4 with fail
    have HI := Lib.hid (infix_any tb m1 m2 I Q s V.drew (HT.out.ext (HE.out.drew)))
    generalize hf : findO s I = r at HI
    have HFR := Lib.hid hf
    clear hf
    go_region_law ((go_simp; go_at_call 101; refine HI.out.mono ?_; rintro e W1 ⟨rfl, hx⟩; simp only [opVal_eq]; have hZ1 := (HZ.out.drewN 1).ext hx; have z0 : W1.cell? ⟨w.heap.size + 1, 0, none⟩ = some (.int .i64 0) := hZ1.cell 0; have z1 : W1.cell? ⟨w.heap.size + 1, 1, none⟩ = some (.int .i64 0) := hZ1.cell 1; have z2 : W1.cell? ⟨w.heap.size + 1, 2, none⟩ = some (.string ⟨#[]⟩) := hZ1.cell 2; have g0 := hZ1.frozen 0; have g1 := hZ1.frozen 1; have g2 := hZ1.frozen 2; have HZ2 := Lib.hid hZ1; have HE2 := Lib.hid (HE.out.drew.trans hx); clear hx hZ1))
    all_goals
     go_wp2_with fail
     have hbf := ((HZ2.out.set_ 0 (.int .i64 (r.getD zeroO).p)).set_ 1 (.int .i64 (r.getD zeroO).t)).set_ 2 (.string (r.getD zeroO).s)
     have hEF := ((HE2.out.setCell (p := ⟨w.heap.size + 1, 0, none⟩) (by simp) (.int .i64 (r.getD zeroO).p)).setCell (p := ⟨w.heap.size + 1, 1, none⟩) (by simp) (.int .i64 (r.getD zeroO).t)).setCell (p := ⟨w.heap.size + 1, 2, none⟩) (by simp) (.string (r.getD zeroO).s)
     generalize ((W1.setCell ⟨w.heap.size + 1, 0, none⟩ (.int .i64 (r.getD zeroO).p)).setCell ⟨w.heap.size + 1, 1, none⟩ (.int .i64 (r.getD zeroO).t)).setCell ⟨w.heap.size + 1, 2, none⟩ (.string (r.getD zeroO).s) = VF at hbf hEF ⊢
     have r0 : VF.cell? ⟨w.heap.size + 1, 0, none⟩ = some (.int .i64 (r.getD zeroO).p) := hbf.cell 0
     have r1 : VF.cell? ⟨w.heap.size + 1, 1, none⟩ = some (.int .i64 (r.getD zeroO).t) := hbf.cell 1
     have r2 : VF.cell? ⟨w.heap.size + 1, 2, none⟩ = some (.string (r.getD zeroO).s) := hbf.cell 2
     refine bodyPost_ret (v := .tuple #[opVal (r.getD zeroO), .bool r.isSome]) (by simp [results, Tryz.results156, go_sem, r0, r1, r2, opVal_eq]) rfl ⟨by rw [HFR.out], hEF⟩
   have s1 := lit_ne h1
   have s2 := lit_ne h2
   obtain rfl : r = findO s I := hr.symm.trans (oprK_inf hk h1 hl2)
   (try clear hl1)
   (try clear hl2)
   clear hr hk h1 h2
   go_enter Tryz.func156, Tryz.ntmps156
   go_upto_region 1 with fail
   refine wp_abs (fun V => Hid (Blk V (w.heap.size + 1) 70 #[.int .i64 0, .int .i64 0, .string ⟨#[]⟩]) ∧ Hid (Blk V w.heap.size 32 #[.int .i64 k, .int .i64 n, .string s, .slice A l.length c]) ∧ Hid (Ext w V)) ⟨blk2b, (Blk.new w _ _).alloc _, ((Ext.refl w).alloc _).alloc _⟩ ?_
   rintro V ⟨HZ, HX, HE⟩
   have d2 := HE.out.cell d2
   have x0 : V.cell? ⟨w.heap.size, 0, none⟩ = some (.int .i64 k) := HX.out.cell 0
   have x1 : V.cell? ⟨w.heap.size, 1, none⟩ = some (.int .i64 n) := HX.out.cell 1
   have x2 : V.cell? ⟨w.heap.size, 2, none⟩ = some (.string s) := HX.out.cell 2
   have x3 : V.cell? ⟨w.heap.size, 3, none⟩ = some (.slice A l.length c) := HX.out.cell 3
   have z0 : V.cell? ⟨w.heap.size + 1, 0, none⟩ = some (.int .i64 0) := HZ.out.cell 0
   have z1 : V.cell? ⟨w.heap.size + 1, 1, none⟩ = some (.int .i64 0) := HZ.out.cell 1
   have z2 : V.cell? ⟨w.heap.size + 1, 2, none⟩ = some (.string ⟨#[]⟩) := HZ.out.cell 2
   have g0 := HZ.out.frozen 0
   have g1 := HZ.out.frozen 1
   have g2 := HZ.out.frozen 2
   go_upto_region 4 with fail
   have HI := Lib.hid (infix_any tb m1 m2 I Q s V.drew (HT.out.ext (HE.out.drew)))
   generalize hf : findO s I = r at HI
   have HFR := Lib.hid hf
   clear hf
   go_region_law ((go_simp; go_at_call 101; refine HI.out.mono ?_; rintro e W1 ⟨rfl, hx⟩; simp only [opVal_eq]; have hZ1 := (HZ.out.drewN 1).ext hx; have z0 : W1.cell? ⟨w.heap.size + 1, 0, none⟩ = some (.int .i64 0) := hZ1.cell 0; have z1 : W1.cell? ⟨w.heap.size + 1, 1, none⟩ = some (.int .i64 0) := hZ1.cell 1; have z2 : W1.cell? ⟨w.heap.size + 1, 2, none⟩ = some (.string ⟨#[]⟩) := hZ1.cell 2; have g0 := hZ1.frozen 0; have g1 := hZ1.frozen 1; have g2 := hZ1.frozen 2; have HZ2 := Lib.hid hZ1; have HE2 := Lib.hid (HE.out.drew.trans hx); clear hx hZ1))
   all_goals
    go_wp2_with fail
    have hbf := ((HZ2.out.set_ 0 (.int .i64 (r.getD zeroO).p)).set_ 1 (.int .i64 (r.getD zeroO).t)).set_ 2 (.string (r.getD zeroO).s)
    have hEF := ((HE2.out.setCell (p := ⟨w.heap.size + 1, 0, none⟩) (by simp) (.int .i64 (r.getD zeroO).p)).setCell (p := ⟨w.heap.size + 1, 1, none⟩) (by simp) (.int .i64 (r.getD zeroO).t)).setCell (p := ⟨w.heap.size + 1, 2, none⟩) (by simp) (.string (r.getD zeroO).s)
    generalize ((W1.setCell ⟨w.heap.size + 1, 0, none⟩ (.int .i64 (r.getD zeroO).p)).setCell ⟨w.heap.size + 1, 1, none⟩ (.int .i64 (r.getD zeroO).t)).setCell ⟨w.heap.size + 1, 2, none⟩ (.string (r.getD zeroO).s) = VF at hbf hEF ⊢
    have r0 : VF.cell? ⟨w.heap.size + 1, 0, none⟩ = some (.int .i64 (r.getD zeroO).p) := hbf.cell 0
    have r1 : VF.cell? ⟨w.heap.size + 1, 1, none⟩ = some (.int .i64 (r.getD zeroO).t) := hbf.cell 1
    have r2 : VF.cell? ⟨w.heap.size + 1, 2, none⟩ = some (.string (r.getD zeroO).s) := hbf.cell 2
    refine bodyPost_ret (v := .tuple #[opVal (r.getD zeroO), .bool r.isSome]) (by simp [results, Tryz.results156, go_sem, r0, r1, r2, opVal_eq]) rfl ⟨by rw [HFR.out], hEF⟩
  ·by_cases hl1 : l.length = 1
   ·have q2 : ((l.length : Int) == 2) = false := by simpa using (show ¬ (l.length : Int) = 2 by omega)
    have q1 : ((l.length : Int) == 1) = true := by simpa using (show (l.length : Int) = 1 by omega)
    by_cases h1 : s.data.toList = [46]
    ·have s1 : (s.toList == [46]) = true := by rw [ByteArray.toList_eq]; simpa using h1
     have s2 := lit_ne (s := s) (l := [123, 125]) (by rw [h1]; decide)
     replace HM := HM (by omega)
     cases hm : isMinus s l
     ·rw [hm] at HM
      obtain rfl : r = findO s Q := hr.symm.trans (oprK_pre hk (by rw [h1]; decide) hl1 hm)
      (try clear hl1)
      (try clear hl2)
      clear hr hk h1
      go_enter Tryz.func156, Tryz.ntmps156
      go_upto_region 1 with fail
      refine wp_abs (fun V => Hid (Blk V (w.heap.size + 1) 70 #[.int .i64 0, .int .i64 0, .string ⟨#[]⟩]) ∧ Hid (Blk V w.heap.size 32 #[.int .i64 k, .int .i64 n, .string s, .slice A l.length c]) ∧ Hid (Ext w V)) ⟨blk2b, (Blk.new w _ _).alloc _, ((Ext.refl w).alloc _).alloc _⟩ ?_
      rintro V ⟨HZ, HX, HE⟩
      have d2 := HE.out.cell d2
      have x0 : V.cell? ⟨w.heap.size, 0, none⟩ = some (.int .i64 k) := HX.out.cell 0
      have x1 : V.cell? ⟨w.heap.size, 1, none⟩ = some (.int .i64 n) := HX.out.cell 1
      have x2 : V.cell? ⟨w.heap.size, 2, none⟩ = some (.string s) := HX.out.cell 2
      have x3 : V.cell? ⟨w.heap.size, 3, none⟩ = some (.slice A l.length c) := HX.out.cell 3
      have z0 : V.cell? ⟨w.heap.size + 1, 0, none⟩ = some (.int .i64 0) := HZ.out.cell 0
      have z1 : V.cell? ⟨w.heap.size + 1, 1, none⟩ = some (.int .i64 0) := HZ.out.cell 1
      have z2 : V.cell? ⟨w.heap.size + 1, 2, none⟩ = some (.string ⟨#[]⟩) := HZ.out.cell 2
      have g0 := HZ.out.frozen 0
      have g1 := HZ.out.frozen 1
      have g2 := HZ.out.frozen 2
      go_upto_region 6 with (go_at_call 177; refine (HM _ HE.out).out.mono ?_; rintro e V2 ⟨rfl, hx⟩; have HE := Lib.hid (HE.out.trans hx); have HZ := Lib.hid (HZ.out.ext hx); have d2 := hx.cell d2; have x2 := hx.cell x2; have z0 := hx.cell z0; have z1 := hx.cell z1; have z2 := hx.cell z2; have g0 := HZ.out.frozen 0; have g1 := HZ.out.frozen 1; have g2 := HZ.out.frozen 2; clear hx)
      have HI := Lib.hid (prefix_any tb m1 m2 I Q s V2.drew (HT.out.ext (HE.out.drew)))
      generalize hf : findO s Q = r at HI
      have HFR := Lib.hid hf
      clear hf
      go_region_law ((go_simp; go_at_call 144; refine HI.out.mono ?_; rintro e W1 ⟨rfl, hx⟩; simp only [opVal_eq]; have hZ1 := (HZ.out.drewN 1).ext hx; have z0 : W1.cell? ⟨w.heap.size + 1, 0, none⟩ = some (.int .i64 0) := hZ1.cell 0; have z1 : W1.cell? ⟨w.heap.size + 1, 1, none⟩ = some (.int .i64 0) := hZ1.cell 1; have z2 : W1.cell? ⟨w.heap.size + 1, 2, none⟩ = some (.string ⟨#[]⟩) := hZ1.cell 2; have g0 := hZ1.frozen 0; have g1 := hZ1.frozen 1; have g2 := hZ1.frozen 2; have HZ2 := Lib.hid hZ1; have HE2 := Lib.hid (HE.out.drew.trans hx); clear hx hZ1))
      all_goals
       go_wp2_with fail
       have hbf := ((HZ2.out.set_ 0 (.int .i64 (r.getD zeroO).p)).set_ 1 (.int .i64 (r.getD zeroO).t)).set_ 2 (.string (r.getD zeroO).s)
       have hEF := ((HE2.out.setCell (p := ⟨w.heap.size + 1, 0, none⟩) (by simp) (.int .i64 (r.getD zeroO).p)).setCell (p := ⟨w.heap.size + 1, 1, none⟩) (by simp) (.int .i64 (r.getD zeroO).t)).setCell (p := ⟨w.heap.size + 1, 2, none⟩) (by simp) (.string (r.getD zeroO).s)
       generalize ((W1.setCell ⟨w.heap.size + 1, 0, none⟩ (.int .i64 (r.getD zeroO).p)).setCell ⟨w.heap.size + 1, 1, none⟩ (.int .i64 (r.getD zeroO).t)).setCell ⟨w.heap.size + 1, 2, none⟩ (.string (r.getD zeroO).s) = VF at hbf hEF ⊢
       have r0 : VF.cell? ⟨w.heap.size + 1, 0, none⟩ = some (.int .i64 (r.getD zeroO).p) := hbf.cell 0
       have r1 : VF.cell? ⟨w.heap.size + 1, 1, none⟩ = some (.int .i64 (r.getD zeroO).t) := hbf.cell 1
       have r2 : VF.cell? ⟨w.heap.size + 1, 2, none⟩ = some (.string (r.getD zeroO).s) := hbf.cell 2
       refine bodyPost_ret (v := .tuple #[opVal (r.getD zeroO), .bool r.isSome]) (by simp [results, Tryz.results156, go_sem, r0, r1, r2, opVal_eq]) rfl ⟨by rw [HFR.out], hEF⟩
     ·rw [hm] at HM
      obtain rfl : r = none := hr.symm.trans (oprK_min hl1 hm)
      (try clear hl1)
      (try clear hl2)
      clear hr hk
      go_enter Tryz.func156, Tryz.ntmps156
      go_upto_region 1 with fail
      refine wp_abs (fun V => Hid (Blk V (w.heap.size + 1) 70 #[.int .i64 0, .int .i64 0, .string ⟨#[]⟩]) ∧ Hid (Blk V w.heap.size 32 #[.int .i64 k, .int .i64 n, .string s, .slice A l.length c]) ∧ Hid (Ext w V)) ⟨blk2b, (Blk.new w _ _).alloc _, ((Ext.refl w).alloc _).alloc _⟩ ?_
      rintro V ⟨HZ, HX, HE⟩
      have d2 := HE.out.cell d2
      have x0 : V.cell? ⟨w.heap.size, 0, none⟩ = some (.int .i64 k) := HX.out.cell 0
      have x1 : V.cell? ⟨w.heap.size, 1, none⟩ = some (.int .i64 n) := HX.out.cell 1
      have x2 : V.cell? ⟨w.heap.size, 2, none⟩ = some (.string s) := HX.out.cell 2
      have x3 : V.cell? ⟨w.heap.size, 3, none⟩ = some (.slice A l.length c) := HX.out.cell 3
      have z0 : V.cell? ⟨w.heap.size + 1, 0, none⟩ = some (.int .i64 0) := HZ.out.cell 0
      have z1 : V.cell? ⟨w.heap.size + 1, 1, none⟩ = some (.int .i64 0) := HZ.out.cell 1
      have z2 : V.cell? ⟨w.heap.size + 1, 2, none⟩ = some (.string ⟨#[]⟩) := HZ.out.cell 2
      have g0 := HZ.out.frozen 0
      have g1 := HZ.out.frozen 1
      have g2 := HZ.out.frozen 2
      go_wp2_with (go_at_call 177; refine (HM _ HE.out).out.mono ?_; rintro e V2 ⟨rfl, hx⟩; have HE := Lib.hid (HE.out.trans hx); have HZ := Lib.hid (HZ.out.ext hx); have d2 := hx.cell d2; have x2 := hx.cell x2; have z0 := hx.cell z0; have z1 := hx.cell z1; have z2 := hx.cell z2; have g0 := HZ.out.frozen 0; have g1 := HZ.out.frozen 1; have g2 := HZ.out.frozen 2; clear hx)
      have hbf := ((HZ.out.set_ 0 (.int .i64 0)).set_ 1 (.int .i64 0)).set_ 2 (.string ⟨#[]⟩)
      have hEF := ((HE.out.setCell (p := ⟨w.heap.size + 1, 0, none⟩) (by simp) (.int .i64 0)).setCell (p := ⟨w.heap.size + 1, 1, none⟩) (by simp) (.int .i64 0)).setCell (p := ⟨w.heap.size + 1, 2, none⟩) (by simp) (.string ⟨#[]⟩)
      generalize ((V2.setCell ⟨w.heap.size + 1, 0, none⟩ (.int .i64 0)).setCell ⟨w.heap.size + 1, 1, none⟩ (.int .i64 0)).setCell ⟨w.heap.size + 1, 2, none⟩ (.string ⟨#[]⟩) = VF at hbf hEF ⊢
      have r0 : VF.cell? ⟨w.heap.size + 1, 0, none⟩ = some (.int .i64 0) := hbf.cell 0
      have r1 : VF.cell? ⟨w.heap.size + 1, 1, none⟩ = some (.int .i64 0) := hbf.cell 1
      have r2 : VF.cell? ⟨w.heap.size + 1, 2, none⟩ = some (.string ⟨#[]⟩) := hbf.cell 2
      refine bodyPost_ret (v := .tuple #[opVal zeroO, .bool false]) (by simp [results, Tryz.results156, go_sem, r0, r1, r2, opVal_eq, zeroO]) rfl ⟨rfl, hEF⟩
    by_cases h2 : s.data.toList = [123, 125]
    ·have s1 := lit_ne (s := s) (l := [46]) (by rw [h2]; decide)
     have s2 : (s.toList == [123, 125]) = true := by rw [ByteArray.toList_eq]; simpa using h2
     obtain rfl : r = none := hr.symm.trans (oprK_br h2 hl1)
     (try clear hl1)
     (try clear hl2)
     clear hr hk
     go_enter Tryz.func156, Tryz.ntmps156
     go_upto_region 1 with fail
     refine wp_abs (fun V => Hid (Blk V (w.heap.size + 1) 70 #[.int .i64 0, .int .i64 0, .string ⟨#[]⟩]) ∧ Hid (Blk V w.heap.size 32 #[.int .i64 k, .int .i64 n, .string s, .slice A l.length c]) ∧ Hid (Ext w V)) ⟨blk2b, (Blk.new w _ _).alloc _, ((Ext.refl w).alloc _).alloc _⟩ ?_
     rintro V ⟨HZ, HX, HE⟩
     have d2 := HE.out.cell d2
     have x0 : V.cell? ⟨w.heap.size, 0, none⟩ = some (.int .i64 k) := HX.out.cell 0
     have x1 : V.cell? ⟨w.heap.size, 1, none⟩ = some (.int .i64 n) := HX.out.cell 1
     have x2 : V.cell? ⟨w.heap.size, 2, none⟩ = some (.string s) := HX.out.cell 2
     have x3 : V.cell? ⟨w.heap.size, 3, none⟩ = some (.slice A l.length c) := HX.out.cell 3
     have z0 : V.cell? ⟨w.heap.size + 1, 0, none⟩ = some (.int .i64 0) := HZ.out.cell 0
     have z1 : V.cell? ⟨w.heap.size + 1, 1, none⟩ = some (.int .i64 0) := HZ.out.cell 1
     have z2 : V.cell? ⟨w.heap.size + 1, 2, none⟩ = some (.string ⟨#[]⟩) := HZ.out.cell 2
     have g0 := HZ.out.frozen 0
     have g1 := HZ.out.frozen 1
     have g2 := HZ.out.frozen 2
     go_wp2_with fail
     have hbf := ((HZ.out.set_ 0 (.int .i64 0)).set_ 1 (.int .i64 0)).set_ 2 (.string ⟨#[]⟩)
     have hEF := ((HE.out.setCell (p := ⟨w.heap.size + 1, 0, none⟩) (by simp) (.int .i64 0)).setCell (p := ⟨w.heap.size + 1, 1, none⟩) (by simp) (.int .i64 0)).setCell (p := ⟨w.heap.size + 1, 2, none⟩) (by simp) (.string ⟨#[]⟩)
     generalize ((V.setCell ⟨w.heap.size + 1, 0, none⟩ (.int .i64 0)).setCell ⟨w.heap.size + 1, 1, none⟩ (.int .i64 0)).setCell ⟨w.heap.size + 1, 2, none⟩ (.string ⟨#[]⟩) = VF at hbf hEF ⊢
     have r0 : VF.cell? ⟨w.heap.size + 1, 0, none⟩ = some (.int .i64 0) := hbf.cell 0
     have r1 : VF.cell? ⟨w.heap.size + 1, 1, none⟩ = some (.int .i64 0) := hbf.cell 1
     have r2 : VF.cell? ⟨w.heap.size + 1, 2, none⟩ = some (.string ⟨#[]⟩) := hbf.cell 2
     refine bodyPost_ret (v := .tuple #[opVal zeroO, .bool false]) (by simp [results, Tryz.results156, go_sem, r0, r1, r2, opVal_eq, zeroO]) rfl ⟨rfl, hEF⟩
    have s1 := lit_ne h1
    have s2 := lit_ne h2
    replace HM := HM (by omega)
    cases hm : isMinus s l
    ·rw [hm] at HM
     obtain rfl : r = findO s Q := hr.symm.trans (oprK_pre hk h2 hl1 hm)
     (try clear hl1)
     (try clear hl2)
     clear hr hk h1 h2
     go_enter Tryz.func156, Tryz.ntmps156
     go_upto_region 1 with fail
     refine wp_abs (fun V => Hid (Blk V (w.heap.size + 1) 70 #[.int .i64 0, .int .i64 0, .string ⟨#[]⟩]) ∧ Hid (Blk V w.heap.size 32 #[.int .i64 k, .int .i64 n, .string s, .slice A l.length c]) ∧ Hid (Ext w V)) ⟨blk2b, (Blk.new w _ _).alloc _, ((Ext.refl w).alloc _).alloc _⟩ ?_
     rintro V ⟨HZ, HX, HE⟩
     have d2 := HE.out.cell d2
     have x0 : V.cell? ⟨w.heap.size, 0, none⟩ = some (.int .i64 k) := HX.out.cell 0
     have x1 : V.cell? ⟨w.heap.size, 1, none⟩ = some (.int .i64 n) := HX.out.cell 1
     have x2 : V.cell? ⟨w.heap.size, 2, none⟩ = some (.string s) := HX.out.cell 2
     have x3 : V.cell? ⟨w.heap.size, 3, none⟩ = some (.slice A l.length c) := HX.out.cell 3
     have z0 : V.cell? ⟨w.heap.size + 1, 0, none⟩ = some (.int .i64 0) := HZ.out.cell 0
     have z1 : V.cell? ⟨w.heap.size + 1, 1, none⟩ = some (.int .i64 0) := HZ.out.cell 1
     have z2 : V.cell? ⟨w.heap.size + 1, 2, none⟩ = some (.string ⟨#[]⟩) := HZ.out.cell 2
     have g0 := HZ.out.frozen 0
     have g1 := HZ.out.frozen 1
     have g2 := HZ.out.frozen 2
     go_upto_region 6 with (go_at_call 177; refine (HM _ HE.out).out.mono ?_; rintro e V2 ⟨rfl, hx⟩; have HE := Lib.hid (HE.out.trans hx); have HZ := Lib.hid (HZ.out.ext hx); have d2 := hx.cell d2; have x2 := hx.cell x2; have z0 := hx.cell z0; have z1 := hx.cell z1; have z2 := hx.cell z2; have g0 := HZ.out.frozen 0; have g1 := HZ.out.frozen 1; have g2 := HZ.out.frozen 2; clear hx)
     have HI := Lib.hid (prefix_any tb m1 m2 I Q s V2.drew (HT.out.ext (HE.out.drew)))
     generalize hf : findO s Q = r at HI
     have HFR := Lib.hid hf
     clear hf
     go_region_law ((go_simp; go_at_call 144; refine HI.out.mono ?_; rintro e W1 ⟨rfl, hx⟩; simp only [opVal_eq]; have hZ1 := (HZ.out.drewN 1).ext hx; have z0 : W1.cell? ⟨w.heap.size + 1, 0, none⟩ = some (.int .i64 0) := hZ1.cell 0; have z1 : W1.cell? ⟨w.heap.size + 1, 1, none⟩ = some (.int .i64 0) := hZ1.cell 1; have z2 : W1.cell? ⟨w.heap.size + 1, 2, none⟩ = some (.string ⟨#[]⟩) := hZ1.cell 2; have g0 := hZ1.frozen 0; have g1 := hZ1.frozen 1; have g2 := hZ1.frozen 2; have HZ2 := Lib.hid hZ1; have HE2 := Lib.hid (HE.out.drew.trans hx); clear hx hZ1))
     all_goals
      go_wp2_with fail
      have hbf := ((HZ2.out.set_ 0 (.int .i64 (r.getD zeroO).p)).set_ 1 (.int .i64 (r.getD zeroO).t)).set_ 2 (.string (r.getD zeroO).s)
      have hEF := ((HE2.out.setCell (p := ⟨w.heap.size + 1, 0, none⟩) (by simp) (.int .i64 (r.getD zeroO).p)).setCell (p := ⟨w.heap.size + 1, 1, none⟩) (by simp) (.int .i64 (r.getD zeroO).t)).setCell (p := ⟨w.heap.size + 1, 2, none⟩) (by simp) (.string (r.getD zeroO).s)
      generalize ((W1.setCell ⟨w.heap.size + 1, 0, none⟩ (.int .i64 (r.getD zeroO).p)).setCell ⟨w.heap.size + 1, 1, none⟩ (.int .i64 (r.getD zeroO).t)).setCell ⟨w.heap.size + 1, 2, none⟩ (.string (r.getD zeroO).s) = VF at hbf hEF ⊢
      have r0 : VF.cell? ⟨w.heap.size + 1, 0, none⟩ = some (.int .i64 (r.getD zeroO).p) := hbf.cell 0
      have r1 : VF.cell? ⟨w.heap.size + 1, 1, none⟩ = some (.int .i64 (r.getD zeroO).t) := hbf.cell 1
      have r2 : VF.cell? ⟨w.heap.size + 1, 2, none⟩ = some (.string (r.getD zeroO).s) := hbf.cell 2
      refine bodyPost_ret (v := .tuple #[opVal (r.getD zeroO), .bool r.isSome]) (by simp [results, Tryz.results156, go_sem, r0, r1, r2, opVal_eq]) rfl ⟨by rw [HFR.out], hEF⟩
    ·rw [hm] at HM
     obtain rfl : r = none := hr.symm.trans (oprK_min hl1 hm)
     (try clear hl1)
     (try clear hl2)
     clear hr hk
     go_enter Tryz.func156, Tryz.ntmps156
     go_upto_region 1 with fail
     refine wp_abs (fun V => Hid (Blk V (w.heap.size + 1) 70 #[.int .i64 0, .int .i64 0, .string ⟨#[]⟩]) ∧ Hid (Blk V w.heap.size 32 #[.int .i64 k, .int .i64 n, .string s, .slice A l.length c]) ∧ Hid (Ext w V)) ⟨blk2b, (Blk.new w _ _).alloc _, ((Ext.refl w).alloc _).alloc _⟩ ?_
     rintro V ⟨HZ, HX, HE⟩
     have d2 := HE.out.cell d2
     have x0 : V.cell? ⟨w.heap.size, 0, none⟩ = some (.int .i64 k) := HX.out.cell 0
     have x1 : V.cell? ⟨w.heap.size, 1, none⟩ = some (.int .i64 n) := HX.out.cell 1
     have x2 : V.cell? ⟨w.heap.size, 2, none⟩ = some (.string s) := HX.out.cell 2
     have x3 : V.cell? ⟨w.heap.size, 3, none⟩ = some (.slice A l.length c) := HX.out.cell 3
     have z0 : V.cell? ⟨w.heap.size + 1, 0, none⟩ = some (.int .i64 0) := HZ.out.cell 0
     have z1 : V.cell? ⟨w.heap.size + 1, 1, none⟩ = some (.int .i64 0) := HZ.out.cell 1
     have z2 : V.cell? ⟨w.heap.size + 1, 2, none⟩ = some (.string ⟨#[]⟩) := HZ.out.cell 2
     have g0 := HZ.out.frozen 0
     have g1 := HZ.out.frozen 1
     have g2 := HZ.out.frozen 2
     go_wp2_with (go_at_call 177; refine (HM _ HE.out).out.mono ?_; rintro e V2 ⟨rfl, hx⟩; have HE := Lib.hid (HE.out.trans hx); have HZ := Lib.hid (HZ.out.ext hx); have d2 := hx.cell d2; have x2 := hx.cell x2; have z0 := hx.cell z0; have z1 := hx.cell z1; have z2 := hx.cell z2; have g0 := HZ.out.frozen 0; have g1 := HZ.out.frozen 1; have g2 := HZ.out.frozen 2; clear hx)
     have hbf := ((HZ.out.set_ 0 (.int .i64 0)).set_ 1 (.int .i64 0)).set_ 2 (.string ⟨#[]⟩)
     have hEF := ((HE.out.setCell (p := ⟨w.heap.size + 1, 0, none⟩) (by simp) (.int .i64 0)).setCell (p := ⟨w.heap.size + 1, 1, none⟩) (by simp) (.int .i64 0)).setCell (p := ⟨w.heap.size + 1, 2, none⟩) (by simp) (.string ⟨#[]⟩)
     generalize ((V2.setCell ⟨w.heap.size + 1, 0, none⟩ (.int .i64 0)).setCell ⟨w.heap.size + 1, 1, none⟩ (.int .i64 0)).setCell ⟨w.heap.size + 1, 2, none⟩ (.string ⟨#[]⟩) = VF at hbf hEF ⊢
     have r0 : VF.cell? ⟨w.heap.size + 1, 0, none⟩ = some (.int .i64 0) := hbf.cell 0
     have r1 : VF.cell? ⟨w.heap.size + 1, 1, none⟩ = some (.int .i64 0) := hbf.cell 1
     have r2 : VF.cell? ⟨w.heap.size + 1, 2, none⟩ = some (.string ⟨#[]⟩) := hbf.cell 2
     refine bodyPost_ret (v := .tuple #[opVal zeroO, .bool false]) (by simp [results, Tryz.results156, go_sem, r0, r1, r2, opVal_eq, zeroO]) rfl ⟨rfl, hEF⟩
   ·have q2 : ((l.length : Int) == 2) = false := by simpa using (show ¬ (l.length : Int) = 2 by omega)
    have q1 : ((l.length : Int) == 1) = false := by simpa using (show ¬ (l.length : Int) = 1 by omega)
    by_cases h1 : s.data.toList = [46]
    ·have s1 : (s.toList == [46]) = true := by rw [ByteArray.toList_eq]; simpa using h1
     have s2 := lit_ne (s := s) (l := [123, 125]) (by rw [h1]; decide)
     obtain rfl : r = none := hr.symm.trans (oprK_len hl1 hl2)
     (try clear hl1)
     (try clear hl2)
     clear hr hk
     go_enter Tryz.func156, Tryz.ntmps156
     go_upto_region 1 with fail
     refine wp_abs (fun V => Hid (Blk V (w.heap.size + 1) 70 #[.int .i64 0, .int .i64 0, .string ⟨#[]⟩]) ∧ Hid (Blk V w.heap.size 32 #[.int .i64 k, .int .i64 n, .string s, .slice A l.length c]) ∧ Hid (Ext w V)) ⟨blk2b, (Blk.new w _ _).alloc _, ((Ext.refl w).alloc _).alloc _⟩ ?_
     rintro V ⟨HZ, HX, HE⟩
     have d2 := HE.out.cell d2
     have x0 : V.cell? ⟨w.heap.size, 0, none⟩ = some (.int .i64 k) := HX.out.cell 0
     have x1 : V.cell? ⟨w.heap.size, 1, none⟩ = some (.int .i64 n) := HX.out.cell 1
     have x2 : V.cell? ⟨w.heap.size, 2, none⟩ = some (.string s) := HX.out.cell 2
     have x3 : V.cell? ⟨w.heap.size, 3, none⟩ = some (.slice A l.length c) := HX.out.cell 3
     have z0 : V.cell? ⟨w.heap.size + 1, 0, none⟩ = some (.int .i64 0) := HZ.out.cell 0
     have z1 : V.cell? ⟨w.heap.size + 1, 1, none⟩ = some (.int .i64 0) := HZ.out.cell 1
     have z2 : V.cell? ⟨w.heap.size + 1, 2, none⟩ = some (.string ⟨#[]⟩) := HZ.out.cell 2
     have g0 := HZ.out.frozen 0
     have g1 := HZ.out.frozen 1
     have g2 := HZ.out.frozen 2
     go_wp2_with fail
     have hbf := ((HZ.out.set_ 0 (.int .i64 0)).set_ 1 (.int .i64 0)).set_ 2 (.string ⟨#[]⟩)
     have hEF := ((HE.out.setCell (p := ⟨w.heap.size + 1, 0, none⟩) (by simp) (.int .i64 0)).setCell (p := ⟨w.heap.size + 1, 1, none⟩) (by simp) (.int .i64 0)).setCell (p := ⟨w.heap.size + 1, 2, none⟩) (by simp) (.string ⟨#[]⟩)
     generalize ((V.setCell ⟨w.heap.size + 1, 0, none⟩ (.int .i64 0)).setCell ⟨w.heap.size + 1, 1, none⟩ (.int .i64 0)).setCell ⟨w.heap.size + 1, 2, none⟩ (.string ⟨#[]⟩) = VF at hbf hEF ⊢
     have r0 : VF.cell? ⟨w.heap.size + 1, 0, none⟩ = some (.int .i64 0) := hbf.cell 0
     have r1 : VF.cell? ⟨w.heap.size + 1, 1, none⟩ = some (.int .i64 0) := hbf.cell 1
     have r2 : VF.cell? ⟨w.heap.size + 1, 2, none⟩ = some (.string ⟨#[]⟩) := hbf.cell 2
     refine bodyPost_ret (v := .tuple #[opVal zeroO, .bool false]) (by simp [results, Tryz.results156, go_sem, r0, r1, r2, opVal_eq, zeroO]) rfl ⟨rfl, hEF⟩
    by_cases h2 : s.data.toList = [123, 125]
    ·have s1 := lit_ne (s := s) (l := [46]) (by rw [h2]; decide)
     have s2 : (s.toList == [123, 125]) = true := by rw [ByteArray.toList_eq]; simpa using h2
     obtain rfl : r = none := hr.symm.trans (oprK_len hl1 hl2)
     (try clear hl1)
     (try clear hl2)
     clear hr hk
     go_enter Tryz.func156, Tryz.ntmps156
     go_upto_region 1 with fail
     refine wp_abs (fun V => Hid (Blk V (w.heap.size + 1) 70 #[.int .i64 0, .int .i64 0, .string ⟨#[]⟩]) ∧ Hid (Blk V w.heap.size 32 #[.int .i64 k, .int .i64 n, .string s, .slice A l.length c]) ∧ Hid (Ext w V)) ⟨blk2b, (Blk.new w _ _).alloc _, ((Ext.refl w).alloc _).alloc _⟩ ?_
     rintro V ⟨HZ, HX, HE⟩
     have d2 := HE.out.cell d2
     have x0 : V.cell? ⟨w.heap.size, 0, none⟩ = some (.int .i64 k) := HX.out.cell 0
     have x1 : V.cell? ⟨w.heap.size, 1, none⟩ = some (.int .i64 n) := HX.out.cell 1
     have x2 : V.cell? ⟨w.heap.size, 2, none⟩ = some (.string s) := HX.out.cell 2
     have x3 : V.cell? ⟨w.heap.size, 3, none⟩ = some (.slice A l.length c) := HX.out.cell 3
     have z0 : V.cell? ⟨w.heap.size + 1, 0, none⟩ = some (.int .i64 0) := HZ.out.cell 0
     have z1 : V.cell? ⟨w.heap.size + 1, 1, none⟩ = some (.int .i64 0) := HZ.out.cell 1
     have z2 : V.cell? ⟨w.heap.size + 1, 2, none⟩ = some (.string ⟨#[]⟩) := HZ.out.cell 2
     have g0 := HZ.out.frozen 0
     have g1 := HZ.out.frozen 1
     have g2 := HZ.out.frozen 2
     go_wp2_with fail
     have hbf := ((HZ.out.set_ 0 (.int .i64 0)).set_ 1 (.int .i64 0)).set_ 2 (.string ⟨#[]⟩)
     have hEF := ((HE.out.setCell (p := ⟨w.heap.size + 1, 0, none⟩) (by simp) (.int .i64 0)).setCell (p := ⟨w.heap.size + 1, 1, none⟩) (by simp) (.int .i64 0)).setCell (p := ⟨w.heap.size + 1, 2, none⟩) (by simp) (.string ⟨#[]⟩)
     generalize ((V.setCell ⟨w.heap.size + 1, 0, none⟩ (.int .i64 0)).setCell ⟨w.heap.size + 1, 1, none⟩ (.int .i64 0)).setCell ⟨w.heap.size + 1, 2, none⟩ (.string ⟨#[]⟩) = VF at hbf hEF ⊢
     have r0 : VF.cell? ⟨w.heap.size + 1, 0, none⟩ = some (.int .i64 0) := hbf.cell 0
     have r1 : VF.cell? ⟨w.heap.size + 1, 1, none⟩ = some (.int .i64 0) := hbf.cell 1
     have r2 : VF.cell? ⟨w.heap.size + 1, 2, none⟩ = some (.string ⟨#[]⟩) := hbf.cell 2
     refine bodyPost_ret (v := .tuple #[opVal zeroO, .bool false]) (by simp [results, Tryz.results156, go_sem, r0, r1, r2, opVal_eq, zeroO]) rfl ⟨rfl, hEF⟩
    have s1 := lit_ne h1
    have s2 := lit_ne h2
    obtain rfl : r = none := hr.symm.trans (oprK_len hl1 hl2)
    (try clear hl1)
    (try clear hl2)
    clear hr hk
    go_enter Tryz.func156, Tryz.ntmps156
    go_upto_region 1 with fail
    refine wp_abs (fun V => Hid (Blk V (w.heap.size + 1) 70 #[.int .i64 0, .int .i64 0, .string ⟨#[]⟩]) ∧ Hid (Blk V w.heap.size 32 #[.int .i64 k, .int .i64 n, .string s, .slice A l.length c]) ∧ Hid (Ext w V)) ⟨blk2b, (Blk.new w _ _).alloc _, ((Ext.refl w).alloc _).alloc _⟩ ?_
    rintro V ⟨HZ, HX, HE⟩
    have d2 := HE.out.cell d2
    have x0 : V.cell? ⟨w.heap.size, 0, none⟩ = some (.int .i64 k) := HX.out.cell 0
    have x1 : V.cell? ⟨w.heap.size, 1, none⟩ = some (.int .i64 n) := HX.out.cell 1
    have x2 : V.cell? ⟨w.heap.size, 2, none⟩ = some (.string s) := HX.out.cell 2
    have x3 : V.cell? ⟨w.heap.size, 3, none⟩ = some (.slice A l.length c) := HX.out.cell 3
    have z0 : V.cell? ⟨w.heap.size + 1, 0, none⟩ = some (.int .i64 0) := HZ.out.cell 0
    have z1 : V.cell? ⟨w.heap.size + 1, 1, none⟩ = some (.int .i64 0) := HZ.out.cell 1
    have z2 : V.cell? ⟨w.heap.size + 1, 2, none⟩ = some (.string ⟨#[]⟩) := HZ.out.cell 2
    have g0 := HZ.out.frozen 0
    have g1 := HZ.out.frozen 1
    have g2 := HZ.out.frozen 2
    go_wp2_with fail
    have hbf := ((HZ.out.set_ 0 (.int .i64 0)).set_ 1 (.int .i64 0)).set_ 2 (.string ⟨#[]⟩)
    have hEF := ((HE.out.setCell (p := ⟨w.heap.size + 1, 0, none⟩) (by simp) (.int .i64 0)).setCell (p := ⟨w.heap.size + 1, 1, none⟩) (by simp) (.int .i64 0)).setCell (p := ⟨w.heap.size + 1, 2, none⟩) (by simp) (.string ⟨#[]⟩)
    generalize ((V.setCell ⟨w.heap.size + 1, 0, none⟩ (.int .i64 0)).setCell ⟨w.heap.size + 1, 1, none⟩ (.int .i64 0)).setCell ⟨w.heap.size + 1, 2, none⟩ (.string ⟨#[]⟩) = VF at hbf hEF ⊢
    have r0 : VF.cell? ⟨w.heap.size + 1, 0, none⟩ = some (.int .i64 0) := hbf.cell 0
    have r1 : VF.cell? ⟨w.heap.size + 1, 1, none⟩ = some (.int .i64 0) := hbf.cell 1
    have r2 : VF.cell? ⟨w.heap.size + 1, 2, none⟩ = some (.string ⟨#[]⟩) := hbf.cell 2
    refine bodyPost_ret (v := .tuple #[opVal zeroO, .bool false]) (by simp [results, Tryz.results156, go_sem, r0, r1, r2, opVal_eq, zeroO]) rfl ⟨rfl, hEF⟩
 ·have k2 : (k == 4) = false := by simpa using hk
  have kF : (k = 4) = False := eq_false hk
  obtain rfl : r = none := hr.symm.trans (oprK_k hk)
  (try clear hl1)
  (try clear hl2)
  clear hr hk
  go_enter Tryz.func156, Tryz.ntmps156
  go_upto_region 1 with fail
  refine wp_abs (fun V => Hid (Blk V (w.heap.size + 1) 70 #[.int .i64 0, .int .i64 0, .string ⟨#[]⟩]) ∧ Hid (Blk V w.heap.size 32 #[.int .i64 k, .int .i64 n, .string s, .slice A l.length c]) ∧ Hid (Ext w V)) ⟨blk2b, (Blk.new w _ _).alloc _, ((Ext.refl w).alloc _).alloc _⟩ ?_
  rintro V ⟨HZ, HX, HE⟩
  have d2 := HE.out.cell d2
  have x0 : V.cell? ⟨w.heap.size, 0, none⟩ = some (.int .i64 k) := HX.out.cell 0
  have x1 : V.cell? ⟨w.heap.size, 1, none⟩ = some (.int .i64 n) := HX.out.cell 1
  have x2 : V.cell? ⟨w.heap.size, 2, none⟩ = some (.string s) := HX.out.cell 2
  have x3 : V.cell? ⟨w.heap.size, 3, none⟩ = some (.slice A l.length c) := HX.out.cell 3
  have z0 : V.cell? ⟨w.heap.size + 1, 0, none⟩ = some (.int .i64 0) := HZ.out.cell 0
  have z1 : V.cell? ⟨w.heap.size + 1, 1, none⟩ = some (.int .i64 0) := HZ.out.cell 1
  have z2 : V.cell? ⟨w.heap.size + 1, 2, none⟩ = some (.string ⟨#[]⟩) := HZ.out.cell 2
  have g0 := HZ.out.frozen 0
  have g1 := HZ.out.frozen 1
  have g2 := HZ.out.frozen 2
  go_wp2_with fail
  have hbf := ((HZ.out.set_ 0 (.int .i64 0)).set_ 1 (.int .i64 0)).set_ 2 (.string ⟨#[]⟩)
  have hEF := ((HE.out.setCell (p := ⟨w.heap.size + 1, 0, none⟩) (by simp) (.int .i64 0)).setCell (p := ⟨w.heap.size + 1, 1, none⟩) (by simp) (.int .i64 0)).setCell (p := ⟨w.heap.size + 1, 2, none⟩) (by simp) (.string ⟨#[]⟩)
  generalize ((V.setCell ⟨w.heap.size + 1, 0, none⟩ (.int .i64 0)).setCell ⟨w.heap.size + 1, 1, none⟩ (.int .i64 0)).setCell ⟨w.heap.size + 1, 2, none⟩ (.string ⟨#[]⟩) = VF at hbf hEF ⊢
  have r0 : VF.cell? ⟨w.heap.size + 1, 0, none⟩ = some (.int .i64 0) := hbf.cell 0
  have r1 : VF.cell? ⟨w.heap.size + 1, 1, none⟩ = some (.int .i64 0) := hbf.cell 1
  have r2 : VF.cell? ⟨w.heap.size + 1, 2, none⟩ = some (.string ⟨#[]⟩) := hbf.cell 2
  refine bodyPost_ret (v := .tuple #[opVal zeroO, .bool false]) (by simp [results, Tryz.results156, go_sem, r0, r1, r2, opVal_eq, zeroO]) rfl ⟨rfl, hEF⟩
end Go.Proofs.YtgcdhffeacdegaaGreatDoor
