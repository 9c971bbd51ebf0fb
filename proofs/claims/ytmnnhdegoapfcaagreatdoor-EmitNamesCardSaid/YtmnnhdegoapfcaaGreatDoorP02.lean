/- Layer 16: the walks of number, May. -/
import Derived.Test.YtmnnhdegoapfcaaGreatDoorP01
import Derived.Deep.CutRange
import Derived.Lib.IndexAny
import Derived.Lib.Strings
import Derived.Lib.ItoaNum
import Derived.RowKit
import Derived.Lib.Join
import Derived.Lib.IndexMore
import Derived.Lib.LastIndexByte
import Derived.Lib.AtoiAll
namespace Go.El
theorem nameF_in {o : Int} (h : nameF o ≠ []) : 0 ≤ o ∧ o < 31 := by
 unfold nameF at h
 split at h
 ·exact absurd rfl h
 ·omega
end Go.El
namespace Go.Proofs.YtmnnhdegoapfcaaGreatDoor
open Go.RowKit Go.El
theorem quiet_leftI {P : Program} {f : FuncId} {args : Array Value} {w : World} {n : Nat} {v : Value} (h : Calls P f args (w.drewN n) fun e w' => e = .returned v ∧ w.drewN n = w') : Calls P f args (w.drewN n) fun e w'' => e = .returned v ∧ ∃ m, w'' = w.drewN m :=
 h.mono fun _ _ ⟨he, hw⟩ => ⟨he, n, hw.symm⟩
theorem ext_boxI (w : World) (o : Obj) : Ext w (w.alloc o) := (Ext.refl w).alloc o
set_option maxRecDepth 100000 in
set_option maxHeartbeats 2000000 in
theorem number_any (i : Ins) (h0 : 0 ≤ i.op) (h3 : i.op < 31) (w : World) (h : OpTabAt w) :
  Calls Tryz.prog 94 #[insVal i] w fun e w' => e = .returned (.bool (numberF i)) ∧ Ext w w' := by
 have hx := ext_boxI w (.cells #[.int .i64 i.op, .string i.s, .int .i64 i.n, .int .i64 i.v, .int .i64 i.a] 25)
 have HB := Lib.hid (Blk.new w 25 #[.int .i64 i.op, .string i.s, .int .i64 i.n, .int .i64 i.v, .int .i64 i.a])
 have H32 := fun (W : World) (x : OpTabAt W) => Lib.hid (has_any i.op h0 h3 32 32 (by decide) W x)
 have H64 := fun (W : World) (x : OpTabAt W) => Lib.hid (has_any i.op h0 h3 64 64 (by decide) W x)
 have H128 := fun (W : World) (x : OpTabAt W) => Lib.hid (has_any i.op h0 h3 128 128 (by decide) W x)
 have H16 := fun (W : World) (x : OpTabAt W) => Lib.hid (has_any i.op h0 h3 16 16 (by decide) W x)
 have HO := Lib.hid (h.ext hx)
 have hnum : numberF i = if hasF i.op 32 then withinF true i.n 1 16 else if hasF i.op 64 then withinF true i.n 0 16 else if hasF i.op 128 then withinF true i.n 0 64 else withinF (hasF i.op 16) i.n (-9007199254740991) 9007199254740991 := rfl
 rw [hnum]
 unfold insVal
 have c0 := HB.out.cell 0
 have c1 := HB.out.cell 1
 have c2 := HB.out.cell 2
 have c3 := HB.out.cell 3
 have c4 := HB.out.cell 4
 clear hnum h HB h0 h3
 generalize hasF i.op 32 = b32 at *
 generalize hasF i.op 64 = b64 at *
 generalize hasF i.op 128 = b128 at *
 generalize hasF i.op 16 = b16 at *
 cases b32
 ·cases b64
  ·cases b128
   ·simp only [Bool.false_eq_true, if_false]
    go_enter Tryz.func94, Tryz.ntmps94
    go_upto_region 7 with (first | (go_at_call 59; with_reducible refine (H32 _ HO.out).out.mono ?_; rintro e W1 ⟨rfl, rfl⟩) | (go_at_call 59; with_reducible refine (H64 _ HO.out).out.mono ?_; rintro e W1 ⟨rfl, rfl⟩) | (go_at_call 59; with_reducible refine (H128 _ HO.out).out.mono ?_; rintro e W1 ⟨rfl, rfl⟩) | (go_at_call 59; with_reducible refine (H16 _ HO.out).out.mono ?_; rintro e W1 ⟨rfl, rfl⟩))
    go_quiet ((first | (go_at_call 59; exact quiet_leftI (H16 _ (HO.out.ext ((Ext.refl _).drewN _))).out) | (go_at_call 93; exact quiet_leftI (within_any _ _ _ _ _))))
    go_wp2_with fail
    go_ret
    exact ⟨rfl, hx.drewN _⟩
   ·skip
    simp only [Bool.false_eq_true, if_false, if_true]
    go_enter Tryz.func94, Tryz.ntmps94
    go_wp2_with (first | (go_at_call 59; with_reducible refine (H32 _ HO.out).out.mono ?_; rintro e W1 ⟨rfl, rfl⟩) | (go_at_call 59; with_reducible refine (H64 _ HO.out).out.mono ?_; rintro e W1 ⟨rfl, rfl⟩) | (go_at_call 59; with_reducible refine (H128 _ HO.out).out.mono ?_; rintro e W1 ⟨rfl, rfl⟩) | (go_at_call 59; with_reducible refine (H16 _ HO.out).out.mono ?_; rintro e W1 ⟨rfl, rfl⟩) | (go_at_call 93; refine (within_any _ _ _ _ _).mono ?_; rintro e W2 ⟨rfl, rfl⟩))
    go_ret
    exact ⟨rfl, hx⟩
  ·skip
   simp only [Bool.false_eq_true, if_false, if_true]
   go_enter Tryz.func94, Tryz.ntmps94
   go_wp2_with (first | (go_at_call 59; with_reducible refine (H32 _ HO.out).out.mono ?_; rintro e W1 ⟨rfl, rfl⟩) | (go_at_call 59; with_reducible refine (H64 _ HO.out).out.mono ?_; rintro e W1 ⟨rfl, rfl⟩) | (go_at_call 59; with_reducible refine (H128 _ HO.out).out.mono ?_; rintro e W1 ⟨rfl, rfl⟩) | (go_at_call 59; with_reducible refine (H16 _ HO.out).out.mono ?_; rintro e W1 ⟨rfl, rfl⟩) | (go_at_call 93; refine (within_any _ _ _ _ _).mono ?_; rintro e W2 ⟨rfl, rfl⟩))
   go_ret
   exact ⟨rfl, hx⟩
 ·skip
  simp only [if_true]
  go_enter Tryz.func94, Tryz.ntmps94
  go_wp2_with (first | (go_at_call 59; with_reducible refine (H32 _ HO.out).out.mono ?_; rintro e W1 ⟨rfl, rfl⟩) | (go_at_call 59; with_reducible refine (H64 _ HO.out).out.mono ?_; rintro e W1 ⟨rfl, rfl⟩) | (go_at_call 59; with_reducible refine (H128 _ HO.out).out.mono ?_; rintro e W1 ⟨rfl, rfl⟩) | (go_at_call 59; with_reducible refine (H16 _ HO.out).out.mono ?_; rintro e W1 ⟨rfl, rfl⟩) | (go_at_call 93; refine (within_any _ _ _ _ _).mono ?_; rintro e W2 ⟨rfl, rfl⟩))
  go_ret
  exact ⟨rfl, hx⟩
end Go.Proofs.YtmnnhdegoapfcaaGreatDoor

/- Layer 16: the walk of May. -/
namespace Go.Proofs.YtmnnhdegoapfcaaGreatDoor
open Go.RowKit Go.El
set_option maxRecDepth 100000 in
set_option maxHeartbeats 4000000 in
theorem may_ins (i : Ins) (w : World) (h : OpTabAt w) :
  Calls Tryz.prog 53 #[insVal i] w fun e w' => e = .returned (.bool (insMay i)) ∧ Ext w w' := by
 have hx := ext_boxI w (.cells #[.int .i64 i.op, .string i.s, .int .i64 i.n, .int .i64 i.v, .int .i64 i.a] 25)
 have HB := Lib.hid (Blk.new w 25 #[.int .i64 i.op, .string i.s, .int .i64 i.n, .int .i64 i.v, .int .i64 i.a])
 have HO := Lib.hid (h.ext hx)
 have HN := fun (W : World) (x : OpTabAt W) => Lib.hid (name_any i.op W x)
 have c0 := HB.out.cell 0
 have c1 := HB.out.cell 1
 have c2 := HB.out.cell 2
 have c3 := HB.out.cell 3
 have c4 := HB.out.cell 4
 by_cases hn : nameF i.op = []
 ·rw [show insMay i = false from if_pos (.inl hn)]
  rw [hn] at HN
  unfold insVal
  clear hn h
  have q0 : (ByteArray.toList ⟨([] : List UInt8).toArray⟩ == []) = true := by decide +kernel
  go_enter Tryz.func53, Tryz.ntmps53
  go_wp2_with (go_at_call 55; refine (HN _ HO.out).out.mono ?_; rintro e W1 ⟨rfl, rfl⟩)
  go_ret
  exact ⟨rfl, hx⟩
 ·obtain ⟨h0, h3⟩ := nameF_in hn
  have q1 : ¬ nameF i.op = [] := hn
  have q2 : (nameF i.op).isEmpty = false := by simpa using hn
  by_cases hs : 64 < i.s.size
  ·rw [show insMay i = false from if_pos (.inr hs)]
   have q3 : (64 : Int) < (i.s.size : Int) := by omega
   unfold insVal
   clear hn h
   generalize nameF i.op = nm at *
   go_enter Tryz.func53, Tryz.ntmps53
   go_wp2_with (go_at_call 55; refine (HN _ HO.out).out.mono ?_; rintro e W1 ⟨rfl, rfl⟩)
   go_ret
   exact ⟨rfl, hx⟩
  ·rw [show insMay i = (withinF (hasF i.op 1) i.v (-64) 255 && (decide (i.v ≠ 0) || !hasF i.op 1) && (if hasF i.op 4 then withinF true i.a 0 64 else withinF (hasF i.op 2) i.a 1 255) && numberF i && (decide (i.s.size = 0) || hasF i.op 104)) from if_neg (by simp [hn, hs])]
   have H1 := fun (W : World) (x : OpTabAt W) => Lib.hid (has_any i.op h0 h3 1 1 (by decide) W x)
   have H2 := fun (W : World) (x : OpTabAt W) => Lib.hid (has_any i.op h0 h3 2 2 (by decide) W x)
   have H4 := fun (W : World) (x : OpTabAt W) => Lib.hid (has_any i.op h0 h3 4 4 (by decide) W x)
   have H104 := fun (W : World) (x : OpTabAt W) => Lib.hid (has_any i.op h0 h3 104 104 (by decide) W x)
   have HNU := fun (W : World) (x : OpTabAt W) => Lib.hid (number_any i h0 h3 W x)
   have HW1 := fun (W : World) => Lib.hid (within_any (hasF i.op 1) i.v (-64) 255 W)
   have HW2 := fun (W : World) => Lib.hid (within_any (hasF i.op 2) i.a 1 255 W)
   have HW4 := fun (W : World) => Lib.hid (within_any true i.a 0 64 W)
   unfold insVal at HNU ⊢
   clear hn h h0 h3
   generalize nameF i.op = nm at *
   generalize withinF (hasF i.op 1) i.v (-64) 255 = bw at *
   generalize withinF (hasF i.op 2) i.a 1 255 = ba at *
   generalize withinF true i.a 0 64 = bl at *
   generalize hasF i.op 1 = hr at *
   generalize hasF i.op 2 = h2 at *
   generalize hasF i.op 4 = h4 at *
   generalize hasF i.op 104 = h104 at *
   generalize numberF i = bn at *
   have q3 : ¬ (64 : Int) < (i.s.size : Int) := by omega
   generalize hR : (bw && (decide (i.v ≠ 0) || !hr) && (if h4 then bl else ba) && bn && (decide (i.s.size = 0) || h104)) = R
   have HR := Lib.hid hR
   clear hR
   go_enter Tryz.func53, Tryz.ntmps53
   go_upto_region 3 with (go_at_call 55; refine (HN _ HO.out).out.mono ?_; rintro e W1 ⟨rfl, rfl⟩)
   clear q1 q2 q3 HN
   refine wp_abs (fun V => Hid (Blk V w.heap.size 25 #[.int .i64 i.op, .string i.s, .int .i64 i.n, .int .i64 i.v, .int .i64 i.a]) ∧ Hid (OpTabAt V) ∧ Hid (Ext w V)) ⟨HB, HO, Lib.hid hx⟩ ?_
   clear c0 c1 c2 c3 c4 HB HO hx
   rintro V ⟨HB, HO, HX⟩
   have c0 := HB.out.cell 0
   have c1 := HB.out.cell 1
   have c2 := HB.out.cell 2
   have c3 := HB.out.cell 3
   have c4 := HB.out.cell 4
   go_cut [3] (fun z wx => z = .bool (bw && (decide (i.v ≠ 0) || !hr)) ∧ Hid (Ext V wx))
   case first =>
    cases bw
    ·go_quiet ((first | (go_at_call 59; exact quiet_leftI (H1 _ (HO.out.ext ((Ext.refl _).drewN _))).out) | (go_at_call 93; exact quiet_leftI (HW1 _).out)))
     go_wp2_with fail
     go_meet
     exact ⟨by simp, Lib.hid ((Ext.refl V).drewN _)⟩
    ·by_cases hv : i.v = 0
     ·have p1 : (i.v != 0) = false := by simpa using hv
      have HQ : Hid (decide (i.v ≠ 0) = false) := decide_eq_false (by simpa using hv)
      clear hv
      go_quiet ((first | (go_at_call 59; exact quiet_leftI (H1 _ (HO.out.ext ((Ext.refl _).drewN _))).out) | (go_at_call 93; exact quiet_leftI (HW1 _).out)))
      go_wp2_with fail
      go_meet
      exact ⟨by rw [HQ.out]; simp, Lib.hid ((Ext.refl V).drewN _)⟩
     ·have p1 : (i.v != 0) = true := by simpa using hv
      have HQ : Hid (decide (i.v ≠ 0) = true) := decide_eq_true (by simpa using hv)
      clear hv
      go_quiet ((first | (go_at_call 59; exact quiet_leftI (H1 _ (HO.out.ext ((Ext.refl _).drewN _))).out) | (go_at_call 93; exact quiet_leftI (HW1 _).out)))
      go_wp2_with fail
      go_meet
      exact ⟨by rw [HQ.out]; simp, Lib.hid ((Ext.refl V).drewN _)⟩
   case rest =>
    obtain ⟨rfl, HZ⟩ := hcut
    clear c0 c1 c2 c3 c4
    obtain ⟨w1, rfl⟩ : ∃ w1 : World, w1 = wc := ⟨_, rfl⟩
    generalize (bw && (decide (i.v ≠ 0) || !hr)) = z3 at *
    have d0 := (HB.out.ext HZ.out).cell 0
    have d4 := (HB.out.ext HZ.out).cell 4
    have HO2 := Lib.hid (HO.out.ext HZ.out)
    go_upto_region 4 with fail
    go_cut [4] (fun z wx => z = .bool ba ∧ Hid (Ext w1 wx))
    case first =>
     go_quiet ((first | (go_at_call 59; exact quiet_leftI (H2 _ (HO2.out.ext ((Ext.refl _).drewN _))).out) | (go_at_call 93; exact quiet_leftI (HW2 _).out)))
     go_wp2_with fail
     go_meet
     exact ⟨rfl, Lib.hid ((Ext.refl w1).drewN _)⟩
    case rest =>
     obtain ⟨rfl, HZ2⟩ := hcut
     clear d0 d4
     obtain ⟨w2, rfl⟩ : ∃ w2 : World, w2 = wc := ⟨_, rfl⟩
     have X3 := Lib.hid (HZ.out.trans HZ2.out)
     have HO3 := Lib.hid (HO.out.ext X3.out)
     have k0 : w2.cell? ⟨w.heap.size, 0, none⟩ = some (.int .i64 i.op) := (HB.out.ext X3.out).cell 0
     have k1 : w2.cell? ⟨w.heap.size, 1, none⟩ = some (.string i.s) := (HB.out.ext X3.out).cell 1
     have k2 : w2.cell? ⟨w.heap.size, 2, none⟩ = some (.int .i64 i.n) := (HB.out.ext X3.out).cell 2
     have k3 : w2.cell? ⟨w.heap.size, 3, none⟩ = some (.int .i64 i.v) := (HB.out.ext X3.out).cell 3
     have k4 : w2.cell? ⟨w.heap.size, 4, none⟩ = some (.int .i64 i.a) := (HB.out.ext X3.out).cell 4
     clear H1 H2 HW1 HW2
     cases h4
     ·simp only [Bool.false_eq_true, if_false] at HR
      cases z3
      ·go_wp2_with (first | (go_at_call 59; with_reducible refine (H4 _ HO3.out).out.mono ?_; rintro e W1 ⟨rfl, rfl⟩) | (go_at_call 93; refine (HW4 _).out.mono ?_; rintro e W1 ⟨rfl, rfl⟩) | (go_at_call 94; refine (HNU _ HO3.out).out.mono ?_; rintro e W5 ⟨rfl, hx5⟩; have X5 := Lib.hid (X3.out.trans hx5); have HO5 := Lib.hid (HO3.out.ext hx5); have f0 := hx5.cell k0; have f1 := hx5.cell k1; clear hx5) | (go_at_call 59; with_reducible refine (H104 _ HO5.out).out.mono ?_; rintro e W1 ⟨rfl, rfl⟩))
       go_ret
       exact ⟨by rw [← HR.out]; simp, HX.out.trans X3.out⟩
      ·cases ba
       ·go_wp2_with (first | (go_at_call 59; with_reducible refine (H4 _ HO3.out).out.mono ?_; rintro e W1 ⟨rfl, rfl⟩) | (go_at_call 93; refine (HW4 _).out.mono ?_; rintro e W1 ⟨rfl, rfl⟩) | (go_at_call 94; refine (HNU _ HO3.out).out.mono ?_; rintro e W5 ⟨rfl, hx5⟩; have X5 := Lib.hid (X3.out.trans hx5); have HO5 := Lib.hid (HO3.out.ext hx5); have f0 := hx5.cell k0; have f1 := hx5.cell k1; clear hx5) | (go_at_call 59; with_reducible refine (H104 _ HO5.out).out.mono ?_; rintro e W1 ⟨rfl, rfl⟩))
        go_ret
        exact ⟨by rw [← HR.out]; simp, HX.out.trans X3.out⟩
       ·cases bn
        ·go_wp2_with (first | (go_at_call 59; with_reducible refine (H4 _ HO3.out).out.mono ?_; rintro e W1 ⟨rfl, rfl⟩) | (go_at_call 93; refine (HW4 _).out.mono ?_; rintro e W1 ⟨rfl, rfl⟩) | (go_at_call 94; refine (HNU _ HO3.out).out.mono ?_; rintro e W5 ⟨rfl, hx5⟩; have X5 := Lib.hid (X3.out.trans hx5); have HO5 := Lib.hid (HO3.out.ext hx5); have f0 := hx5.cell k0; have f1 := hx5.cell k1; clear hx5) | (go_at_call 59; with_reducible refine (H104 _ HO5.out).out.mono ?_; rintro e W1 ⟨rfl, rfl⟩))
         go_ret
         exact ⟨by rw [← HR.out]; simp, HX.out.trans X5.out⟩
        ·by_cases hz : i.s.size = 0
         ·have g1 : i.s = ByteArray.empty := ByteArray.size_eq_zero_iff.1 hz
          have g2 : (i.s.toList == []) = true := by rw [g1]; decide +kernel
          have HQ : Hid (decide (i.s.size = 0) = true) := decide_eq_true hz
          clear g1 hz
          go_wp2_with (first | (go_at_call 59; with_reducible refine (H4 _ HO3.out).out.mono ?_; rintro e W1 ⟨rfl, rfl⟩) | (go_at_call 93; refine (HW4 _).out.mono ?_; rintro e W1 ⟨rfl, rfl⟩) | (go_at_call 94; refine (HNU _ HO3.out).out.mono ?_; rintro e W5 ⟨rfl, hx5⟩; have X5 := Lib.hid (X3.out.trans hx5); have HO5 := Lib.hid (HO3.out.ext hx5); have f0 := hx5.cell k0; have f1 := hx5.cell k1; clear hx5) | (go_at_call 59; with_reducible refine (H104 _ HO5.out).out.mono ?_; rintro e W1 ⟨rfl, rfl⟩))
          go_ret
          exact ⟨by rw [← HR.out, HQ.out]; simp, HX.out.trans X5.out⟩
         ·have g2 : (i.s.toList == []) = false := by
           have hz2 : ¬ i.s.data = #[] := fun e => hz (by rw [ByteArray.size, e]; rfl)
           rw [ByteArray.toList_eq]
           simpa using hz2
          have HQ : Hid (decide (i.s.size = 0) = false) := decide_eq_false hz
          clear hz
          go_wp2_with (first | (go_at_call 59; with_reducible refine (H4 _ HO3.out).out.mono ?_; rintro e W1 ⟨rfl, rfl⟩) | (go_at_call 93; refine (HW4 _).out.mono ?_; rintro e W1 ⟨rfl, rfl⟩) | (go_at_call 94; refine (HNU _ HO3.out).out.mono ?_; rintro e W5 ⟨rfl, hx5⟩; have X5 := Lib.hid (X3.out.trans hx5); have HO5 := Lib.hid (HO3.out.ext hx5); have f0 := hx5.cell k0; have f1 := hx5.cell k1; clear hx5) | (go_at_call 59; with_reducible refine (H104 _ HO5.out).out.mono ?_; rintro e W1 ⟨rfl, rfl⟩))
          go_ret
          exact ⟨by rw [← HR.out, HQ.out]; simp, HX.out.trans X5.out⟩
     ·simp only [if_true] at HR
      cases z3
      ·go_wp2_with (first | (go_at_call 59; with_reducible refine (H4 _ HO3.out).out.mono ?_; rintro e W1 ⟨rfl, rfl⟩) | (go_at_call 93; refine (HW4 _).out.mono ?_; rintro e W1 ⟨rfl, rfl⟩) | (go_at_call 94; refine (HNU _ HO3.out).out.mono ?_; rintro e W5 ⟨rfl, hx5⟩; have X5 := Lib.hid (X3.out.trans hx5); have HO5 := Lib.hid (HO3.out.ext hx5); have f0 := hx5.cell k0; have f1 := hx5.cell k1; clear hx5) | (go_at_call 59; with_reducible refine (H104 _ HO5.out).out.mono ?_; rintro e W1 ⟨rfl, rfl⟩))
       go_ret
       exact ⟨by rw [← HR.out]; simp, HX.out.trans X3.out⟩
      ·cases bl
       ·go_wp2_with (first | (go_at_call 59; with_reducible refine (H4 _ HO3.out).out.mono ?_; rintro e W1 ⟨rfl, rfl⟩) | (go_at_call 93; refine (HW4 _).out.mono ?_; rintro e W1 ⟨rfl, rfl⟩) | (go_at_call 94; refine (HNU _ HO3.out).out.mono ?_; rintro e W5 ⟨rfl, hx5⟩; have X5 := Lib.hid (X3.out.trans hx5); have HO5 := Lib.hid (HO3.out.ext hx5); have f0 := hx5.cell k0; have f1 := hx5.cell k1; clear hx5) | (go_at_call 59; with_reducible refine (H104 _ HO5.out).out.mono ?_; rintro e W1 ⟨rfl, rfl⟩))
        go_ret
        exact ⟨by rw [← HR.out]; simp, HX.out.trans X3.out⟩
       ·cases bn
        ·go_wp2_with (first | (go_at_call 59; with_reducible refine (H4 _ HO3.out).out.mono ?_; rintro e W1 ⟨rfl, rfl⟩) | (go_at_call 93; refine (HW4 _).out.mono ?_; rintro e W1 ⟨rfl, rfl⟩) | (go_at_call 94; refine (HNU _ HO3.out).out.mono ?_; rintro e W5 ⟨rfl, hx5⟩; have X5 := Lib.hid (X3.out.trans hx5); have HO5 := Lib.hid (HO3.out.ext hx5); have f0 := hx5.cell k0; have f1 := hx5.cell k1; clear hx5) | (go_at_call 59; with_reducible refine (H104 _ HO5.out).out.mono ?_; rintro e W1 ⟨rfl, rfl⟩))
         go_ret
         exact ⟨by rw [← HR.out]; simp, HX.out.trans X5.out⟩
        ·by_cases hz : i.s.size = 0
         ·have g1 : i.s = ByteArray.empty := ByteArray.size_eq_zero_iff.1 hz
          have g2 : (i.s.toList == []) = true := by rw [g1]; decide +kernel
          have HQ : Hid (decide (i.s.size = 0) = true) := decide_eq_true hz
          clear g1 hz
          go_wp2_with (first | (go_at_call 59; with_reducible refine (H4 _ HO3.out).out.mono ?_; rintro e W1 ⟨rfl, rfl⟩) | (go_at_call 93; refine (HW4 _).out.mono ?_; rintro e W1 ⟨rfl, rfl⟩) | (go_at_call 94; refine (HNU _ HO3.out).out.mono ?_; rintro e W5 ⟨rfl, hx5⟩; have X5 := Lib.hid (X3.out.trans hx5); have HO5 := Lib.hid (HO3.out.ext hx5); have f0 := hx5.cell k0; have f1 := hx5.cell k1; clear hx5) | (go_at_call 59; with_reducible refine (H104 _ HO5.out).out.mono ?_; rintro e W1 ⟨rfl, rfl⟩))
          go_ret
          exact ⟨by rw [← HR.out, HQ.out]; simp, HX.out.trans X5.out⟩
         ·have g2 : (i.s.toList == []) = false := by
           have hz2 : ¬ i.s.data = #[] := fun e => hz (by rw [ByteArray.size, e]; rfl)
           rw [ByteArray.toList_eq]
           simpa using hz2
          have HQ : Hid (decide (i.s.size = 0) = false) := decide_eq_false hz
          clear hz
          go_wp2_with (first | (go_at_call 59; with_reducible refine (H4 _ HO3.out).out.mono ?_; rintro e W1 ⟨rfl, rfl⟩) | (go_at_call 93; refine (HW4 _).out.mono ?_; rintro e W1 ⟨rfl, rfl⟩) | (go_at_call 94; refine (HNU _ HO3.out).out.mono ?_; rintro e W5 ⟨rfl, hx5⟩; have X5 := Lib.hid (X3.out.trans hx5); have HO5 := Lib.hid (HO3.out.ext hx5); have f0 := hx5.cell k0; have f1 := hx5.cell k1; clear hx5) | (go_at_call 59; with_reducible refine (H104 _ HO5.out).out.mono ?_; rintro e W1 ⟨rfl, rfl⟩))
          go_ret
          exact ⟨by rw [← HR.out, HQ.out]; simp, HX.out.trans X5.out⟩
end Go.Proofs.YtmnnhdegoapfcaaGreatDoor

/- Layer 8 (token): which names may stand as they are, as a plain function on bytes. No program in sight. -/
namespace Go.El
def isSmall (c : UInt8) : Bool := 97 ≤ c && c ≤ 122
def isWord (c : UInt8) : Bool := isSmall c || (65 ≤ c && c ≤ 90) || (48 ≤ c && c ≤ 57) || c == 95
def signL : List UInt8 := [43, 45, 42, 47, 92, 94, 60, 62, 61, 126, 58, 46, 63, 64, 35, 38, 36]
def smallL : List UInt8 := [97, 98, 99, 100, 101, 102, 103, 104, 105, 106, 107, 108, 109, 110, 111, 112, 113, 114, 115, 116, 117, 118, 119, 120, 121, 122]
def wordL : List UInt8 := [97, 98, 99, 100, 101, 102, 103, 104, 105, 106, 107, 108, 109, 110, 111, 112, 113, 114, 115, 116, 117, 118, 119, 120, 121, 122, 65, 66, 67, 68, 69, 70, 71, 72, 73, 74, 75, 76, 77, 78, 79, 80, 81, 82, 83, 84, 85, 86, 87, 88, 89, 90, 48, 49, 50, 51, 52, 53, 54, 55, 56, 57, 95]
def isSign (c : UInt8) : Bool := signL.contains c
theorem all_bytes {p : UInt8 → Prop} [DecidablePred p] (h : ∀ n : Fin 256, p (UInt8.ofNat n.val)) (c : UInt8) : p c := by
 have := h ⟨c.toNat, c.toNat_lt⟩
 simpa using this
theorem smallL_eq (c : UInt8) : smallL.contains c = isSmall c :=
 all_bytes (p := fun c => smallL.contains c = isSmall c) (by decide +kernel) c
theorem wordL_eq (c : UInt8) : wordL.contains c = isWord c :=
 all_bytes (p := fun c => wordL.contains c = isWord c) (by decide +kernel) c
theorem wordL_lt (c : UInt8) : wordL.contains c = true → c.toNat < 128 :=
 all_bytes (p := fun c => wordL.contains c = true → c.toNat < 128) (by decide +kernel) c
theorem signL_lt (c : UInt8) : signL.contains c = true → c.toNat < 128 :=
 all_bytes (p := fun c => signL.contains c = true → c.toNat < 128) (by decide +kernel) c
def hasB (s : ByteArray) (c : UInt8) : Bool := s.data.toList.contains c
def allB (nm cs : ByteArray) : Bool := nm.data.toList.all (hasB cs)
def plainL (l : List UInt8) : Bool :=
 if l = [33] ∨ l = [59] ∨ l = [91, 93] ∨ l = [123, 125] then true
 else if l = [] ∨ l = [46] then false
 else if [47, 42].isPrefixOf l then false
 else (isSmall (l.headD 0) && l.all isWord) || l.all isSign
def plainB (s : ByteArray) : Bool := plainL s.data.toList
abbrev smallS : ByteArray := ⟨#[97, 98, 99, 100, 101, 102, 103, 104, 105, 106, 107, 108, 109, 110, 111, 112, 113, 114, 115, 116, 117, 118, 119, 120, 121, 122]⟩
abbrev wordS : ByteArray := ⟨#[97, 98, 99, 100, 101, 102, 103, 104, 105, 106, 107, 108, 109, 110, 111, 112, 113, 114, 115, 116, 117, 118, 119, 120, 121, 122, 65, 66, 67, 68, 69, 70, 71, 72, 73, 74, 75, 76, 77, 78, 79, 80, 81, 82, 83, 84, 85, 86, 87, 88, 89, 90, 48, 49, 50, 51, 52, 53, 54, 55, 56, 57, 95]⟩
abbrev signS : ByteArray := ⟨#[43, 45, 42, 47, 92, 94, 60, 62, 61, 126, 58, 46, 63, 64, 35, 38, 36]⟩
theorem hasB_small (c : UInt8) : hasB smallS c = isSmall c := smallL_eq c
theorem hasB_word (c : UInt8) : hasB wordS c = isWord c := wordL_eq c
theorem wordS_lt (c : UInt8) (h : hasB wordS c = true) : c.toNat < 128 := wordL_lt c h
theorem signS_lt (c : UInt8) (h : hasB signS c = true) : c.toNat < 128 := signL_lt c h
theorem lit_ne {s : ByteArray} {l : List UInt8} (h : s.data.toList ≠ l) : (s.toList == l) = false := by
 rw [ByteArray.toList_eq]; simpa using h
theorem mk_of {s : ByteArray} {l : List UInt8} (h : s.data.toList = l) : s = ⟨l.toArray⟩ := by
 subst h; exact (Lib.mk_data s).symm
def prefB (s p : ByteArray) : Bool := Lib.hasPrefix s.data.toList p.data.toList
theorem headD_eq (l : List UInt8) (h : 0 < l.length) : l.headD 0 = l[0] := by cases l <;> simp at h ⊢
theorem plain_else {s : ByteArray} (h1 : s.data.toList ≠ [33]) (h2 : s.data.toList ≠ [59]) (h3 : s.data.toList ≠ [91, 93]) (h4 : s.data.toList ≠ [123, 125]) (h5 : s.data.toList ≠ []) (h6 : s.data.toList ≠ [46]) :
  ∃ h : 0 < s.size, plainB s = if prefB s ⟨#[47, 42]⟩ then false else hasB smallS s[0] && allB s wordS || allB s signS := by
 have h0 : 0 < s.size := by
  rw [Lib.size_eq]
  rcases hl : s.data.toList with _ | ⟨a, l⟩
  ·exact absurd hl h5
  ·simp
 refine ⟨h0, ?_⟩
 have hh : s.data.toList.headD 0 = s[0] := by
  have e : s[0] = s.data.toList[0]'(by rw [← Lib.size_eq]; exact h0) := rfl
  rw [e]
  exact headD_eq _ _
 have ew : s.data.toList.all isWord = allB s wordS := by unfold allB; congr 1; funext c; exact (hasB_word c).symm
 have es : s.data.toList.all isSign = allB s signS := by unfold allB; congr 1
 unfold plainB plainL
 rw [if_neg (by simp [h1, h2, h3, h4]), if_neg (by simp [h5, h6]), hh, ew, es, hasB_small]
 rfl
end Go.El

/- Layer 8 (token): a name's text, scanned, is that name. No program in sight. -/
namespace Go.El
def sgnS (c : UInt8) : List UInt8 := if c = 10 then [92, 110] else if c = 9 then [92, 116] else if c = 39 ∨ c = 92 then [92, c] else [c]
def isCtl (c : UInt8) : Bool := (c < 32 && c != 10 && c != 9) || c == 127
def hexD (n : Nat) : UInt8 := if n < 10 then UInt8.ofNat (48 + n) else UInt8.ofNat (87 + n)
def hexL (c : UInt8) : List UInt8 := if c.toNat < 16 then [hexD c.toNat] else [hexD (c.toNat / 16), hexD (c.toNat % 16)]
def sgnF (c : UInt8) : List UInt8 := if isCtl c then [92, 120] ++ hexL c ++ [92] else sgnS c
def sgnW (l : List UInt8) : List UInt8 := l.flatMap sgnF
def quoF (l : List UInt8) : List UInt8 := if plainL l then l else [39] ++ sgnW l ++ [39]
end Go.El

/- Layer 16, plain: an instruction's text, and what a text is as an instruction. -/
namespace Go.El
def regT (v : Int) : List UInt8 := if v < 0 then 89 :: Lib.itoa (-v) else 88 :: Lib.itoa v
def fldT (i : Ins) (f : Nat) : List UInt8 :=
 if f = 1 then regT i.v else if f = 8 then quoF i.s.data.toList else if f = 16 ∨ f = 128 then Lib.itoa i.n else if f = 2 then 65 :: Lib.itoa i.a
 else if f = 4 then Lib.itoa i.a else quoF i.s.data.toList ++ [47] ++ Lib.itoa i.n
def ordF : List Nat := [1, 8, 16, 32, 64, 128, 2, 4]
def insTs (i : Ins) (k : Nat) : List (List UInt8) := nameF i.op :: ((ordF.take k).filter (hasF i.op)).map (fldT i)
def insT (i : Ins) : List UInt8 := if insMay i then Lib.join (insTs i 8) [32] else []
def opIdx (h : List UInt8) : Int := match opTab.findIdx? (fun p => p.1 == h) with
 | some k => k
 | none => -1
end Go.El
