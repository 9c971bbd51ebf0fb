/- Layer 16: the walk of InstrTexts. -/
import Derived.Test.YtlkpiigdmmhkpaaGreatDoorE04
import Derived.Test.YtlkpiigdmmhkpaaGreatDoorC39
namespace Go.Proofs.YtlkpiigdmmhkpaaGreatDoor
open Go.RowKit Go.El

set_option maxRecDepth 100000 in
theorem insEqv (i : Ins) (w : World) : (binOp .eql 23 (.agg #[.int .i64 i.op, .string i.s, .int .i64 i.n, .int .i64 i.v, .int .i64 i.a]) (.agg #[.int .i64 i.op, .string i.s, .int .i64 i.n, .int .i64 i.v, .int .i64 i.a])).run Tryz.prog w = .ok (.bool true) w := by
  go_simp

set_option maxRecDepth 100000 in
set_option maxHeartbeats 8000000 in
theorem instrTexts_any (i : Ins) (w : World) (he : Env w) (hs : i.s.size ≤ maxLen) :
    Calls Tryz.prog 3 #[insVal i] w fun e w' => e = .returned (.bool true) ∧ Ext w w' := by
  unfold maxLen at hs
  have hx := ext_boxI w (.cells #[.int .i64 i.op, .string i.s, .int .i64 i.n, .int .i64 i.v, .int .i64 i.a] 23)
  have HI := Lib.hid (show InsBlk (w.alloc (.cells #[.int .i64 i.op, .string i.s, .int .i64 i.n, .int .i64 i.v, .int .i64 i.a] 23)) w.heap.size i from Blk.new w _ _)
  have HX := Lib.hid hx
  have q0 := HI.out.c0
  have q1 := HI.out.c1
  have q2 := HI.out.c2
  have q3 := HI.out.c3
  have q4 := HI.out.c4
  have HV := fun W (x : Ext w W) => Lib.hid (lives_any W (he.ext x))
  have HT := fun W (x : Ext w W) => Lib.hid (text_any i W (he.ext x))
  have HRT := fun W => Lib.hid (rText_any i W)
  have HM := fun W (x : Ext w W) => Lib.hid (may_ins i W (he.ext x).ops)
  have HRM := fun W => Lib.hid (rMay_any i W)
  have HN := fun W (x : Ext w W) => Lib.hid (name_any i.op W (he.ext x).ops)
  have HRN := fun W => Lib.hid (rName_any i.op W)
  have hnm : (⟨(nameF i.op).toArray⟩ : ByteArray) = mkB (nameF i.op) := rfl
  rw [hnm] at HN
  unfold insVal at HT HRT HM HRM ⊢
  clear hx hnm
  by_cases hbig : 300 < i.s.size
  · have hb : (300 : Int) < (i.s.size : Int) := by omega
    clear HT HRT HM HRM HN HRN hbig
    go_enter Tryz.func3, Tryz.ntmps3
    go_wp2_with (go_at_call 6; refine (HV _ HX.out).out.mono ?_; rintro e W1 ⟨rfl, hx⟩)
    go_ret
    exact ⟨rfl, HX.out.trans hx⟩
  · have hb : ¬ (300 : Int) < (i.s.size : Int) := by omega
    have hst : ∀ x : List UInt8, ((mkB x).toList != (mkB x).toList) = false := fun x => by simp
    have hP : insMay i = true → ∀ W, Ext w W → Hid (Calls Tryz.prog 13 #[.string (mkB (insT i))] W fun e w' => e = .returned (.tuple #[.agg #[.int .i64 i.op, .string i.s, .int .i64 i.n, .int .i64 i.v, .int .i64 i.a], .int .i64 0]) ∧ Ext W w') := fun h W x => by
      have hl := text_len h
      have := parseI_any (mkB (insT i)) (by rw [mkB_size]; omega) W (he.ext x)
      rw [parse_text h] at this
      exact Lib.hid this
    have hE : insMay i = false → ((mkB (insT i)).toList == []) = true ∧ (mkB (insT i)).toList.isEmpty = true ∧ (mkB (insT i)).toList = [] := fun h => by
      have : insT i = [] := by unfold insT; rw [h]; rfl
      rw [this]
      decide +kernel
    have hst1 := hst (insT i)
    have hst2 := hst (nameF i.op)
    clear hst hbig
    generalize mkB (insT i) = tx at *
    generalize mkB (nameF i.op) = nm at *
    cases hm : insMay i
    · rw [hm] at HM HRM
      obtain ⟨e1, e2, e3⟩ := hE hm
      clear hP hE hm
      go_enter Tryz.func3, Tryz.ntmps3
      go_upto_region 4 with (go_at_call 7; refine (HT _ HX.out).out.mono ?_; rintro e W1 ⟨rfl, hx⟩)
      refine wp_abs (fun V => Hid (Ext w V) ∧ Hid (InsBlk V w.heap.size i)) ⟨Lib.hid (HX.out.trans hx), Lib.hid (HI.out.ext hx)⟩ ?_
      clear hx HX HI q0 q1 q2 q3 q4
      rintro V ⟨HX, HI⟩
      have q0 := HI.out.c0
      have q1 := HI.out.c1
      have q2 := HI.out.c2
      have q3 := HI.out.c3
      have q4 := HI.out.c4
      go_region_law ((first | (go_simp; go_at_call 6; refine (HV _ (HX.out.drew)).out.mono ?_; rintro e V1 ⟨rfl, hx⟩; have X1 := Lib.hid (HX.out.drew.trans hx); have a0 := (HI.out.ext ((Ext.refl _).drew.trans hx)).c0; have a1 := (HI.out.ext ((Ext.refl _).drew.trans hx)).c1; have a2 := (HI.out.ext ((Ext.refl _).drew.trans hx)).c2; have a3 := (HI.out.ext ((Ext.refl _).drew.trans hx)).c3; have a4 := (HI.out.ext ((Ext.refl _).drew.trans hx)).c4; clear hx) | (go_simp; go_at_call 8; refine (HM _ (X1.out)).out.mono ?_; rintro e V2 ⟨rfl, hx⟩; have X2 := Lib.hid (X1.out.trans hx); have b0 := hx.cell a0; have b1 := hx.cell a1; have b2 := hx.cell a2; have b3 := hx.cell a3; have b4 := hx.cell a4; clear hx) | (go_simp; go_at_call 9; refine (HRM _).out.mono ?_; rintro e V3 ⟨rfl, hx⟩; have X3 := Lib.hid (X2.out.trans hx); have c0 := hx.cell b0; have c1 := hx.cell b1; have c2 := hx.cell b2; have c3 := hx.cell b3; have c4 := hx.cell b4; clear hx) | (go_simp; go_at_call 10; refine (HRT _).out.mono ?_; rintro e V4 ⟨rfl, hx⟩; have X4 := Lib.hid (X3.out.trans hx); have d0 := hx.cell c0; have d1 := hx.cell c1; have d2 := hx.cell c2; have d3 := hx.cell c3; have d4 := hx.cell c4; clear hx) | (go_simp; go_at_call 11; refine (HN _ (X4.out)).out.mono ?_; rintro e V5 ⟨rfl, rfl⟩) | (go_simp; go_at_call 12; refine (HRN _).out.mono ?_; rintro e V6 ⟨rfl, hx⟩; have X6 := Lib.hid (X4.out.trans hx); have f0 := hx.cell d0; have f1 := hx.cell d1; have f2 := hx.cell d2; have f3 := hx.cell d3; have f4 := hx.cell d4; clear hx)))
      all_goals
        go_wp2_with (go_at_call 9; refine (HRM _).out.mono ?_; rintro e W8 ⟨rfl, hx⟩)
        go_ret
        exact ⟨rfl, X6.out.trans hx⟩
    · rw [hm] at HM HRM
      have HP := hP hm
      have heq := insEqv i
      clear hP hE hm
      go_enter Tryz.func3, Tryz.ntmps3
      go_upto_region 4 with (go_at_call 7; refine (HT _ HX.out).out.mono ?_; rintro e W1 ⟨rfl, hx⟩)
      refine wp_abs (fun V => Hid (Ext w V) ∧ Hid (InsBlk V w.heap.size i)) ⟨Lib.hid (HX.out.trans hx), Lib.hid (HI.out.ext hx)⟩ ?_
      clear hx HX HI q0 q1 q2 q3 q4
      rintro V ⟨HX, HI⟩
      have q0 := HI.out.c0
      have q1 := HI.out.c1
      have q2 := HI.out.c2
      have q3 := HI.out.c3
      have q4 := HI.out.c4
      go_region_law ((first | (go_simp; go_at_call 6; refine (HV _ (HX.out.drew)).out.mono ?_; rintro e V1 ⟨rfl, hx⟩; have X1 := Lib.hid (HX.out.drew.trans hx); have a0 := (HI.out.ext ((Ext.refl _).drew.trans hx)).c0; have a1 := (HI.out.ext ((Ext.refl _).drew.trans hx)).c1; have a2 := (HI.out.ext ((Ext.refl _).drew.trans hx)).c2; have a3 := (HI.out.ext ((Ext.refl _).drew.trans hx)).c3; have a4 := (HI.out.ext ((Ext.refl _).drew.trans hx)).c4; clear hx) | (go_simp; go_at_call 8; refine (HM _ (X1.out)).out.mono ?_; rintro e V2 ⟨rfl, hx⟩; have X2 := Lib.hid (X1.out.trans hx); have b0 := hx.cell a0; have b1 := hx.cell a1; have b2 := hx.cell a2; have b3 := hx.cell a3; have b4 := hx.cell a4; clear hx) | (go_simp; go_at_call 9; refine (HRM _).out.mono ?_; rintro e V3 ⟨rfl, hx⟩; have X3 := Lib.hid (X2.out.trans hx); have c0 := hx.cell b0; have c1 := hx.cell b1; have c2 := hx.cell b2; have c3 := hx.cell b3; have c4 := hx.cell b4; clear hx) | (go_simp; go_at_call 10; refine (HRT _).out.mono ?_; rintro e V4 ⟨rfl, hx⟩; have X4 := Lib.hid (X3.out.trans hx); have d0 := hx.cell c0; have d1 := hx.cell c1; have d2 := hx.cell c2; have d3 := hx.cell c3; have d4 := hx.cell c4; clear hx) | (go_simp; go_at_call 11; refine (HN _ (X4.out)).out.mono ?_; rintro e V5 ⟨rfl, rfl⟩) | (go_simp; go_at_call 12; refine (HRN _).out.mono ?_; rintro e V6 ⟨rfl, hx⟩; have X6 := Lib.hid (X4.out.trans hx); have f0 := hx.cell d0; have f1 := hx.cell d1; have f2 := hx.cell d2; have f3 := hx.cell d3; have f4 := hx.cell d4; clear hx)))
      all_goals
        go_wp2_with (first | (go_at_call 9; refine (HRM _).out.mono ?_; rintro e W8 ⟨rfl, hx⟩; have X8 := Lib.hid (X6.out.trans hx); have g0 := hx.cell f0; have g1 := hx.cell f1; have g2 := hx.cell f2; have g3 := hx.cell f3; have g4 := hx.cell f4; clear hx) | (go_at_call 13; refine (HP _ X8.out).out.mono ?_; rintro e W9 ⟨rfl, hx⟩; have X9 := Lib.hid (X8.out.trans hx); have l0 := hx.cell g0; have hz9 := cell_lt l0; have l1 := hx.cell g1; have l2 := hx.cell g2; have l3 := hx.cell g3; have l4 := hx.cell g4; clear hx))
        go_ret
        exact ⟨rfl, X9.out.alloc _⟩

end Go.Proofs.YtlkpiigdmmhkpaaGreatDoor
