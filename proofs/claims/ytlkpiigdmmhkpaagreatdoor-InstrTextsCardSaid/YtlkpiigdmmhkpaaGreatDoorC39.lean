/- Layer 16: the walk of Check. -/
import Derived.Test.YtlkpiigdmmhkpaaGreatDoorC17
import Derived.Test.YtlkpiigdmmhkpaaGreatDoorC03
import Derived.Outline
import Derived.Test.YtlkpiigdmmhkpaaGreatDoorC38
namespace Go.Proofs.YtlkpiigdmmhkpaaGreatDoor
open Go.RowKit Go.El

/-- What Check answers. -/
def ChkPost (l : List Ins) (arity : Int) (w : World) (e : Ending) (w' : World) : Prop := e = .returned (.tuple #[.int .i64 (chkIns l arity).1, .int .i64 (chkIns l arity).2]) ∧ Ext w w'
theorem chk_post {l : List Ins} {arity : Int} {w : World} {a b : Int} {w' : World} (h : chkIns l arity = (a, b)) (x : Ext w w') : ChkPost l arity w (.returned (.tuple #[.int .i64 a, .int .i64 b])) w' := by
  unfold ChkPost
  rw [h]
  exact ⟨rfl, x⟩

set_option maxRecDepth 100000 in
theorem check_arity (l : List Ins) (arity : Int) (c : Nat) (A : Option Addr) (w : World) (ha : arity < 0 ∨ 16 < arity) :
    Calls Tryz.prog 16 #[.slice A l.length c, .int .i64 arity] w (ChkPost l arity w) := by
  have HR := Lib.hid (chk_post (l := l) (arity := arity) (if_pos ha) (Ext.refl w))
  by_cases h0 : arity < 0
  · clear ha
    go_enter Tryz.func16, Tryz.ntmps16
    go_wp2_with fail
    go_ret2
    exact HR.out
  · have h1 : 16 < arity := by omega
    clear ha
    go_enter Tryz.func16, Tryz.ntmps16
    go_wp2_with fail
    go_ret2
    exact HR.out

set_option maxRecDepth 100000 in
theorem check_long (l : List Ins) (arity : Int) (c : Nat) (A : Option Addr) (w : World) (ha : ¬ (arity < 0 ∨ 16 < arity)) (hl : 4096 < l.length) :
    Calls Tryz.prog 16 #[.slice A l.length c, .int .i64 arity] w (ChkPost l arity w) := by
  have HR := Lib.hid (chk_post (l := l) (arity := arity) (a := 0) (b := 3) ((if_neg ha).trans (if_pos hl)) (Ext.refl w))
  have h0 : ¬ arity < 0 := by omega
  have h1 : ¬ 16 < arity := by omega
  have h2 : (4096 : Int) < l.length := by omega
  clear ha hl
  go_enter Tryz.func16, Tryz.ntmps16
  go_wp2_with fail
  go_ret2
  exact HR.out

set_option maxRecDepth 100000 in
set_option maxHeartbeats 4000000 in
theorem check_fit (l : List Ins) (arity : Nat) (c : Nat) (A : Option Addr) (w : World) (hT : OpTabAt w) (hS : El.Src w A l.length 5 (flat insCells l)) (ha : arity ≤ 16) (hl : l.length ≤ 4096) :
    Calls Tryz.prog 16 #[.slice A l.length c, .int .i64 arity] w (ChkPost l arity w) := by
  have e1 : (arity : Int) ≤ 16 := by omega
  have e2 : ¬ (16 : Int) < arity := by omega
  have e3 : ¬ (4096 : Int) < (l.length : Int) := by omega
  have HS := Lib.hid hS
  have HT := Lib.hid hT
  have HI : Hid (StAt (w.alloc (Obj.cells (Tryz.zeroCells66.setIfInBounds 321 (Value.int IntKind.i64 (-1))) 66)) w.heap.size 66 (InSt.start 0)) := by
    rw [start_cells]
    exact ⟨Blk.new w _ _, start_lx 0, start_ly 0⟩
  have HX : Hid (Ext w (w.alloc (Obj.cells (Tryz.zeroCells66.setIfInBounds 321 (Value.int IntKind.i64 (-1))) 66))) := Lib.hid ((Ext.refl w).alloc _)
  obtain ⟨B, hB⟩ : ∃ B, B = w.heap.size := ⟨_, rfl⟩
  rw [← hB] at HI
  clear hS hT
  go_enter Tryz.func16, Tryz.ntmps16
  go_upto_region 6 with fail
  rw [← hB]
  refine wp_abs (fun V => Hid (StAt V B 66 (InSt.start 0)) ∧ Hid (Ext w V)) ⟨HI, HX⟩ ?_
  have HB := Lib.hid hB
  clear HI HX hB
  rintro V ⟨HI, HX⟩
  go_wp2_with fail
  go_loopw [24] (fun i wr => ∃ k : Nat, k ≤ arity ∧ i = .int .i64 k ∧ Hid (StAt wr B 66 (InSt.start k)) ∧ Hid (Ext w wr)) (fun i _ => arity - (intOf i).toNat)
  case atStart => exact ⟨0, Nat.zero_le _, rfl, HI, HX⟩
  case round =>
    clear HI HX
    obtain ⟨k, hk, rfl, HI, HX⟩ := hrel
    by_cases hlt : k < arity
    · have d1 : (k : Int) < arity := by omega
      have d2 : (k : Int) + 1 < 256 := by omega
      have c1 := HI.out.x (j := k + 1) (by omega)
      have f1 := HI.out.frozen (k + 1)
      have HN := HI.out.setX (j := k + 1) (by omega) true
      rw [start_set k (by omega)] at HN
      have HN2 := Lib.hid HN
      have HY := Lib.hid (HX.out.setCell (p := ⟨B, k + 1, none⟩) (by show w.heap.size ≤ B; rw [HB.out]; exact Nat.le_refl _) (.bool true))
      clear HN
      go_wp2_with fail
      go_roundw
      case rel => exact ⟨k + 1, by omega, by go_num, HN2, HY⟩
      case measure => simp [intOf]; omega
    · obtain rfl : k = arity := by omega
      clear hk hlt
      go_wp2_with fail
      go_loopw [36] (fun i wr => ∃ (j : Nat) (st : InSt), j ≤ l.length ∧ i = .int .i64 j ∧ Hid ((InSt.start k).run (l.take j) = some st) ∧ Hid (StOk st) ∧ Hid (StAt wr B 66 st) ∧ Hid (Ext w wr)) (fun i _ => l.length - (intOf i).toNat)
      case atStart => exact ⟨0, _, Nat.zero_le _, rfl, Lib.hid rfl, Lib.hid (start_ok k), HI, HX⟩
      case round =>
        clear HI HX
        obtain ⟨j, st, hj, rfl, HRUN, HOK, HI, HX⟩ := hrel
        by_cases hlt : j < l.length
        · have d1 : (j : Int) < l.length := by omega
          obtain ⟨bl, off, rfl, c0, c1, c2, c3, c4⟩ := src_ins (HS.out.ext HX.out) hlt
          obtain ⟨x, hx⟩ : ∃ x, x = l[j] := ⟨_, rfl⟩
          rw [← hx] at c0 c1 c2 c3 c4
          obtain ⟨op, sn, n, v, a⟩ := x
          have HXJ := Lib.hid hx
          dsimp only at c0 c1 c2 c3 c4
          have d2 : (0 : Int) ≤ j := by omega
          clear hx hj
          go_upto_region 14 with fail
          refine wp_abs (fun V => Hid (StAt V B 66 st) ∧ Hid (Blk V wr.heap.size 23 #[.int .i64 op, .string sn, .int .i64 n, .int .i64 v, .int .i64 a]) ∧ Hid (Ext w V)) ⟨Lib.hid (HI.out.ext ((Ext.refl _).alloc _)), Lib.hid (Blk.new wr _ _), Lib.hid (HX.out.alloc _)⟩ ?_
          clear HI HX c0 c1 c2 c3 c4
          rintro V ⟨HI, HB2, HX⟩
          have q0 : V.cell? ⟨wr.heap.size, 0, none⟩ = some (.int .i64 op) := HB2.out.cell 0
          have q1 : V.cell? ⟨wr.heap.size, 1, none⟩ = some (.string sn) := HB2.out.cell 1
          have q2 : V.cell? ⟨wr.heap.size, 2, none⟩ = some (.int .i64 n) := HB2.out.cell 2
          have q3 : V.cell? ⟨wr.heap.size, 3, none⟩ = some (.int .i64 v) := HB2.out.cell 3
          have q4 : V.cell? ⟨wr.heap.size, 4, none⟩ = some (.int .i64 a) := HB2.out.cell 4
          have HM := Lib.hid (may_ins ⟨op, sn, n, v, a⟩ V (HT.out.ext HX.out))
          cases hm : insMay ⟨op, sn, n, v, a⟩
          · have HBAD : Hid ((insMay l[j] && (st.step l[j]).1) = false) := Lib.hid (by rw [← HXJ.out, hm]; rfl)
            rw [hm] at HM
            unfold insVal at HM
            clear hm
            go_wp2_with (go_at_call 8; refine HM.out.mono ?_; rintro e W1 ⟨rfl, x1⟩)
            go_ret2
            exact chk_post (chk_at ha hl hlt HRUN.out HBAD.out) (HX.out.trans x1)
          · have hio := (may_ok hm).1
            have HOK2 := Lib.hid (step_ok HOK.out hm)
            have HMJ : Hid (insMay l[j] = true) := Lib.hid (by rw [← HXJ.out]; exact hm)
            obtain ⟨⟨rb, rs⟩, hr⟩ : ∃ r, st.step ⟨op, sn, n, v, a⟩ = r := ⟨_, rfl⟩
            have HST : ∀ W, StAt W B 66 st → Hid (Calls Tryz.prog 38 #[.pointer (some ⟨B, 0, none⟩), insVal ⟨op, sn, n, v, a⟩] W (StPost B (rb, rs) W)) := fun W h => by
              have := step_any B ⟨op, sn, n, v, a⟩ st W h HOK.out hio
              rw [hr] at this
              exact Lib.hid this
            rw [hm] at HM
            rw [hr] at HOK2
            have HSJ : Hid (st.step l[j] = (rb, rs)) := Lib.hid (by rw [← HXJ.out]; exact hr)
            unfold insVal at HM HST
            clear hm hr hio
            cases rb
            · have HBAD : Hid ((insMay l[j] && (st.step l[j]).1) = false) := Lib.hid (by rw [HSJ.out, Bool.and_false])
              go_wp2_with (first | (go_at_call 8; refine HM.out.mono ?_; rintro e W1 ⟨rfl, x1⟩; have z0 := x1.cell q0; have z1 := x1.cell q1; have z2 := x1.cell q2; have z3 := x1.cell q3; have z4 := x1.cell q4; replace HI := Lib.hid (HI.out.ext x1); replace HX := Lib.hid (HX.out.trans x1); clear x1) | (go_at_call 38; refine (HST _ HI.out).out.mono ?_; rintro e W2 ⟨rfl, h2, m2⟩))
              go_ret2
              exact chk_post (chk_at ha hl hlt HRUN.out HBAD.out) (((Mods.ext HX.out).trans m2).toExt (by simp; rw [HB.out]; exact Nat.le_refl _))
            · have HR2 := Lib.hid (run_snoc hlt HRUN.out HMJ.out (by rw [HSJ.out]))
              rw [HSJ.out] at HR2
              go_wp2_with (first | (go_at_call 8; refine HM.out.mono ?_; rintro e W1 ⟨rfl, x1⟩; have z0 := x1.cell q0; have z1 := x1.cell q1; have z2 := x1.cell q2; have z3 := x1.cell q3; have z4 := x1.cell q4; replace HI := Lib.hid (HI.out.ext x1); replace HX := Lib.hid (HX.out.trans x1); clear x1) | (go_at_call 38; refine (HST _ HI.out).out.mono ?_; rintro e W2 ⟨rfl, h2, m2⟩))
              go_roundw
              case rel => exact ⟨j + 1, rs, by omega, by go_num, HR2, HOK2, Lib.hid h2, Lib.hid (((Mods.ext HX.out).trans m2).toExt (by simp; rw [HB.out]; exact Nat.le_refl _))⟩
              case measure => simp [intOf]; omega
        · obtain rfl : j = l.length := by omega
          have HE := Lib.hid (chk_end ha hl (by rw [List.take_length] at HRUN; exact HRUN.out))
          have c6 := HI.out.ended
          obtain ⟨en, hen⟩ : ∃ en, st.ended = en := ⟨_, rfl⟩
          rw [hen] at c6 HE
          clear hen hlt hj
          cases en
          all_goals
            go_wp2_with fail
            go_ret2
            exact chk_post HE.out HX.out

/-- Check, of any code. -/
theorem check_any (l : List Ins) (arity : Int) (c : Nat) (A : Option Addr) (w : World) (hT : OpTabAt w) (hS : El.Src w A l.length 5 (flat insCells l)) :
    Calls Tryz.prog 16 #[.slice A l.length c, .int .i64 arity] w (ChkPost l arity w) := by
  by_cases ha : arity < 0 ∨ 16 < arity
  · exact check_arity l arity c A w ha
  · by_cases hl : 4096 < l.length
    · exact check_long l arity c A w ha hl
    · obtain ⟨k, rfl⟩ : ∃ k : Nat, arity = k := ⟨arity.toNat, by omega⟩
      exact check_fit l k c A w hT hS (by omega) (by omega)

end Go.Proofs.YtlkpiigdmmhkpaaGreatDoor

/- Layer 16: the walk of lives. -/
namespace Go.Proofs.YtlkpiigdmmhkpaaGreatDoor
open Go.RowKit Go.El

def lvI : Ins := ⟨5, ⟨#[65, 32, 98]⟩, 2, 0, 1⟩
def lvX : Ins := ⟨11, ⟨#[]⟩, 0, -2, 1⟩
def lvL : List Ins := [⟨13, ⟨#[]⟩, 1, 0, 1⟩, ⟨22, ⟨#[112]⟩, 1, 0, 0⟩]
def lvM : List Ins := [⟨22, ⟨#[112]⟩, 1, 0, 0⟩]
theorem lv_may : insMay lvI = true ∧ insMay insZ = false ∧ insMay lvX = true := by decide +kernel
theorem lv_text : insT lvI = [103, 101, 116, 95, 115, 116, 114, 32, 39, 65, 32, 98, 39, 47, 50, 32, 65, 49] := by decide +kernel
theorem lv_textX : insT lvX = [112, 117, 116, 95, 118, 97, 108, 32, 89, 50, 32, 65, 49] := by decide +kernel
theorem lv_p1 : parseB ⟨#[112, 117, 116, 95, 118, 97, 108, 32, 89, 50, 32, 65, 49]⟩ = some lvX := by
  have := parse_text lv_may.2.2
  rw [lv_textX] at this
  exact this
theorem lv_p2 : (parseB ⟨#[112, 117, 116, 95, 118, 97, 108, 32, 89, 48, 32, 65, 49]⟩).isNone = true := by decide +kernel
theorem lv_c1 : chkIns lvL 0 = (2, 0) := by decide +kernel
theorem lv_c2 : chkIns lvM 0 = (0, 160) := by decide +kernel
theorem lv_c3 : chkIns [] 17 = (0, 1) := by decide +kernel
theorem lv_n : nameF 28 = [110, 101, 99, 107] := by decide +kernel
theorem insEq (w : World) : (binOp .eql 23 (.agg #[.int .i64 11, .string ⟨#[]⟩, .int .i64 0, .int .i64 (-2), .int .i64 1]) (.agg #[.int .i64 11, .string ⟨#[]⟩, .int .i64 0, .int .i64 (-2), .int .i64 1])).run Tryz.prog w = .ok (.bool true) w := by kernel_rfl

set_option maxRecDepth 100000 in
set_option maxHeartbeats 8000000 in
theorem lives_any (w : World) (he : Env w) :
    Calls Tryz.prog 6 #[] w fun e w' => e = .returned (.bool true) ∧ Ext w w' := by
  have HP1 := fun W (x : Ext w W) => Lib.hid (show Calls Tryz.prog 13 #[.string ⟨#[112, 117, 116, 95, 118, 97, 108, 32, 89, 50, 32, 65, 49]⟩] W fun e w' => e = .returned (.tuple #[.agg #[.int .i64 11, .string ⟨#[]⟩, .int .i64 0, .int .i64 (-2), .int .i64 1], .int .i64 0]) ∧ Ext W w' from by
    have := parseI_any ⟨#[112, 117, 116, 95, 118, 97, 108, 32, 89, 50, 32, 65, 49]⟩ (by decide) W (he.ext x)
    rw [lv_p1] at this
    exact this)
  have HP2 := fun W (x : Ext w W) => Lib.hid (show Calls Tryz.prog 13 #[.string ⟨#[112, 117, 116, 95, 118, 97, 108, 32, 89, 48, 32, 65, 49]⟩] W fun e w' => e = .returned (.tuple #[.agg #[.int .i64 0, .string ⟨#[]⟩, .int .i64 0, .int .i64 0, .int .i64 0], .int .i64 160]) ∧ Ext W w' from by
    have := parseI_any ⟨#[112, 117, 116, 95, 118, 97, 108, 32, 89, 48, 32, 65, 49]⟩ (by decide) W (he.ext x)
    rw [Option.isNone_iff_eq_none.1 lv_p2] at this
    exact this)
  have HC1 := fun W (x : Ext w W) A (hS : El.Src W A 2 5 (flat insCells lvL)) => Lib.hid (show Calls Tryz.prog 16 #[.slice A 2 2, .int .i64 0] W fun e w' => e = .returned (.tuple #[.int .i64 2, .int .i64 0]) ∧ Ext W w' from by
    have := check_any lvL 0 2 A W (he.ext x).ops hS
    unfold ChkPost at this
    rw [lv_c1] at this
    exact this)
  have HC2 := fun W (x : Ext w W) A (hS : El.Src W A 1 5 (flat insCells lvM)) => Lib.hid (show Calls Tryz.prog 16 #[.slice A 1 1, .int .i64 0] W fun e w' => e = .returned (.tuple #[.int .i64 0, .int .i64 160]) ∧ Ext W w' from by
    have := check_any lvM 0 1 A W (he.ext x).ops hS
    unfold ChkPost at this
    rw [lv_c2] at this
    exact this)
  have HC3 := fun W (x : Ext w W) => Lib.hid (show Calls Tryz.prog 16 #[.slice none 0 0, .int .i64 17] W fun e w' => e = .returned (.tuple #[.int .i64 0, .int .i64 1]) ∧ Ext W w' from by
    have := check_any [] 17 0 none W (he.ext x).ops (El.Src.none W none 5)
    unfold ChkPost at this
    rw [lv_c3] at this
    exact this)
  have HT := fun W (x : Ext w W) => Lib.hid (show Calls Tryz.prog 7 #[.agg #[.int .i64 5, .string ⟨#[65, 32, 98]⟩, .int .i64 2, .int .i64 0, .int .i64 1]] W fun e w' => e = .returned (.string ⟨#[103, 101, 116, 95, 115, 116, 114, 32, 39, 65, 32, 98, 39, 47, 50, 32, 65, 49]⟩) ∧ Ext W w' from by
    have := text_any lvI W (he.ext x)
    rw [lv_text] at this
    exact this)
  have HM1 := fun W (x : Ext w W) => Lib.hid (show Calls Tryz.prog 8 #[.agg #[.int .i64 5, .string ⟨#[65, 32, 98]⟩, .int .i64 2, .int .i64 0, .int .i64 1]] W fun e w' => e = .returned (.bool true) ∧ Ext W w' from by
    have := may_ins lvI W (he.ext x).ops
    rw [lv_may.1] at this
    exact this)
  have HM2 := fun W (x : Ext w W) => Lib.hid (show Calls Tryz.prog 8 #[.agg #[.int .i64 0, .string ⟨#[]⟩, .int .i64 0, .int .i64 0, .int .i64 0]] W fun e w' => e = .returned (.bool false) ∧ Ext W w' from by
    have := may_ins insZ W (he.ext x).ops
    rw [lv_may.2.1] at this
    exact this)
  have HN := fun W (x : Ext w W) => Lib.hid (show Calls Tryz.prog 11 #[.int .i64 28] W fun e w' => e = .returned (.string ⟨#[110, 101, 99, 107]⟩) ∧ W = w' from by
    have := name_any 28 W (he.ext x).ops
    rw [lv_n] at this
    exact this)
  have k1 : ((⟨#[103, 101, 116, 95, 115, 116, 114, 32, 39, 65, 32, 98, 39, 47, 50, 32, 65, 49]⟩ : ByteArray).toList == (⟨#[103, 101, 116, 95, 115, 116, 114, 32, 39, 65, 32, 98, 39, 47, 50, 32, 65, 49]⟩ : ByteArray).toList) = true := by simp
  have k2 : ((⟨#[110, 101, 99, 107]⟩ : ByteArray).toList == (⟨#[110, 101, 99, 107]⟩ : ByteArray).toList) = true := by simp
  have k3 := insEq
  have HX := Lib.hid ((Ext.refl w).alloc (.cells #[.int .i64 5, .string ⟨#[65, 32, 98]⟩, .int .i64 2, .int .i64 0, .int .i64 1] 23))
  have HI := Lib.hid (show InsBlk (w.alloc (.cells #[.int .i64 5, .string ⟨#[65, 32, 98]⟩, .int .i64 2, .int .i64 0, .int .i64 1] 23)) w.heap.size lvI from Blk.new w _ _)
  clear he
  go_enter Tryz.func6, Tryz.ntmps6
  go_upto_region 2 with fail
  refine wp_abs (fun V => Hid (Ext w V) ∧ Hid (InsBlk V w.heap.size lvI)) ⟨HX, HI⟩ ?_
  clear HX HI
  rintro V ⟨HX, HI⟩
  go_upto_region 3 with (go_at_call 13; refine (HP1 _ HX.out).out.mono ?_; rintro e W1 ⟨rfl, x1⟩; have HX1 := Lib.hid (HX.out.trans x1); have HI1 := Lib.hid (HI.out.ext x1); clear x1)
  have HJ := Lib.hid (show InsBlk (W1.alloc (.cells #[.int .i64 11, .string ⟨#[]⟩, .int .i64 0, .int .i64 (-2), .int .i64 1] 23)) W1.heap.size lvX from Blk.new W1 _ _)
  have hx := ext_boxI W1 (.cells #[.int .i64 11, .string ⟨#[]⟩, .int .i64 0, .int .i64 (-2), .int .i64 1] 23)
  refine wp_abs (fun V => Hid (Ext w V) ∧ Hid (InsBlk V w.heap.size lvI) ∧ Hid (InsBlk V W1.heap.size lvX)) ⟨Lib.hid (HX1.out.trans hx), Lib.hid (HI1.out.ext hx), HJ⟩ ?_
  clear HX HI HX1 HI1 HJ hx
  generalize W1.heap.size = b2
  rintro V ⟨HX, HI, HJ⟩
  go_upto_region 4 with (go_at_call 13; refine (HP2 _ HX.out).out.mono ?_; rintro e W2 ⟨rfl, x1⟩; have HX1 := Lib.hid (HX.out.trans x1); have HI1 := Lib.hid (HI.out.ext x1); have HJ1 := Lib.hid (HJ.out.ext x1); clear x1)
  have hx := ext_boxI W2 (.cells #[.int .i64 0, .string ⟨#[]⟩, .int .i64 0, .int .i64 0, .int .i64 0] 23)
  refine wp_abs (fun V => Hid (Ext w V) ∧ Hid (InsBlk V w.heap.size lvI) ∧ Hid (InsBlk V b2 lvX)) ⟨Lib.hid (HX1.out.trans hx), Lib.hid (HI1.out.ext hx), Lib.hid (HJ1.out.ext hx)⟩ ?_
  clear HX HI HX1 HI1 HJ HJ1 hx
  rintro V ⟨HX, HI, HJ⟩
  have hy := ext_boxI V (.cells #[.int .i64 13, .string ⟨#[]⟩, .int .i64 1, .int .i64 0, .int .i64 1, .int .i64 22, .string ⟨#[112]⟩, .int .i64 1, .int .i64 0, .int .i64 0] 23)
  have HS := Lib.hid (El.Src.new V #[.int .i64 13, .string ⟨#[]⟩, .int .i64 1, .int .i64 0, .int .i64 1, .int .i64 22, .string ⟨#[112]⟩, .int .i64 1, .int .i64 0, .int .i64 0] 23 2 5 rfl)
  have HY := Lib.hid hy
  clear hy
  go_upto_region 5 with (go_at_call 16; refine (HC1 _ (HX.out.trans HY.out) _ HS.out).out.mono ?_; rintro e W3 ⟨rfl, x1⟩; have hx := HY.out.trans x1; have HX1 := Lib.hid (HX.out.trans hx); have HI1 := Lib.hid (HI.out.ext hx); have HJ1 := Lib.hid (HJ.out.ext hx); clear x1 hx)
  clear HX HI HJ HY HS
  have hy := ext_boxI W3 (.cells #[.int .i64 22, .string ⟨#[112]⟩, .int .i64 1, .int .i64 0, .int .i64 0] 23)
  have HS := Lib.hid (El.Src.new W3 #[.int .i64 22, .string ⟨#[112]⟩, .int .i64 1, .int .i64 0, .int .i64 0] 23 1 5 rfl)
  have HY := Lib.hid hy
  clear hy
  go_upto_region 6 with (go_at_call 16; refine (HC2 _ (HX1.out.trans HY.out) _ HS.out).out.mono ?_; rintro e W4 ⟨rfl, x1⟩; have hx := HY.out.trans x1; have HX2 := Lib.hid (HX1.out.trans hx); have HI2 := Lib.hid (HI1.out.ext hx); have HJ2 := Lib.hid (HJ1.out.ext hx); clear x1 hx)
  clear HX1 HI1 HJ1 HY HS
  go_upto_region 7 with (go_at_call 16; refine (HC3 _ HX2.out).out.mono ?_; rintro e W5 ⟨rfl, hx⟩; have HX3 := Lib.hid (HX2.out.trans hx); have HI3 := Lib.hid (HI2.out.ext hx); have HJ3 := Lib.hid (HJ2.out.ext hx); clear hx)
  clear HX2 HI2 HJ2
  have a0 : W5.cell? ⟨w.heap.size, 0, none⟩ = some (.int .i64 5) := HI3.out.c0
  have a1 : W5.cell? ⟨w.heap.size, 1, none⟩ = some (.string ⟨#[65, 32, 98]⟩) := HI3.out.c1
  have a2 : W5.cell? ⟨w.heap.size, 2, none⟩ = some (.int .i64 2) := HI3.out.c2
  have a3 : W5.cell? ⟨w.heap.size, 3, none⟩ = some (.int .i64 0) := HI3.out.c3
  have a4 : W5.cell? ⟨w.heap.size, 4, none⟩ = some (.int .i64 1) := HI3.out.c4
  have b0 : W5.cell? ⟨b2, 0, none⟩ = some (.int .i64 11) := HJ3.out.c0
  have b1 : W5.cell? ⟨b2, 1, none⟩ = some (.string ⟨#[]⟩) := HJ3.out.c1
  have b3 : W5.cell? ⟨b2, 2, none⟩ = some (.int .i64 0) := HJ3.out.c2
  have b4 : W5.cell? ⟨b2, 3, none⟩ = some (.int .i64 (-2)) := HJ3.out.c3
  have b5 : W5.cell? ⟨b2, 4, none⟩ = some (.int .i64 1) := HJ3.out.c4
  clear HI3 HJ3
  go_wp2_with (first | (go_at_call 7; refine (HT _ HX3.out).out.mono ?_; rintro e W6 ⟨rfl, hx⟩; have HX6 := Lib.hid (HX3.out.trans hx); have c0 := hx.cell a0; have c1 := hx.cell a1; have c2 := hx.cell a2; have c3 := hx.cell a3; have c4 := hx.cell a4; have d0 := hx.cell b0; have d1 := hx.cell b1; have d2 := hx.cell b3; have d3 := hx.cell b4; have d4 := hx.cell b5; clear hx) | (go_at_call 8; ((with_reducible refine (HM1 _ HX6.out).out.mono ?_); rintro e W7 ⟨rfl, hx⟩; have HX7 := Lib.hid (HX6.out.trans hx); clear hx)) | (go_at_call 8; ((with_reducible refine (HM2 _ HX7.out).out.mono ?_); rintro e W8 ⟨rfl, hx⟩; have HX8 := Lib.hid (HX7.out.trans hx); clear hx)) | (go_at_call 11; refine (HN _ HX8.out).out.mono ?_; rintro e W9 ⟨rfl, rfl⟩))
  go_ret
  exact ⟨rfl, HX8.out⟩

end Go.Proofs.YtlkpiigdmmhkpaaGreatDoor
