/- Layer 16: the walk of lives. -/
import Derived.Test.YtmnnhdegoapfcaaGreatDoorC43
import Derived.Test.YtmnnhdegoapfcaaGreatDoorC42
namespace Go.Proofs.YtmnnhdegoapfcaaGreatDoor
open Go.RowKit Go.El

def lvI : Ins := ⟨5, ⟨#[65, 32, 98]⟩, 2, 0, 1⟩
def lvX : Ins := ⟨11, ⟨#[]⟩, 0, -2, 1⟩
def lvL : List Ins := [⟨13, ⟨#[]⟩, 1, 0, 1⟩, ⟨22, ⟨#[112]⟩, 1, 0, 0⟩]
def lvM : List Ins := [⟨22, ⟨#[112]⟩, 1, 0, 0⟩]
theorem lv_may : insMay lvI = true ∧ insMay insZ = false ∧ insMay lvX = true := by decide +kernel
theorem lv_text : insT lvI = [103, 101, 116, 95, 115, 116, 114, 32, 39, 65, 32, 98, 39, 47, 50, 32, 65, 49] := by decide +kernel
theorem lv_textX : insT lvX = [112, 117, 116, 95, 118, 97, 108, 32, 89, 50, 32, 65, 49] := by decide +kernel
theorem lv_p1 : parseB ⟨#[112, 117, 116, 95, 118, 97, 108, 32, 89, 50, 32, 65, 49]⟩ = some lvX := by
  have := parse_text lv_may.2.2
  rw [lv_textX] at this
  exact this
theorem lv_p2 : (parseB ⟨#[112, 117, 116, 95, 118, 97, 108, 32, 89, 48, 32, 65, 49]⟩).isNone = true := by decide +kernel
theorem lv_c1 : chkIns lvL 0 = (2, 0) := by decide +kernel
theorem lv_c2 : chkIns lvM 0 = (0, 160) := by decide +kernel
theorem lv_c3 : chkIns [] 17 = (0, 1) := by decide +kernel
theorem lv_n : nameF 28 = [110, 101, 99, 107] := by decide +kernel
theorem insEq (w : World) : (binOp .eql 25 (.agg #[.int .i64 11, .string ⟨#[]⟩, .int .i64 0, .int .i64 (-2), .int .i64 1]) (.agg #[.int .i64 11, .string ⟨#[]⟩, .int .i64 0, .int .i64 (-2), .int .i64 1])).run Tryz.prog w = .ok (.bool true) w := by kernel_rfl

set_option maxRecDepth 100000 in
set_option maxHeartbeats 8000000 in
theorem lives_any (w : World) (he : Env w) :
    Calls Tryz.prog 21 #[] w fun e w' => e = .returned (.bool true) ∧ Ext w w' := by
  have HP1 := fun W (x : Ext w W) => Lib.hid (show Calls Tryz.prog 22 #[.string ⟨#[112, 117, 116, 95, 118, 97, 108, 32, 89, 50, 32, 65, 49]⟩] W fun e w' => e = .returned (.tuple #[.agg #[.int .i64 11, .string ⟨#[]⟩, .int .i64 0, .int .i64 (-2), .int .i64 1], .int .i64 0]) ∧ Ext W w' from by
    have := parseI_any ⟨#[112, 117, 116, 95, 118, 97, 108, 32, 89, 50, 32, 65, 49]⟩ (by decide) W (he.ext x)
    rw [lv_p1] at this
    exact this)
  have HP2 := fun W (x : Ext w W) => Lib.hid (show Calls Tryz.prog 22 #[.string ⟨#[112, 117, 116, 95, 118, 97, 108, 32, 89, 48, 32, 65, 49]⟩] W fun e w' => e = .returned (.tuple #[.agg #[.int .i64 0, .string ⟨#[]⟩, .int .i64 0, .int .i64 0, .int .i64 0], .int .i64 160]) ∧ Ext W w' from by
    have := parseI_any ⟨#[112, 117, 116, 95, 118, 97, 108, 32, 89, 48, 32, 65, 49]⟩ (by decide) W (he.ext x)
    rw [Option.isNone_iff_eq_none.1 lv_p2] at this
    exact this)
  have HC1 := fun W (x : Ext w W) A (hS : El.Src W A 2 5 (flat insCells lvL)) => Lib.hid (show Calls Tryz.prog 20 #[.slice A 2 2, .int .i64 0] W fun e w' => e = .returned (.tuple #[.int .i64 2, .int .i64 0]) ∧ Ext W w' from by
    have := check_any lvL 0 2 A W (he.ext x).ops hS
    unfold ChkPost at this
    rw [lv_c1] at this
    exact this)
  have HC2 := fun W (x : Ext w W) A (hS : El.Src W A 1 5 (flat insCells lvM)) => Lib.hid (show Calls Tryz.prog 20 #[.slice A 1 1, .int .i64 0] W fun e w' => e = .returned (.tuple #[.int .i64 0, .int .i64 160]) ∧ Ext W w' from by
    have := check_any lvM 0 1 A W (he.ext x).ops hS
    unfold ChkPost at this
    rw [lv_c2] at this
    exact this)
  have HC3 := fun W (x : Ext w W) => Lib.hid (show Calls Tryz.prog 20 #[.slice none 0 0, .int .i64 17] W fun e w' => e = .returned (.tuple #[.int .i64 0, .int .i64 1]) ∧ Ext W w' from by
    have := check_any [] 17 0 none W (he.ext x).ops (El.Src.none W none 5)
    unfold ChkPost at this
    rw [lv_c3] at this
    exact this)
  have HT := fun W (x : Ext w W) => Lib.hid (show Calls Tryz.prog 28 #[.agg #[.int .i64 5, .string ⟨#[65, 32, 98]⟩, .int .i64 2, .int .i64 0, .int .i64 1]] W fun e w' => e = .returned (.string ⟨#[103, 101, 116, 95, 115, 116, 114, 32, 39, 65, 32, 98, 39, 47, 50, 32, 65, 49]⟩) ∧ Ext W w' from by
    have := text_any lvI W (he.ext x)
    rw [lv_text] at this
    exact this)
  have HM1 := fun W (x : Ext w W) => Lib.hid (show Calls Tryz.prog 53 #[.agg #[.int .i64 5, .string ⟨#[65, 32, 98]⟩, .int .i64 2, .int .i64 0, .int .i64 1]] W fun e w' => e = .returned (.bool true) ∧ Ext W w' from by
    have := may_ins lvI W (he.ext x).ops
    rw [lv_may.1] at this
    exact this)
  have HM2 := fun W (x : Ext w W) => Lib.hid (show Calls Tryz.prog 53 #[.agg #[.int .i64 0, .string ⟨#[]⟩, .int .i64 0, .int .i64 0, .int .i64 0]] W fun e w' => e = .returned (.bool false) ∧ Ext W w' from by
    have := may_ins insZ W (he.ext x).ops
    rw [lv_may.2.1] at this
    exact this)
  have HN := fun W (x : Ext w W) => Lib.hid (show Calls Tryz.prog 55 #[.int .i64 28] W fun e w' => e = .returned (.string ⟨#[110, 101, 99, 107]⟩) ∧ W = w' from by
    have := name_any 28 W (he.ext x).ops
    rw [lv_n] at this
    exact this)
  have k1 : ((⟨#[103, 101, 116, 95, 115, 116, 114, 32, 39, 65, 32, 98, 39, 47, 50, 32, 65, 49]⟩ : ByteArray).toList == (⟨#[103, 101, 116, 95, 115, 116, 114, 32, 39, 65, 32, 98, 39, 47, 50, 32, 65, 49]⟩ : ByteArray).toList) = true := by simp
  have k2 : ((⟨#[110, 101, 99, 107]⟩ : ByteArray).toList == (⟨#[110, 101, 99, 107]⟩ : ByteArray).toList) = true := by simp
  have k3 := insEq
  have HX := Lib.hid ((Ext.refl w).alloc (.cells #[.int .i64 5, .string ⟨#[65, 32, 98]⟩, .int .i64 2, .int .i64 0, .int .i64 1] 25))
  have HI := Lib.hid (show InsBlk (w.alloc (.cells #[.int .i64 5, .string ⟨#[65, 32, 98]⟩, .int .i64 2, .int .i64 0, .int .i64 1] 25)) w.heap.size lvI from Blk.new w _ _)
  clear he
  go_enter Tryz.func21, Tryz.ntmps21
  go_upto_region 2 with fail
  refine wp_abs (fun V => Hid (Ext w V) ∧ Hid (InsBlk V w.heap.size lvI)) ⟨HX, HI⟩ ?_
  clear HX HI
  rintro V ⟨HX, HI⟩
  go_upto_region 3 with (go_at_call 22; refine (HP1 _ HX.out).out.mono ?_; rintro e W1 ⟨rfl, x1⟩; have HX1 := Lib.hid (HX.out.trans x1); have HI1 := Lib.hid (HI.out.ext x1); clear x1)
  have HJ := Lib.hid (show InsBlk (W1.alloc (.cells #[.int .i64 11, .string ⟨#[]⟩, .int .i64 0, .int .i64 (-2), .int .i64 1] 25)) W1.heap.size lvX from Blk.new W1 _ _)
  have hx := ext_boxI W1 (.cells #[.int .i64 11, .string ⟨#[]⟩, .int .i64 0, .int .i64 (-2), .int .i64 1] 25)
  refine wp_abs (fun V => Hid (Ext w V) ∧ Hid (InsBlk V w.heap.size lvI) ∧ Hid (InsBlk V W1.heap.size lvX)) ⟨Lib.hid (HX1.out.trans hx), Lib.hid (HI1.out.ext hx), HJ⟩ ?_
  clear HX HI HX1 HI1 HJ hx
  generalize W1.heap.size = b2
  rintro V ⟨HX, HI, HJ⟩
  go_upto_region 4 with (go_at_call 22; refine (HP2 _ HX.out).out.mono ?_; rintro e W2 ⟨rfl, x1⟩; have HX1 := Lib.hid (HX.out.trans x1); have HI1 := Lib.hid (HI.out.ext x1); have HJ1 := Lib.hid (HJ.out.ext x1); clear x1)
  have hx := ext_boxI W2 (.cells #[.int .i64 0, .string ⟨#[]⟩, .int .i64 0, .int .i64 0, .int .i64 0] 25)
  refine wp_abs (fun V => Hid (Ext w V) ∧ Hid (InsBlk V w.heap.size lvI) ∧ Hid (InsBlk V b2 lvX)) ⟨Lib.hid (HX1.out.trans hx), Lib.hid (HI1.out.ext hx), Lib.hid (HJ1.out.ext hx)⟩ ?_
  clear HX HI HX1 HI1 HJ HJ1 hx
  rintro V ⟨HX, HI, HJ⟩
  have hy := ext_boxI V (.cells #[.int .i64 13, .string ⟨#[]⟩, .int .i64 1, .int .i64 0, .int .i64 1, .int .i64 22, .string ⟨#[112]⟩, .int .i64 1, .int .i64 0, .int .i64 0] 25)
  have HS := Lib.hid (El.Src.new V #[.int .i64 13, .string ⟨#[]⟩, .int .i64 1, .int .i64 0, .int .i64 1, .int .i64 22, .string ⟨#[112]⟩, .int .i64 1, .int .i64 0, .int .i64 0] 25 2 5 rfl)
  have HY := Lib.hid hy
  clear hy
  go_upto_region 5 with (go_at_call 20; refine (HC1 _ (HX.out.trans HY.out) _ HS.out).out.mono ?_; rintro e W3 ⟨rfl, x1⟩; have hx := HY.out.trans x1; have HX1 := Lib.hid (HX.out.trans hx); have HI1 := Lib.hid (HI.out.ext hx); have HJ1 := Lib.hid (HJ.out.ext hx); clear x1 hx)
  clear HX HI HJ HY HS
  have hy := ext_boxI W3 (.cells #[.int .i64 22, .string ⟨#[112]⟩, .int .i64 1, .int .i64 0, .int .i64 0] 25)
  have HS := Lib.hid (El.Src.new W3 #[.int .i64 22, .string ⟨#[112]⟩, .int .i64 1, .int .i64 0, .int .i64 0] 25 1 5 rfl)
  have HY := Lib.hid hy
  clear hy
  go_upto_region 6 with (go_at_call 20; refine (HC2 _ (HX1.out.trans HY.out) _ HS.out).out.mono ?_; rintro e W4 ⟨rfl, x1⟩; have hx := HY.out.trans x1; have HX2 := Lib.hid (HX1.out.trans hx); have HI2 := Lib.hid (HI1.out.ext hx); have HJ2 := Lib.hid (HJ1.out.ext hx); clear x1 hx)
  clear HX1 HI1 HJ1 HY HS
  go_upto_region 7 with (go_at_call 20; refine (HC3 _ HX2.out).out.mono ?_; rintro e W5 ⟨rfl, hx⟩; have HX3 := Lib.hid (HX2.out.trans hx); have HI3 := Lib.hid (HI2.out.ext hx); have HJ3 := Lib.hid (HJ2.out.ext hx); clear hx)
  clear HX2 HI2 HJ2
  have a0 : W5.cell? ⟨w.heap.size, 0, none⟩ = some (.int .i64 5) := HI3.out.c0
  have a1 : W5.cell? ⟨w.heap.size, 1, none⟩ = some (.string ⟨#[65, 32, 98]⟩) := HI3.out.c1
  have a2 : W5.cell? ⟨w.heap.size, 2, none⟩ = some (.int .i64 2) := HI3.out.c2
  have a3 : W5.cell? ⟨w.heap.size, 3, none⟩ = some (.int .i64 0) := HI3.out.c3
  have a4 : W5.cell? ⟨w.heap.size, 4, none⟩ = some (.int .i64 1) := HI3.out.c4
  have b0 : W5.cell? ⟨b2, 0, none⟩ = some (.int .i64 11) := HJ3.out.c0
  have b1 : W5.cell? ⟨b2, 1, none⟩ = some (.string ⟨#[]⟩) := HJ3.out.c1
  have b3 : W5.cell? ⟨b2, 2, none⟩ = some (.int .i64 0) := HJ3.out.c2
  have b4 : W5.cell? ⟨b2, 3, none⟩ = some (.int .i64 (-2)) := HJ3.out.c3
  have b5 : W5.cell? ⟨b2, 4, none⟩ = some (.int .i64 1) := HJ3.out.c4
  clear HI3 HJ3
  go_wp2_with (first | (go_at_call 28; refine (HT _ HX3.out).out.mono ?_; rintro e W6 ⟨rfl, hx⟩; have HX6 := Lib.hid (HX3.out.trans hx); have c0 := hx.cell a0; have c1 := hx.cell a1; have c2 := hx.cell a2; have c3 := hx.cell a3; have c4 := hx.cell a4; have d0 := hx.cell b0; have d1 := hx.cell b1; have d2 := hx.cell b3; have d3 := hx.cell b4; have d4 := hx.cell b5; clear hx) | (go_at_call 53; ((with_reducible refine (HM1 _ HX6.out).out.mono ?_); rintro e W7 ⟨rfl, hx⟩; have HX7 := Lib.hid (HX6.out.trans hx); clear hx)) | (go_at_call 53; ((with_reducible refine (HM2 _ HX7.out).out.mono ?_); rintro e W8 ⟨rfl, hx⟩; have HX8 := Lib.hid (HX7.out.trans hx); clear hx)) | (go_at_call 55; refine (HN _ HX8.out).out.mono ?_; rintro e W9 ⟨rfl, rfl⟩))
  go_ret
  exact ⟨rfl, HX8.out⟩

end Go.Proofs.YtmnnhdegoapfcaaGreatDoor

/- The reference of layer 16: the walk of Parse; the walk of InstrParses. -/
namespace Go.Proofs.YtmnnhdegoapfcaaGreatDoor
open Go.RowKit Go.El

theorem name_full : ∀ o ∈ List.range 31, 1 ≤ o → nameF o ≠ [] := by decide +kernel
theorem hit_some {s : ByteArray} {k : Nat} {j : Ins} (h1 : 1 ≤ k) (h3 : k < 31) (h : fieldsF k s.data.toList = some j) (ht : insT j = s.data.toList) : parseB s = some j := by
  cases hm : insMay j
  · exfalso
    have e : insT j = [] := by unfold insT; rw [hm]; rfl
    rw [e] at ht
    rw [← ht] at h
    have hn := name_full k (by simp; omega) h1
    unfold fieldsF at h
    rw [if_neg] at h
    · cases h
    · cases hf : nameF k with
      | nil => exact absurd hf hn
      | cons c r => simp [List.isPrefixOf]
  · rw [mkB_ext ht.symm]
    exact parse_text hm
theorem some_hit {s : ByteArray} {i : Ins} (h : parseB s = some i) : fieldsF i.op s.data.toList = some i ∧ insT i = s.data.toList ∧ i.op < 31 := by
  obtain ⟨h1, h2⟩ := parse_some h
  obtain ⟨k, hk, _, h3⟩ := may_op h1
  rw [h2, mkB_list]
  exact ⟨fields_back h1, rfl, by omega⟩
theorem insEqp (i : Ins) (w : World) : (binOp .eql 25 (.agg #[.int .i64 i.op, .string i.s, .int .i64 i.n, .int .i64 i.v, .int .i64 i.a]) (.agg #[.int .i64 i.op, .string i.s, .int .i64 i.n, .int .i64 i.v, .int .i64 i.a])).run Tryz.prog w = .ok (.bool true) w := by
  go_simp
def refV (P : Option Ins) : Value := .tuple #[insVal (P.getD insZ), .bool P.isSome]

set_option maxRecDepth 100000 in
set_option maxHeartbeats 4000000 in
theorem rParseI_any (s : ByteArray) (hs : s.size ≤ 300) (w : World) :
    Calls Tryz.prog 23 #[.string s] w fun e w' => e = .returned (refV (parseB s)) ∧ Ext w w' := by
  obtain ⟨P, hP⟩ : ∃ P, parseB s = P := ⟨_, rfl⟩
  rw [hP]
  have hx0 := (Ext.refl w).alloc (.cells #[Value.int .i64 0, .string ⟨#[]⟩, .int .i64 0, .int .i64 0, .int .i64 0] 25)
  have HX0 := Lib.hid hx0
  have HZ := Lib.hid (Blk.new w 25 #[.int .i64 0, .string ⟨#[]⟩, .int .i64 0, .int .i64 0, .int .i64 0])
  have HF := fun (k : Nat) (h1 : 1 ≤ k) (h3 : k < 31) (W : World) => Lib.hid (show Calls Tryz.prog 64 #[.int .i64 k, .string s] W (fun e w' => ∃ j : Ins, e = .returned (.tuple #[.agg #[.int .i64 j.op, .string j.s, .int .i64 j.n, .int .i64 j.v, .int .i64 j.a], .bool (fieldsF k s.data.toList).isSome]) ∧ (∀ i, fieldsF k s.data.toList = some i → j = i) ∧ Ext W w') from rFields_any k h1 h3 s (by omega) W)
  have HN := fun W => Lib.hid (rNames_any W)
  have HTX := fun (j : Ins) W => Lib.hid (rText_any j W)
  have HS1 := fun (k : Nat) (j : Ins) (h1 : 1 ≤ k) (h3 : k < 31) (h : fieldsF k s.data.toList = some j) (ht : insT j = s.data.toList) => Lib.hid (hP.symm.trans (hit_some h1 h3 h ht))
  have HS2 : ∀ i, P = some i → Hid (fieldsF i.op s.data.toList = some i ∧ insT i = s.data.toList ∧ i.op < 31) := fun i h => Lib.hid (some_hit (hP.trans h))
  have HP := Lib.hid hP
  have h300 : ¬ (300 : Int) < (s.size : Int) := by omega
  unfold insVal at HTX
  clear hP hx0
  go_enter Tryz.func23, Tryz.ntmps23
  go_wp2_with fail
  go_loopw [4] (fun ov wr => ∃ k : Nat, 1 ≤ k ∧ k ≤ 31 ∧ ov = .int .i64 k ∧ Hid (Ext w wr) ∧ Hid (Blk wr w.heap.size 25 #[.int .i64 0, .string ⟨#[]⟩, .int .i64 0, .int .i64 0, .int .i64 0]) ∧ Hid (∀ i : Ins, P = some i → (k : Int) ≤ i.op)) (fun ov _ => 31 - (intOf ov).toNat)
  case atStart => exact ⟨1, by omega, by omega, rfl, HX0, HZ, Lib.hid (fun i hi => by
    have := (HS2 i hi).out
    rw [hi] at HP
    obtain ⟨k, hk, h1, _⟩ := may_op (parse_some HP.out).1
    omega)⟩
  case round =>
    clear HX0 HZ
    obtain ⟨k, hk1, hk, rfl, HX, HZ, HO⟩ := hrel
    by_cases hlt : k < 31
    · have d1 : (k : Int) < 31 := by omega
      have HFk := fun W => HF k hk1 hlt W
      have HSk := fun j => HS1 k j hk1 hlt
      clear HF HS1
      cases hR : fieldsF k s.data.toList with
      | none =>
        rw [hR] at HFk
        have HO2 : Hid (∀ i : Ins, P = some i → ((k + 1 : Nat) : Int) ≤ i.op) := Lib.hid (fun i hi => by
          have h1 := HO.out i hi
          have h2 := (HS2 i hi).out.1
          by_cases e : i.op = (k : Int)
          · rw [e, hR] at h2
            cases h2
          · omega)
        clear hR HSk
        go_wp2_with (first | (go_at_call 47; refine (HN _).out.mono ?_; rintro e W1 ⟨rfl, rfl⟩) | (go_at_call 64; refine (HFk _).out.mono ?_; rintro e W2 ⟨j, rfl, _, hx⟩; have HX2 := Lib.hid ((HX.out.alloc _).trans hx); have HZ2 := Lib.hid ((HZ.out.alloc _).ext hx); clear hx))
        go_roundw
        case rel => exact ⟨k + 1, by omega, by omega, by go_num, HX2.out.alloc _, HZ2.out.alloc _, HO2⟩
        case measure => simp [intOf]; omega
      | some j =>
        rw [hR] at HFk
        by_cases ht : insT j = s.data.toList
        · have HN2 := HSk j hR ht
          have e5 : ((mkB (insT j)).toList == s.toList) = true := by rw [ByteArray.toList_eq, ByteArray.toList_eq, mkB_list]; simpa using ht
          clear hR HSk HS2 ht HO
          have HT := HTX j
          clear HTX
          generalize mkB (insT j) = tx at *
          go_upto_region 7 with (first | (go_at_call 47; refine (HN _).out.mono ?_; rintro e W1 ⟨rfl, rfl⟩) | (go_at_call 64; refine (HFk _).out.mono ?_; rintro e W2 ⟨j2, rfl, hj, hx⟩; obtain rfl := hj j rfl; have HX2 := Lib.hid ((HX.out.alloc _).trans hx); have HZ2 := Lib.hid ((HZ.out.alloc _).ext hx); clear hx))
          have HJ := Lib.hid (Blk.new W2 25 #[.int .i64 j2.op, .string j2.s, .int .i64 j2.n, .int .i64 j2.v, .int .i64 j2.a])
          have hgz := HZ2.out.lt
          refine wp_abs (fun V => Hid (Ext w V) ∧ Hid (Blk V w.heap.size 25 #[.int .i64 0, .string ⟨#[]⟩, .int .i64 0, .int .i64 0, .int .i64 0]) ∧ Hid (Blk V W2.heap.size 25 #[.int .i64 j2.op, .string j2.s, .int .i64 j2.n, .int .i64 j2.v, .int .i64 j2.a])) ⟨Lib.hid (HX2.out.alloc _), Lib.hid (HZ2.out.alloc _), HJ⟩ ?_
          clear HX2 HZ2 HJ HX HZ HFk
          rintro V ⟨HX, HZ, HJ⟩
          have y0 := HJ.out.cell 0
          have y1 := HJ.out.cell 1
          have y2 := HJ.out.cell 2
          have y3 := HJ.out.cell 3
          have y4 := HJ.out.cell 4
          go_upto_region 8 with (go_at_call 30; refine (HT _).out.mono ?_; rintro e W5 ⟨rfl, hx⟩; have HX5 := Lib.hid (HX.out.trans hx); have HZ5 := Lib.hid (HZ.out.ext hx); have HJ5 := Lib.hid (HJ.out.ext hx); clear hx)
          have z0 := HZ5.out.cell 0
          have z1 := HZ5.out.cell 1
          have z2 := HZ5.out.cell 2
          have z3 := HZ5.out.cell 3
          have z4 := HZ5.out.cell 4
          have kzf := HZ5.out.frozen
          have l0 := HJ5.out.cell 0
          have l1 := HJ5.out.cell 1
          have l2 := HJ5.out.cell 2
          have l3 := HJ5.out.cell 3
          have l4 := HJ5.out.cell 4
          go_wp2_with fail
          have kb := blk_set5 HZ5.out (.int .i64 j2.op) (.string j2.s) (.int .i64 j2.n) (.int .i64 j2.v) (.int .i64 j2.a)
          have kc := kb.cell
          refine bodyPost_ret (v := refV P) ?_ rfl ⟨rfl, ext_set5 HX5.out (Nat.le_refl _) _ _ _ _ _⟩
          rw [HN2.out]
          simp [results, Tryz.results23, go_sem, refV, insVal, kc]
        · have e5 : ((mkB (insT j)).toList == s.toList) = false := by rw [ByteArray.toList_eq, ByteArray.toList_eq, mkB_list]; simpa using ht
          have HO2 : Hid (∀ i : Ins, P = some i → ((k + 1 : Nat) : Int) ≤ i.op) := Lib.hid (fun i hi => by
            have h1 := HO.out i hi
            have h2 := (HS2 i hi).out
            by_cases e : i.op = (k : Int)
            · rw [e, hR] at h2
              injection h2.1 with h3
              exact absurd (h3 ▸ h2.2.1) ht
            · omega)
          clear hR HSk HS2 ht HO
          have HT := HTX j
          clear HTX
          generalize mkB (insT j) = tx at *
          go_upto_region 7 with (first | (go_at_call 47; refine (HN _).out.mono ?_; rintro e W1 ⟨rfl, rfl⟩) | (go_at_call 64; refine (HFk _).out.mono ?_; rintro e W2 ⟨j2, rfl, hj, hx⟩; obtain rfl := hj j rfl; have HX2 := Lib.hid ((HX.out.alloc _).trans hx); have HZ2 := Lib.hid ((HZ.out.alloc _).ext hx); clear hx))
          have HJ := Lib.hid (Blk.new W2 25 #[.int .i64 j2.op, .string j2.s, .int .i64 j2.n, .int .i64 j2.v, .int .i64 j2.a])
          refine wp_abs (fun V => Hid (Ext w V) ∧ Hid (Blk V w.heap.size 25 #[.int .i64 0, .string ⟨#[]⟩, .int .i64 0, .int .i64 0, .int .i64 0]) ∧ Hid (Blk V W2.heap.size 25 #[.int .i64 j2.op, .string j2.s, .int .i64 j2.n, .int .i64 j2.v, .int .i64 j2.a])) ⟨Lib.hid (HX2.out.alloc _), Lib.hid (HZ2.out.alloc _), HJ⟩ ?_
          clear HX2 HZ2 HJ HX HZ HFk
          rintro V ⟨HX, HZ, HJ⟩
          have y0 := HJ.out.cell 0
          have y1 := HJ.out.cell 1
          have y2 := HJ.out.cell 2
          have y3 := HJ.out.cell 3
          have y4 := HJ.out.cell 4
          go_wp2_with (go_at_call 30; refine (HT _).out.mono ?_; rintro e W5 ⟨rfl, hx⟩; have HX5 := Lib.hid (HX.out.trans hx); have HZ5 := Lib.hid (HZ.out.ext hx); clear hx)
          go_roundw
          case rel => exact ⟨k + 1, by omega, by omega, by go_num, HX5, HZ5, HO2⟩
          case measure => simp [intOf]; omega
    · obtain rfl : k = 31 := by omega
      have HPn : Hid (P = none) := Lib.hid (by
        cases hPP : P with
        | none => rfl
        | some i =>
          have h1 := HO.out i hPP
          have h2 := (HS2 i hPP).out.2.2
          omega)
      clear HO HS1 HS2 HF
      have z0 := HZ.out.cell 0
      have z1 := HZ.out.cell 1
      have z2 := HZ.out.cell 2
      have z3 := HZ.out.cell 3
      have z4 := HZ.out.cell 4
      go_upto_region 9 with (go_at_call 47; refine (HN _).out.mono ?_; rintro e W1 ⟨rfl, rfl⟩)
      have HZ5 := Lib.hid (HZ.out.alloc (.cells nameCells 9))
      have HX5 := Lib.hid (HX.out.alloc (.cells nameCells 9))
      generalize wr.alloc (.cells nameCells 9) = W5 at *
      clear z0 z1 z2 z3 z4
      have z0 := HZ5.out.cell 0
      have z1 := HZ5.out.cell 1
      have z2 := HZ5.out.cell 2
      have z3 := HZ5.out.cell 3
      have z4 := HZ5.out.cell 4
      have kzf := HZ5.out.frozen
      go_wp2_with fail
      have kb := blk_set5 HZ5.out (.int .i64 0) (.string ⟨#[]⟩) (.int .i64 0) (.int .i64 0) (.int .i64 0)
      have kc := kb.cell
      refine bodyPost_ret (v := refV P) ?_ rfl ⟨rfl, ext_set5 HX5.out (Nat.le_refl _) _ _ _ _ _⟩
      rw [HPn.out]
      simp [results, Tryz.results23, go_sem, refV, insVal, insZ, bE, kc]

set_option maxRecDepth 100000 in
set_option maxHeartbeats 8000000 in
theorem instrParses_any (s : ByteArray) (w : World) (he : Env w) (hs : s.size ≤ 9223372036854775807) :
    Calls Tryz.prog 7 #[.string s] w fun e w' => e = .returned (.bool true) ∧ Ext w w' := by
  have HV := fun W (x : Ext w W) => Lib.hid (lives_any W (he.ext x))
  by_cases hbig : 300 < s.size
  · have hb : (300 : Int) < (s.size : Int) := by omega
    clear hbig
    go_enter Tryz.func7, Tryz.ntmps7
    go_wp2_with (go_at_call 21; refine (HV _ (Ext.refl _)).out.mono ?_; rintro e W1 ⟨rfl, hx⟩)
    go_ret
    exact ⟨rfl, hx⟩
  · have hb : ¬ (300 : Int) < (s.size : Int) := by omega
    have HP := fun W (x : Ext w W) => Lib.hid (parseI_any s (by omega) W (he.ext x))
    have HR := fun W => Lib.hid (rParseI_any s (by omega) W)
    obtain ⟨P, hP⟩ : ∃ P, parseB s = P := ⟨_, rfl⟩
    rw [hP] at HP HR
    obtain ⟨j, hj⟩ : ∃ j, P.getD insZ = j := ⟨_, rfl⟩
    unfold parsV at HP
    unfold refV at HR
    rw [hj] at HP HR
    have heq := insEqp j
    unfold insVal at HP HR
    have hc : (P.isSome = true ∧ (if P.isSome = true then (0 : Int) else 160) = 0) ∨ (P.isSome = false ∧ (if P.isSome = true then (0 : Int) else 160) = 160) := by cases P <;> simp
    generalize (if P.isSome = true then (0 : Int) else 160) = x at *
    generalize P.isSome = b at *
    clear hbig hP hj
    rcases hc with ⟨rfl, rfl⟩ | ⟨rfl, rfl⟩
    all_goals
      go_enter Tryz.func7, Tryz.ntmps7
      go_upto_region 4 with (go_at_call 22; refine (HP _ (Ext.refl _)).out.mono ?_; rintro e W1 ⟨rfl, hx⟩; have HX1 := Lib.hid (hx.alloc (.cells #[.int .i64 j.op, .string j.s, .int .i64 j.n, .int .i64 j.v, .int .i64 j.a] 25)); have HJ1 := Lib.hid (Blk.new W1 25 #[.int .i64 j.op, .string j.s, .int .i64 j.n, .int .i64 j.v, .int .i64 j.a]); clear hx)
      go_upto_region 5 with (go_at_call 23; refine (HR _).out.mono ?_; rintro e W2 ⟨rfl, hx⟩; have HX2 := Lib.hid ((HX1.out.trans hx).alloc (.cells #[.int .i64 j.op, .string j.s, .int .i64 j.n, .int .i64 j.v, .int .i64 j.a] 25)); have HJ2 := Lib.hid ((HJ1.out.ext hx).alloc (.cells #[.int .i64 j.op, .string j.s, .int .i64 j.n, .int .i64 j.v, .int .i64 j.a] 25)); have HK2 := Lib.hid (Blk.new W2 25 #[.int .i64 j.op, .string j.s, .int .i64 j.n, .int .i64 j.v, .int .i64 j.a]); clear hx)
      refine wp_abs (fun V => Hid (Ext w V) ∧ Hid (Blk V W1.heap.size 25 #[.int .i64 j.op, .string j.s, .int .i64 j.n, .int .i64 j.v, .int .i64 j.a]) ∧ Hid (Blk V W2.heap.size 25 #[.int .i64 j.op, .string j.s, .int .i64 j.n, .int .i64 j.v, .int .i64 j.a])) ⟨HX2, HJ2, HK2⟩ ?_
      clear HX1 HJ1 HX2 HJ2 HK2
      rintro V ⟨HX, HJ, HK⟩
      go_wp2_with (go_at_call 21; refine (HV _ HX.out).out.mono ?_; rintro e W5 ⟨rfl, hx⟩; have HX5 := Lib.hid (HX.out.trans hx); have j0 := (HJ.out.ext hx).cell 0; have j1 := (HJ.out.ext hx).cell 1; have j2 := (HJ.out.ext hx).cell 2; have j3 := (HJ.out.ext hx).cell 3; have j4 := (HJ.out.ext hx).cell 4; have k0 := (HK.out.ext hx).cell 0; have k1 := (HK.out.ext hx).cell 1; have k2 := (HK.out.ext hx).cell 2; have k3 := (HK.out.ext hx).cell 3; have k4 := (HK.out.ext hx).cell 4; clear hx)
      go_ret
      exact ⟨rfl, HX5.out⟩

end Go.Proofs.YtmnnhdegoapfcaaGreatDoor
