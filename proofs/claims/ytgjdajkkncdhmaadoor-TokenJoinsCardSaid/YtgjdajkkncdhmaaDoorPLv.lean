/- Layer 8: lives holds. -/
import Derived.Test.YtgjdajkkncdhmaaDoorPQ2
namespace Go.Proofs.YtgjdajkkncdhmaaDoor
open Go.RowKit Go.El

def lv1 : List UInt8 := [102, 111, 111, 40, 88, 44, 32, 39, 97, 32, 98, 39, 41, 46]
def lv2 : List UInt8 := [32, 37, 120, 10, 32, 49, 50]
def lv3 : List UInt8 := [47, 42, 32]
def lv4 : List UInt8 := [32, 32]
def lvT : List TokV := [⟨1, ⟨#[102, 111, 111]⟩, 0, 0, false⟩, ⟨5, ⟨#[40]⟩, 0, 3, false⟩, ⟨3, ⟨#[88]⟩, 0, 4, false⟩, ⟨5, ⟨#[44]⟩, 0, 5, false⟩, ⟨2, ⟨#[97, 32, 98]⟩, 0, 7, true⟩, ⟨5, ⟨#[41]⟩, 0, 12, false⟩, ⟨6, ⟨#[46]⟩, 0, 13, false⟩]
theorem lv_all : allS lv1 = (lvT, 14, 0) := by decide +kernel
theorem lv_s2 : scanS lv2 0 = (⟨4, ⟨#[]⟩, 12, 5, true⟩, 7, 0) := by decide +kernel
theorem lv_s3 : scanS lv3 0 = (zeroT, 0, 80) := by decide +kernel
theorem lv_s4 : scanS lv4 1 = (zeroT, 2, 4) := by decide +kernel
theorem lv_q1 (W : World) : Calls Tryd.prog 11 #[.string ⟨#[97, 39, 98]⟩] W fun e w' => e = .returned (.string ⟨#[39, 97, 92, 39, 98, 39]⟩) ∧ Ext W w' := quote_any [97, 39, 98] W (by decide) (by decide)
theorem lv_q2 (W : World) : Calls Tryd.prog 11 #[.string ⟨#[97, 98]⟩] W fun e w' => e = .returned (.string ⟨#[97, 98]⟩) ∧ Ext W w' := quote_any [97, 98] W (by decide) (by decide)
theorem lv_p1 (W : World) : Calls Tryd.prog 13 #[.string ⟨#[43]⟩] W fun e w' => e = .returned (.bool true) ∧ Ext W w' := plain_any ⟨#[43]⟩ W
theorem lv_p2 (W : World) : Calls Tryd.prog 13 #[.string ⟨#[46]⟩] W fun e w' => e = .returned (.bool false) ∧ Ext W w' := plain_any ⟨#[46]⟩ W

/-- A text that is laid as a literal. -/
theorem lit_conv (W : World) (l : List UInt8) : (convert 22 22 (.slice (some ⟨W.heap.size, 0, none⟩) l.length l.length)).run Tryd.prog (W.alloc (.cells (l.map u8V).toArray 5)) = .ok (.slice (some ⟨W.heap.size, 0, none⟩) l.length l.length) (W.alloc (.cells (l.map u8V).toArray 5 (l.length, l.length + 1))) := by
  have := Joins.run_convert_bytes_const_at (P := Tryd.prog) W 22 5 (l.map u8V).toArray l.length l.length W.heap.size rfl Tryd.underlying22 Tryd.underlying5
  rw [show (l.map u8V).toArray.size = l.length from by simp] at this
  exact this
theorem lit_all (W : World) (g : Glob W) (l : List UInt8) (hl : l.length ≤ 1000) : Calls Tryd.prog 8 #[.slice (some ⟨W.heap.size, 0, none⟩) l.length l.length] (W.alloc (.cells (l.map u8V).toArray 5 (l.length, l.length + 1))) fun e w' => ∃ v, e = .returned (.tuple #[v, .int .i64 ((allS l).2.1 : Int), .int .i64 (allS l).2.2]) ∧ TokAt w' v (allS l).1 ∧ Ext W w' := by
  refine (pAll_any _ l.length l _ (src_mark W l _) (by omega) (Nat.le_refl _) (g.ext (ext_mark W _ _ _))).mono ?_
  rintro e w' ⟨v, rfl, h1, h2⟩
  exact ⟨v, rfl, h1, (ext_mark W _ _ _).trans h2⟩
theorem lit_scan (W : World) (g : Glob W) (l : List UInt8) (hl : l.length ≤ 1000) {i : Nat} (hi : i ≤ l.length) {t : TokV} {k : Nat} {x : Int} (hs : scanS l i = (t, k, x)) : Calls Tryd.prog 15 #[.slice (some ⟨W.heap.size, 0, none⟩) l.length l.length, .int .i64 (i : Int)] (W.alloc (.cells (l.map u8V).toArray 5 (l.length, l.length + 1))) fun e w' => e = .returned (.tuple #[.agg #[.int .i64 t.kind, .string t.s, .int .i64 t.n, .int .i64 t.at_, .bool t.lay], .int .i64 (k : Int), .int .i64 x]) ∧ Ext W w' := by
  refine (pScan_at hs _ l.length _ (src_mark W l _) hi (by omega) (Nat.le_refl _) (g.ext (ext_mark W _ _ _))).mono ?_
  rintro e w' ⟨rfl, h2⟩
  exact ⟨rfl, (ext_mark W _ _ _).trans h2⟩

/-- What is kept of the tokens that lives looks at. -/
structure LvK (w V : World) (A : Option Addr) : Prop where
  ext : Ext w V
  src : El.Src V A 7 5 (flat tokCells lvT)
theorem LvK.go {w V U : World} {A : Option Addr} (h : LvK w V A) (x : Ext V U) : LvK w U A := ⟨h.ext.trans x, h.src.ext x⟩

set_option maxRecDepth 100000 in
set_option maxHeartbeats 4000000 in
theorem lives_any (w : World) (g : Glob w) : Calls Tryd.prog 7 #[] w fun e w' => e = .returned (.bool true) ∧ Ext w w' := by
  have HG := Lib.hid g
  have hc1 : (convert 22 22 (.slice (some ⟨w.heap.size, 0, none⟩) 14 14)).run Tryd.prog (w.alloc (.cells #[.int .u8 102, .int .u8 111, .int .u8 111, .int .u8 40, .int .u8 88, .int .u8 44, .int .u8 32, .int .u8 39, .int .u8 97, .int .u8 32, .int .u8 98, .int .u8 39, .int .u8 41, .int .u8 46] 5)) = .ok (.slice (some ⟨w.heap.size, 0, none⟩) 14 14) (w.alloc (.cells #[.int .u8 102, .int .u8 111, .int .u8 111, .int .u8 40, .int .u8 88, .int .u8 44, .int .u8 32, .int .u8 39, .int .u8 97, .int .u8 32, .int .u8 98, .int .u8 39, .int .u8 41, .int .u8 46] 5 (14, 15))) := lit_conv w lv1
  have H1 : Hid (Calls Tryd.prog 8 #[.slice (some ⟨w.heap.size, 0, none⟩) 14 14] (w.alloc (.cells #[.int .u8 102, .int .u8 111, .int .u8 111, .int .u8 40, .int .u8 88, .int .u8 44, .int .u8 32, .int .u8 39, .int .u8 97, .int .u8 32, .int .u8 98, .int .u8 39, .int .u8 41, .int .u8 46] 5 (14, 15))) fun e w' => ∃ v, e = .returned (.tuple #[v, .int .i64 14, .int .i64 0]) ∧ TokAt w' v lvT ∧ Ext w w') := by
    have h := lit_all w g lv1 (by decide)
    rw [lv_all] at h
    exact h
  clear g
  go_enter Tryd.func7, Tryd.ntmps7
  go_upto_region 2 with (go_at_call 8; refine H1.out.mono ?_; rintro e W1 ⟨v, rfl, ht, hx⟩; obtain ⟨A, c, rfl, hcc, hsrc⟩ := ht; have HX1 := Lib.hid (LvK.mk hx hsrc); clear hx hsrc)
  refine wp_abs (fun V => LvK w V A) HX1.out ?_
  clear hc1 H1 HX1
  rintro V1 hV
  have HV1 := Lib.hid hV
  clear hV
  have hc2 : (convert 22 22 (.slice (some ⟨V1.heap.size, 0, none⟩) 7 7)).run Tryd.prog (V1.alloc (.cells #[.int .u8 32, .int .u8 37, .int .u8 120, .int .u8 10, .int .u8 32, .int .u8 49, .int .u8 50] 5)) = .ok (.slice (some ⟨V1.heap.size, 0, none⟩) 7 7) (V1.alloc (.cells #[.int .u8 32, .int .u8 37, .int .u8 120, .int .u8 10, .int .u8 32, .int .u8 49, .int .u8 50] 5 (7, 8))) := lit_conv V1 lv2
  have H2 : Hid (Calls Tryd.prog 15 #[.slice (some ⟨V1.heap.size, 0, none⟩) 7 7, .int .i64 0] (V1.alloc (.cells #[.int .u8 32, .int .u8 37, .int .u8 120, .int .u8 10, .int .u8 32, .int .u8 49, .int .u8 50] 5 (7, 8))) fun e w' => e = .returned (.tuple #[.agg #[.int .i64 4, .string ⟨#[]⟩, .int .i64 12, .int .i64 5, .bool true], .int .i64 7, .int .i64 0]) ∧ Ext V1 w') := lit_scan V1 (HG.out.ext HV1.out.ext) lv2 (by decide) (by decide) lv_s2
  go_upto_region 3 with (go_at_call 15; refine H2.out.mono ?_; rintro e W2 ⟨rfl, hx⟩; have HX2 := Lib.hid (HV1.out.go hx); clear hx)
  refine wp_abs (fun V => LvK w V A ∧ Blk V W2.heap.size 30 #[.int .i64 4, .string ⟨#[]⟩, .int .i64 12, .int .i64 5, .bool true]) ⟨HX2.out.go (ext_box _ _), Blk.new _ _ _⟩ ?_
  clear hc2 H2 HX2
  rintro V2 ⟨hV, hB⟩
  have HV2 := Lib.hid hV
  have HB2 := Lib.hid hB
  clear hV hB
  have hc3 : (convert 22 22 (.slice (some ⟨V2.heap.size, 0, none⟩) 3 3)).run Tryd.prog (V2.alloc (.cells #[.int .u8 47, .int .u8 42, .int .u8 32] 5)) = .ok (.slice (some ⟨V2.heap.size, 0, none⟩) 3 3) (V2.alloc (.cells #[.int .u8 47, .int .u8 42, .int .u8 32] 5 (3, 4))) := lit_conv V2 lv3
  have H3 : Hid (Calls Tryd.prog 15 #[.slice (some ⟨V2.heap.size, 0, none⟩) 3 3, .int .i64 0] (V2.alloc (.cells #[.int .u8 47, .int .u8 42, .int .u8 32] 5 (3, 4))) fun e w' => e = .returned (.tuple #[.agg #[.int .i64 0, .string ⟨#[]⟩, .int .i64 0, .int .i64 0, .bool false], .int .i64 0, .int .i64 80]) ∧ Ext V2 w') := lit_scan V2 (HG.out.ext HV2.out.ext) lv3 (by decide) (by decide) lv_s3
  go_upto_region 4 with (go_at_call 15; refine H3.out.mono ?_; rintro e W3 ⟨rfl, hx⟩; have HX3 := Lib.hid hx; clear hx)
  refine wp_abs (fun V => LvK w V A ∧ Blk V W2.heap.size 30 #[.int .i64 4, .string ⟨#[]⟩, .int .i64 12, .int .i64 5, .bool true]) ⟨(HV2.out.go HX3.out).go (ext_box _ _), (HB2.out.ext HX3.out).ext (ext_box _ _)⟩ ?_
  clear hc3 H3 HX3 HV2 HB2
  rintro V3 ⟨hV, hB⟩
  have HV3 := Lib.hid hV
  have HB3 := Lib.hid hB
  clear hV hB
  have hc4 : (convert 22 22 (.slice (some ⟨V3.heap.size, 0, none⟩) 2 2)).run Tryd.prog (V3.alloc (.cells #[.int .u8 32, .int .u8 32] 5)) = .ok (.slice (some ⟨V3.heap.size, 0, none⟩) 2 2) (V3.alloc (.cells #[.int .u8 32, .int .u8 32] 5 (2, 3))) := lit_conv V3 lv4
  have H4 : Hid (Calls Tryd.prog 15 #[.slice (some ⟨V3.heap.size, 0, none⟩) 2 2, .int .i64 1] (V3.alloc (.cells #[.int .u8 32, .int .u8 32] 5 (2, 3))) fun e w' => e = .returned (.tuple #[.agg #[.int .i64 0, .string ⟨#[]⟩, .int .i64 0, .int .i64 0, .bool false], .int .i64 2, .int .i64 4]) ∧ Ext V3 w') := lit_scan V3 (HG.out.ext HV3.out.ext) lv4 (by decide) (by decide) lv_s4
  go_upto_region 5 with (go_at_call 15; refine H4.out.mono ?_; rintro e W4 ⟨rfl, hx⟩; have HX4 := Lib.hid hx; clear hx)
  refine wp_abs (fun V => LvK w V A ∧ Blk V W2.heap.size 30 #[.int .i64 4, .string ⟨#[]⟩, .int .i64 12, .int .i64 5, .bool true]) ⟨(HV3.out.go HX4.out).go (ext_box _ _), (HB3.out.ext HX4.out).ext (ext_box _ _)⟩ ?_
  clear hc4 H4 HX4 HV3 HB3
  rintro V4 ⟨hV, hB⟩
  obtain ⟨b, off, rfl, hcl⟩ := El.Src.form hV.src (by omega) (by omega)
  have e1 : V4.cell? ⟨b, off + 21, none⟩ = some (.string ⟨#[97, 32, 98]⟩) := hcl 21 _ rfl
  have e2 : V4.cell? ⟨b, off + 24, none⟩ = some (.bool true) := hcl 24 _ rfl
  have e3 : V4.cell? ⟨b, off + 9, none⟩ = some (.bool false) := hcl 9 _ rfl
  have t0 : V4.cell? ⟨W2.heap.size, 0, none⟩ = some (.int .i64 4) := hB.cell 0
  have t1 : V4.cell? ⟨W2.heap.size, 1, none⟩ = some (.string ⟨#[]⟩) := hB.cell 1
  have t2 : V4.cell? ⟨W2.heap.size, 2, none⟩ = some (.int .i64 12) := hB.cell 2
  have t3 : V4.cell? ⟨W2.heap.size, 3, none⟩ = some (.int .i64 5) := hB.cell 3
  have t4 : V4.cell? ⟨W2.heap.size, 4, none⟩ = some (.bool true) := hB.cell 4
  have HV4 := Lib.hid hV.ext
  clear hV hB hcl
  have Q1 := fun W => Lib.hid (lv_q1 W)
  have Q2 := fun W => Lib.hid (lv_q2 W)
  have P1 := fun W => Lib.hid (lv_p1 W)
  have P2 := fun W => Lib.hid (lv_p2 W)
  go_wp2_with (first | (go_at_call 11; refine (Q1 _).out.mono ?_; clear Q1; rintro e U1 ⟨rfl, hx⟩; have HU1 := Lib.hid hx; clear hx) | (go_at_call 11; refine (Q2 _).out.mono ?_; clear Q2; rintro e U2 ⟨rfl, hx⟩; have HU2 := Lib.hid hx; clear hx) | (go_at_call 13; refine (P1 _).out.mono ?_; clear P1; rintro e U3 ⟨rfl, hx⟩; have HU3 := Lib.hid hx; clear hx) | (go_at_call 13; refine (P2 _).out.mono ?_; clear P2; rintro e U4 ⟨rfl, hx⟩; have HU4 := Lib.hid hx; clear hx))
  go_ret
  exact ⟨rfl, (((HV4.out.trans HU1.out).trans HU2.out).trans HU3.out).trans HU4.out⟩

end Go.Proofs.YtgjdajkkncdhmaaDoor
