/- Layer 9, the reference: the one statement of All that lays an operator into the row. -/
import Derived.Test.YtckkbghmiomfiaaDoorROper9a
namespace Go.Proofs.YtckkbghmiomfiaaDoor
open Go.RowKit Go.El Go.Proofs

/-- A region of a code, by its number. -/
def regionOf (n : Nat) : Code → Option Code
  | .region id ops b => if id = n then some (.region id ops b) else none
  | .loop c => regionOf n c
  | .seq a b => match regionOf n a with
    | some c => some c
    | none => regionOf n b
  | .block _ c => regionOf n c
  | .scope c => regionOf n c
  | .cond _ a b => match regionOf n a with
    | some c => some c
    | none => regionOf n b
  | _ => none
noncomputable def reg8 : Code := (Tryd.f13.body.bind (regionOf 8)).getD .skip

set_option maxRecDepth 100000 in
set_option maxHeartbeats 4000000 in
theorem reg8_in (rb g k n0 c0 : Nat) (x : OpV) (O : List OpV) (g2 c2 q : Nat) (hlc : O.length ≤ c2) (hck : c2 ≠ q) (hp : posO x O = q) (wc : World) (Kx : Exit → Act → World → Prop) (c1 c2x c6 c7 c8 c9 c10 c11 c12 c13 c14 c15 c16 c17 c18 c19 c20 c21 c22 c23 c24 c25 c26 c27 c28 c29 c30 c31 c32 c33 c34 c53 u35 u36 u37 u38 u39 u40 u41 u42 u43 u44 u45 u46 u47 u48 u49 u50 u51 u52 : Value)
    (hk : k < n0) (hOl : O.length ≤ 1000) (hpl : q ≤ O.length) (q0 : wc.cell? ⟨rb, 0, none⟩ = some (.slice (some ⟨g, 0, none⟩) n0 c0)) (Q0 : wc.cell? ⟨g, k * 3, none⟩ = some (.int .i64 x.p)) (Q1 : wc.cell? ⟨g, k * 3 + 1, none⟩ = some (.int .i64 x.t)) (Q2 : wc.cell? ⟨g, k * 3 + 2, none⟩ = some (.string x.s))
    (hsv : El.Src wc (some ⟨g2, 0, none⟩) O.length 3 (flat opCells O))
    (hK : ∀ (y35 y36 y37 y38 y39 y40 y41 y42 y43 y44 y45 y46 y47 y48 y49 y50 y51 y52 z : Value) (w5 : World), w5.ownsRow 0 32 3 z (insO x O).length (flat opCells (insO x O)) → (∀ b, z.ownBlock = some b → wc.heap.size ≤ b) → Ext wc w5 → Kx .normal ⟨#[.pointer (some ⟨rb, 0, none⟩), c1, c2x, z, .int .i64 ((k : Nat) : Int), .int .i64 ((q : Nat) : Int), c6, c7, c8, c9, c10, c11, c12, c13, c14, c15, c16, c17, c18, c19, c20, c21, c22, c23, c24, c25, c26, c27, c28, c29, c30, c31, c32, c33, c34, y35, y36, y37, y38, y39, y40, y41, y42, y43, y44, y45, y46, y47, y48, y49, y50, y51, y52, c53], []⟩ w5) :
    Code.wp Tryd.prog reg8 Kx ⟨#[.pointer (some ⟨rb, 0, none⟩), c1, c2x, .slice (some ⟨g2, 0, none⟩) O.length c2, .int .i64 ((k : Nat) : Int), .int .i64 ((q : Nat) : Int), c6, c7, c8, c9, c10, c11, c12, c13, c14, c15, c16, c17, c18, c19, c20, c21, c22, c23, c24, c25, c26, c27, c28, c29, c30, c31, c32, c33, c34, u35, u36, u37, u38, u39, u40, u41, u42, u43, u44, u45, u46, u47, u48, u49, u50, u51, u52, c53], []⟩ wc := by
  obtain ⟨i0, hi0, hz0, hz1, hz2⟩ := info_parts opInfo
  have h03 : 0 < 3 := by omega
  have hml : (0 : Nat) ≤ maxLen := by unfold maxLen; omega
  have hb1 : 0 + q ≤ maxLen := by unfold maxLen; omega
  have hb2 : (0 + q) * 32 ≤ 140737488355328 := by omega
  have hb3 : 0 + q + 1 ≤ maxLen := by unfold maxLen; omega
  have hb4 : (0 + q + 1) * 32 ≤ 140737488355328 := by omega
  have hb5 : 0 + q + 1 + (O.length - q) ≤ maxLen := by unfold maxLen; omega
  have hb6 : (0 + q + 1 + (O.length - q)) * 32 ≤ 140737488355328 := by omega
  have hqc : q ≤ c2 := by omega
  have hrb : rb < wc.heap.size := cell_lt q0
  have hgl : g < wc.heap.size := cell_lt Q0
  have HP := Lib.hid hp
  clear hp
  have ho1 : ((wc.alloc (.cells #[] 32)).drew).ownsRow 0 32 3 (.slice (some ⟨wc.heap.size, 0, none⟩) 0 0) 0 [] := World.ownsRow.drew (World.ownsRow_made wc #[] 0 (Nat.zero_le _) hml rfl)
  have ho2 : (((wc.alloc (.cells #[] 32)).alloc (.cells #[.int .i64 x.p, .int .i64 x.t, .string x.s] 32)).drew).ownsRow 0 32 3 (.slice (some ⟨wc.heap.size, 0, none⟩) 0 0) 0 [] := World.ownsRow.drew (World.ownsRow.alloc (World.ownsRow_made wc #[] 0 (Nat.zero_le _) hml rfl) _)
  have hs2 : El.Src (((wc.alloc (.cells #[] 32)).alloc (.cells #[.int .i64 x.p, .int .i64 x.t, .string x.s] 32)).drew) (some ⟨wc.heap.size + 1, 0, none⟩) 1 3 (opCells x) := by
    have := (El.Src.new (wc.alloc (.cells #[] 32)) #[.int .i64 x.p, .int .i64 x.t, .string x.s] 32 1 3 rfl).ext ((Ext.refl _).drew)
    simpa [opCells] using this
  have hs3 : El.Src (((wc.alloc (.cells #[.int .i64 x.p, .int .i64 x.t, .string x.s] 32)).alloc (.cells #[] 32)).drew) (some ⟨wc.heap.size, 0, none⟩) 1 3 (opCells x) := (El.Src.new wc #[.int .i64 x.p, .int .i64 x.t, .string x.s] 32 1 3 rfl).ext ((ext_box _ _).drew)
  have ho3 : (((wc.alloc (.cells #[.int .i64 x.p, .int .i64 x.t, .string x.s] 32)).alloc (.cells #[] 32)).drew).ownsRow 0 32 3 (.slice (some ⟨wc.heap.size + 1, 0, none⟩) 0 0) 0 [] := by
    have := World.ownsRow_made (e := 32) (size := 3) (wc.alloc (.cells #[.int .i64 x.p, .int .i64 x.t, .string x.s] 32)) #[] 0 (Nat.zero_le _) hml rfl
    rw [World.size_alloc] at this
    exact World.ownsRow.drew this
  have HOA := Lib.hid ho1
  have HOB := Lib.hid ho2
  have HSB := Lib.hid hs2
  have HSC := Lib.hid hs3
  have HOC := Lib.hid ho3
  have HWA := Lib.hid (((Ext.refl wc).alloc (.cells #[] 32)).drew)
  have HWB := Lib.hid ((((Ext.refl wc).alloc (.cells #[] 32)).alloc (.cells #[.int .i64 x.p, .int .i64 x.t, .string x.s] 32)).drew)
  have HWC := Lib.hid ((((Ext.refl wc).alloc (.cells #[.int .i64 x.p, .int .i64 x.t, .string x.s] 32)).alloc (.cells #[] 32)).drew)
  clear ho1 ho2 hs2 hs3 ho3
  have hS0 := all3_keep (w0 := wc) (rb := rb) (v := .slice (some ⟨g, 0, none⟩) n0 c0) (g := g) (f := k * 3) (x := x) (Ext.refl wc) ⟨q0, Q0, Q1, Q2, Ext.refl wc⟩
  have hS1 := all3_keep ((Ext.refl wc).drew) hS0

  have HSV := Lib.hid hsv
  have HK := Lib.hid hK
  clear hsv hK
  conv => arg 2; whnf
  go_region_held3 (fun w' => w'.cell? ⟨rb, 0, none⟩ = some (.slice (some ⟨g, 0, none⟩) n0 c0) ∧ w'.cell? ⟨g, k * 3, none⟩ = some (.int .i64 x.p) ∧ w'.cell? ⟨g, k * 3 + 1, none⟩ = some (.int .i64 x.t) ∧ w'.cell? ⟨g, k * 3 + 2, none⟩ = some (.string x.s) ∧ Hid (Ext wc w'))
    (first | assumption | (exact all3_keep (by assumption) (by assumption)) | (exact all3_keep (ext_box _ _) (by assumption)) | (exact all3_keep ((Ext.refl _).drew) (by assumption)))
    (first | (with_reducible refine at_world ((wc.alloc (.cells #[] 32)).drew) ?_; refine step_append_src (P := Tryd.prog) (w := _) rfl (.tmp 35) (.tmp 38) 29 rfl 32 i0 _ 3 32 Tryd.underlying29 hi0 hz0 hz1 hz2 rfl h03 (.slice (some ⟨wc.heap.size, 0, none⟩) 0 0) rfl (some ⟨g2, 0, none⟩) q c2 rfl 0 [] HOA.out ((flat opCells O).take (q * 3)) ((HSV.out.ext HWA.out).take hpl) (fun u hu => flat_one opCells_one O u (List.mem_of_mem_take hu)) hb1 hb2 ?_; intro v3 w3 ho3 hm3 hb3x; have hx3 : Ext wc w3 := ext_mods HWA.out hm3 (fun k hk => base_le (mem_ownL hk)); have HO3 := Lib.hid ho3; have HM3 := Lib.hid hx3; have HV3 := Lib.hid (own_then (v := .slice (some ⟨wc.heap.size, 0, none⟩) 0 0) (B := wc.heap.size) (fun b hb => base_le hb) HWA.out.size hb3x); clear ho3 hm3 hb3x) | (with_reducible refine at_world (((wc.alloc (.cells #[] 32)).alloc (.cells #[.int .i64 x.p, .int .i64 x.t, .string x.s] 32)).drew) ?_; refine step_append_src (P := Tryd.prog) (w := _) rfl (.tmp 35) (.tmp 38) 29 rfl 32 i0 _ 3 32 Tryd.underlying29 hi0 hz0 hz1 hz2 rfl h03 (.slice (some ⟨wc.heap.size, 0, none⟩) 0 0) rfl (some ⟨g2, 0, none⟩) q c2 rfl 0 [] HOB.out ((flat opCells O).take (q * 3)) ((HSV.out.ext HWB.out).take hpl) (fun u hu => flat_one opCells_one O u (List.mem_of_mem_take hu)) hb1 hb2 ?_; intro v3 w3 ho3 hm3 hb3x; have hx3 : Ext wc w3 := ext_mods HWB.out hm3 (fun k hk => base_le (mem_ownL hk)); have HO3 := Lib.hid ho3; have HM3 := Lib.hid hx3; have HV3 := Lib.hid (own_then (v := .slice (some ⟨wc.heap.size, 0, none⟩) 0 0) (B := wc.heap.size) (fun b hb => base_le hb) HWB.out.size hb3x); have HXS := Lib.hid (HSB.out.mods hm3 (fun a ha hm => by injection ha with ha; subst ha; have hz := mem_ownL hm; simp [Value.ownBlock] at hz)); clear ho3 hm3 hb3x) | (with_reducible refine at_world (((wc.alloc (.cells #[.int .i64 x.p, .int .i64 x.t, .string x.s] 32)).alloc (.cells #[] 32)).drew) ?_; refine step_append_src (P := Tryd.prog) (w := _) rfl (.tmp 35) (.tmp 38) 29 rfl 32 i0 _ 3 32 Tryd.underlying29 hi0 hz0 hz1 hz2 rfl h03 (.slice (some ⟨wc.heap.size + 1, 0, none⟩) 0 0) rfl (some ⟨g2, 0, none⟩) q c2 rfl 0 [] HOC.out ((flat opCells O).take (q * 3)) ((HSV.out.ext HWC.out).take hpl) (fun u hu => flat_one opCells_one O u (List.mem_of_mem_take hu)) hb1 hb2 ?_; intro v3 w3 ho3 hm3 hb3x; have hx3 : Ext wc w3 := ext_mods HWC.out hm3 (fun k hk => base_le (mem_ownL hk)); have HO3 := Lib.hid ho3; have HM3 := Lib.hid hx3; have HV3 := Lib.hid (own_then (v := .slice (some ⟨wc.heap.size + 1, 0, none⟩) 0 0) (B := wc.heap.size) (fun b hb => base_le hb) HWC.out.size hb3x); have HXS := Lib.hid (HSC.out.mods hm3 (fun a ha hm => by injection ha with ha; subst ha; have hz := mem_ownL hm; simp [Value.ownBlock] at hz)); clear ho3 hm3 hb3x) | (with_reducible refine at_world (w3.alloc (.cells #[.int .i64 x.p, .int .i64 x.t, .string x.s] 32)) ?_; refine step_append_src (P := Tryd.prog) (w := _) rfl (.tmp 39) (.tmp 47) 29 rfl 32 i0 _ 3 32 Tryd.underlying29 hi0 hz0 hz1 hz2 rfl h03 v3 rfl (some ⟨w3.heap.size, 0, none⟩) 1 1 rfl _ _ (own_ext HO3.out (ext_box _ _)) (opCells x) (El.Src.new _ #[.int .i64 x.p, .int .i64 x.t, .string x.s] _ 1 3 rfl) (opCells_one _) hb3 hb4 ?_; intro v4 w4 ho4 hm4 hb4x; have hx4 := ext_mods (HM3.out.trans (ext_box _ _)) hm4 (fun x hx => HV3.out x (mem_ownL hx)); have HO4 := Lib.hid ho4; have HM4 := Lib.hid hx4; have HV4 := Lib.hid (own_then HV3.out (Nat.le_trans HM3.out.size (ext_box _ _).size) hb4x); clear ho4 hm4 hb4x) | (with_reducible refine at_world w3 ?_; refine step_append_src (P := Tryd.prog) (w := _) rfl (.tmp 39) (.tmp 47) 29 rfl 32 i0 _ 3 32 Tryd.underlying29 hi0 hz0 hz1 hz2 rfl h03 v3 rfl _ 1 1 rfl _ _ HO3.out (opCells x) HXS.out (opCells_one _) hb3 hb4 ?_; intro v4 w4 ho4 hm4 hb4x; have hx4 := ext_mods HM3.out hm4 (fun x hx => HV3.out x (mem_ownL hx)); have HO4 := Lib.hid ho4; have HM4 := Lib.hid hx4; have HV4 := Lib.hid (own_then HV3.out HM3.out.size hb4x); clear ho4 hm4 hb4x) | (with_reducible refine at_world w4 ?_; refine step_append_src (P := Tryd.prog) (w := _) rfl (.tmp 48) (.tmp 51) 29 rfl 32 i0 _ 3 32 Tryd.underlying29 hi0 hz0 hz1 hz2 rfl h03 v4 rfl (some ⟨g2, q * 3, none⟩) (O.length - q) (c2 - q) rfl _ _ HO4.out ((flat opCells O).drop (q * 3)) ((src_drop HSV.out hpl).ext HM4.out) (fun u hu => flat_one opCells_one O u (List.mem_of_mem_drop hu)) hb5 hb6 ?_; intro v5 w5 ho5 hm5 hb5x; have hx5 := ext_mods HM4.out hm5 (fun x hx => HV4.out x (mem_ownL hx)); have HO5 := Lib.hid ho5; have HM5 := Lib.hid hx5; have HV5 := Lib.hid (own_then HV4.out HM4.out.size hb5x); clear ho5 hm5 hb5x))
  all_goals
    exact HK.out _ _ _ _ _ _ _ _ _ _ _ _ _ _ _ _ _ _ _ _ (own_ins HO5.out hpl HP.out) HV5.out HM5.out

set_option maxRecDepth 100000 in
set_option maxHeartbeats 4000000 in
theorem reg8_end (rb g k n0 c0 : Nat) (x : OpV) (O : List OpV) (g2 : Nat) (hp : posO x O = O.length) (wc : World) (Kx : Exit → Act → World → Prop) (c1 c2x c6 c7 c8 c9 c10 c11 c12 c13 c14 c15 c16 c17 c18 c19 c20 c21 c22 c23 c24 c25 c26 c27 c28 c29 c30 c31 c32 c33 c34 c53 u35 u36 u37 u38 u39 u40 u41 u42 u43 u44 u45 u46 u47 u48 u49 u50 u51 u52 : Value)
    (hk : k < n0) (hOl : O.length ≤ 1000) (hpl : O.length ≤ O.length) (q0 : wc.cell? ⟨rb, 0, none⟩ = some (.slice (some ⟨g, 0, none⟩) n0 c0)) (Q0 : wc.cell? ⟨g, k * 3, none⟩ = some (.int .i64 x.p)) (Q1 : wc.cell? ⟨g, k * 3 + 1, none⟩ = some (.int .i64 x.t)) (Q2 : wc.cell? ⟨g, k * 3 + 2, none⟩ = some (.string x.s))
    (hsv : El.Src wc (some ⟨g2, 0, none⟩) O.length 3 (flat opCells O))
    (hK : ∀ (y35 y36 y37 y38 y39 y40 y41 y42 y43 y44 y45 y46 y47 y48 y49 y50 y51 y52 z : Value) (w5 : World), w5.ownsRow 0 32 3 z (insO x O).length (flat opCells (insO x O)) → (∀ b, z.ownBlock = some b → wc.heap.size ≤ b) → Ext wc w5 → Kx .normal ⟨#[.pointer (some ⟨rb, 0, none⟩), c1, c2x, z, .int .i64 ((k : Nat) : Int), .int .i64 ((O.length : Nat) : Int), c6, c7, c8, c9, c10, c11, c12, c13, c14, c15, c16, c17, c18, c19, c20, c21, c22, c23, c24, c25, c26, c27, c28, c29, c30, c31, c32, c33, c34, y35, y36, y37, y38, y39, y40, y41, y42, y43, y44, y45, y46, y47, y48, y49, y50, y51, y52, c53], []⟩ w5) :
    Code.wp Tryd.prog reg8 Kx ⟨#[.pointer (some ⟨rb, 0, none⟩), c1, c2x, .slice (some ⟨g2, 0, none⟩) O.length O.length, .int .i64 ((k : Nat) : Int), .int .i64 ((O.length : Nat) : Int), c6, c7, c8, c9, c10, c11, c12, c13, c14, c15, c16, c17, c18, c19, c20, c21, c22, c23, c24, c25, c26, c27, c28, c29, c30, c31, c32, c33, c34, u35, u36, u37, u38, u39, u40, u41, u42, u43, u44, u45, u46, u47, u48, u49, u50, u51, u52, c53], []⟩ wc := by
  obtain ⟨i0, hi0, hz0, hz1, hz2⟩ := info_parts opInfo
  have h03 : 0 < 3 := by omega
  have hml : (0 : Nat) ≤ maxLen := by unfold maxLen; omega
  have hb1 : 0 + O.length ≤ maxLen := by unfold maxLen; omega
  have hb2 : (0 + O.length) * 32 ≤ 140737488355328 := by omega
  have hb3 : 0 + O.length + 1 ≤ maxLen := by unfold maxLen; omega
  have hb4 : (0 + O.length + 1) * 32 ≤ 140737488355328 := by omega
  have hb7 : 0 + O.length + 1 + 0 ≤ maxLen := by unfold maxLen; omega
  have hb8 : (0 + O.length + 1 + 0) * 32 ≤ 140737488355328 := by omega
  have hrb : rb < wc.heap.size := cell_lt q0
  have hgl : g < wc.heap.size := cell_lt Q0
  have HP := Lib.hid hp
  clear hp
  have ho1 : ((wc.alloc (.cells #[] 32)).drew).ownsRow 0 32 3 (.slice (some ⟨wc.heap.size, 0, none⟩) 0 0) 0 [] := World.ownsRow.drew (World.ownsRow_made wc #[] 0 (Nat.zero_le _) hml rfl)
  have ho2 : (((wc.alloc (.cells #[] 32)).alloc (.cells #[.int .i64 x.p, .int .i64 x.t, .string x.s] 32)).drew).ownsRow 0 32 3 (.slice (some ⟨wc.heap.size, 0, none⟩) 0 0) 0 [] := World.ownsRow.drew (World.ownsRow.alloc (World.ownsRow_made wc #[] 0 (Nat.zero_le _) hml rfl) _)
  have hs2 : El.Src (((wc.alloc (.cells #[] 32)).alloc (.cells #[.int .i64 x.p, .int .i64 x.t, .string x.s] 32)).drew) (some ⟨wc.heap.size + 1, 0, none⟩) 1 3 (opCells x) := by
    have := (El.Src.new (wc.alloc (.cells #[] 32)) #[.int .i64 x.p, .int .i64 x.t, .string x.s] 32 1 3 rfl).ext ((Ext.refl _).drew)
    simpa [opCells] using this
  have hs3 : El.Src (((wc.alloc (.cells #[.int .i64 x.p, .int .i64 x.t, .string x.s] 32)).alloc (.cells #[] 32)).drew) (some ⟨wc.heap.size, 0, none⟩) 1 3 (opCells x) := (El.Src.new wc #[.int .i64 x.p, .int .i64 x.t, .string x.s] 32 1 3 rfl).ext ((ext_box _ _).drew)
  have ho3 : (((wc.alloc (.cells #[.int .i64 x.p, .int .i64 x.t, .string x.s] 32)).alloc (.cells #[] 32)).drew).ownsRow 0 32 3 (.slice (some ⟨wc.heap.size + 1, 0, none⟩) 0 0) 0 [] := by
    have := World.ownsRow_made (e := 32) (size := 3) (wc.alloc (.cells #[.int .i64 x.p, .int .i64 x.t, .string x.s] 32)) #[] 0 (Nat.zero_le _) hml rfl
    rw [World.size_alloc] at this
    exact World.ownsRow.drew this
  have HOA := Lib.hid ho1
  have HOB := Lib.hid ho2
  have HSB := Lib.hid hs2
  have HSC := Lib.hid hs3
  have HOC := Lib.hid ho3
  have HWA := Lib.hid (((Ext.refl wc).alloc (.cells #[] 32)).drew)
  have HWB := Lib.hid ((((Ext.refl wc).alloc (.cells #[] 32)).alloc (.cells #[.int .i64 x.p, .int .i64 x.t, .string x.s] 32)).drew)
  have HWC := Lib.hid ((((Ext.refl wc).alloc (.cells #[.int .i64 x.p, .int .i64 x.t, .string x.s] 32)).alloc (.cells #[] 32)).drew)
  clear ho1 ho2 hs2 hs3 ho3
  have hS0 := all3_keep (w0 := wc) (rb := rb) (v := .slice (some ⟨g, 0, none⟩) n0 c0) (g := g) (f := k * 3) (x := x) (Ext.refl wc) ⟨q0, Q0, Q1, Q2, Ext.refl wc⟩
  have hS1 := all3_keep ((Ext.refl wc).drew) hS0

  have HSV := Lib.hid hsv
  have HK := Lib.hid hK
  clear hsv hK
  conv => arg 2; whnf
  go_region_held3 (fun w' => w'.cell? ⟨rb, 0, none⟩ = some (.slice (some ⟨g, 0, none⟩) n0 c0) ∧ w'.cell? ⟨g, k * 3, none⟩ = some (.int .i64 x.p) ∧ w'.cell? ⟨g, k * 3 + 1, none⟩ = some (.int .i64 x.t) ∧ w'.cell? ⟨g, k * 3 + 2, none⟩ = some (.string x.s) ∧ Hid (Ext wc w'))
    (first | assumption | (exact all3_keep (by assumption) (by assumption)) | (exact all3_keep (ext_box _ _) (by assumption)) | (exact all3_keep ((Ext.refl _).drew) (by assumption)))
    (first | (with_reducible refine at_world ((wc.alloc (.cells #[] 32)).drew) ?_; refine step_append_src (P := Tryd.prog) (w := _) rfl (.tmp 35) (.tmp 38) 29 rfl 32 i0 _ 3 32 Tryd.underlying29 hi0 hz0 hz1 hz2 rfl h03 (.slice (some ⟨wc.heap.size, 0, none⟩) 0 0) rfl (some ⟨g2, 0, none⟩) O.length O.length rfl 0 [] HOA.out ((flat opCells O).take (O.length * 3)) ((HSV.out.ext HWA.out).take hpl) (fun u hu => flat_one opCells_one O u (List.mem_of_mem_take hu)) hb1 hb2 ?_; intro v3 w3 ho3 hm3 hb3x; have hx3 : Ext wc w3 := ext_mods HWA.out hm3 (fun k hk => base_le (mem_ownL hk)); have HO3 := Lib.hid ho3; have HM3 := Lib.hid hx3; have HV3 := Lib.hid (own_then (v := .slice (some ⟨wc.heap.size, 0, none⟩) 0 0) (B := wc.heap.size) (fun b hb => base_le hb) HWA.out.size hb3x); clear ho3 hm3 hb3x) | (with_reducible refine at_world (((wc.alloc (.cells #[] 32)).alloc (.cells #[.int .i64 x.p, .int .i64 x.t, .string x.s] 32)).drew) ?_; refine step_append_src (P := Tryd.prog) (w := _) rfl (.tmp 35) (.tmp 38) 29 rfl 32 i0 _ 3 32 Tryd.underlying29 hi0 hz0 hz1 hz2 rfl h03 (.slice (some ⟨wc.heap.size, 0, none⟩) 0 0) rfl (some ⟨g2, 0, none⟩) O.length O.length rfl 0 [] HOB.out ((flat opCells O).take (O.length * 3)) ((HSV.out.ext HWB.out).take hpl) (fun u hu => flat_one opCells_one O u (List.mem_of_mem_take hu)) hb1 hb2 ?_; intro v3 w3 ho3 hm3 hb3x; have hx3 : Ext wc w3 := ext_mods HWB.out hm3 (fun k hk => base_le (mem_ownL hk)); have HO3 := Lib.hid ho3; have HM3 := Lib.hid hx3; have HV3 := Lib.hid (own_then (v := .slice (some ⟨wc.heap.size, 0, none⟩) 0 0) (B := wc.heap.size) (fun b hb => base_le hb) HWB.out.size hb3x); have HXS := Lib.hid (HSB.out.mods hm3 (fun a ha hm => by injection ha with ha; subst ha; have hz := mem_ownL hm; simp [Value.ownBlock] at hz)); clear ho3 hm3 hb3x) | (with_reducible refine at_world (((wc.alloc (.cells #[.int .i64 x.p, .int .i64 x.t, .string x.s] 32)).alloc (.cells #[] 32)).drew) ?_; refine step_append_src (P := Tryd.prog) (w := _) rfl (.tmp 35) (.tmp 38) 29 rfl 32 i0 _ 3 32 Tryd.underlying29 hi0 hz0 hz1 hz2 rfl h03 (.slice (some ⟨wc.heap.size + 1, 0, none⟩) 0 0) rfl (some ⟨g2, 0, none⟩) O.length O.length rfl 0 [] HOC.out ((flat opCells O).take (O.length * 3)) ((HSV.out.ext HWC.out).take hpl) (fun u hu => flat_one opCells_one O u (List.mem_of_mem_take hu)) hb1 hb2 ?_; intro v3 w3 ho3 hm3 hb3x; have hx3 : Ext wc w3 := ext_mods HWC.out hm3 (fun k hk => base_le (mem_ownL hk)); have HO3 := Lib.hid ho3; have HM3 := Lib.hid hx3; have HV3 := Lib.hid (own_then (v := .slice (some ⟨wc.heap.size + 1, 0, none⟩) 0 0) (B := wc.heap.size) (fun b hb => base_le hb) HWC.out.size hb3x); have HXS := Lib.hid (HSC.out.mods hm3 (fun a ha hm => by injection ha with ha; subst ha; have hz := mem_ownL hm; simp [Value.ownBlock] at hz)); clear ho3 hm3 hb3x) | (with_reducible refine at_world (w3.alloc (.cells #[.int .i64 x.p, .int .i64 x.t, .string x.s] 32)) ?_; refine step_append_src (P := Tryd.prog) (w := _) rfl (.tmp 39) (.tmp 47) 29 rfl 32 i0 _ 3 32 Tryd.underlying29 hi0 hz0 hz1 hz2 rfl h03 v3 rfl (some ⟨w3.heap.size, 0, none⟩) 1 1 rfl _ _ (own_ext HO3.out (ext_box _ _)) (opCells x) (El.Src.new _ #[.int .i64 x.p, .int .i64 x.t, .string x.s] _ 1 3 rfl) (opCells_one _) hb3 hb4 ?_; intro v4 w4 ho4 hm4 hb4x; have hx4 := ext_mods (HM3.out.trans (ext_box _ _)) hm4 (fun x hx => HV3.out x (mem_ownL hx)); have HO4 := Lib.hid ho4; have HM4 := Lib.hid hx4; have HV4 := Lib.hid (own_then HV3.out (Nat.le_trans HM3.out.size (ext_box _ _).size) hb4x); clear ho4 hm4 hb4x) | (with_reducible refine at_world w3 ?_; refine step_append_src (P := Tryd.prog) (w := _) rfl (.tmp 39) (.tmp 47) 29 rfl 32 i0 _ 3 32 Tryd.underlying29 hi0 hz0 hz1 hz2 rfl h03 v3 rfl _ 1 1 rfl _ _ HO3.out (opCells x) HXS.out (opCells_one _) hb3 hb4 ?_; intro v4 w4 ho4 hm4 hb4x; have hx4 := ext_mods HM3.out hm4 (fun x hx => HV3.out x (mem_ownL hx)); have HO4 := Lib.hid ho4; have HM4 := Lib.hid hx4; have HV4 := Lib.hid (own_then HV3.out HM3.out.size hb4x); clear ho4 hm4 hb4x) | (with_reducible refine at_world w4 ?_; refine step_append_src (P := Tryd.prog) (w := _) rfl (.tmp 48) (.tmp 51) 29 rfl 32 i0 _ 3 32 Tryd.underlying29 hi0 hz0 hz1 hz2 rfl h03 v4 rfl (some ⟨g2, 0, none⟩) 0 _ rfl _ _ HO4.out [] (El.Src.none _ _ _) (by simp) hb7 hb8 ?_; intro v5 w5 ho5 hm5 hb5x; have hx5 := ext_mods HM4.out hm5 (fun x hx => HV4.out x (mem_ownL hx)); have HO5 := Lib.hid ho5; have HM5 := Lib.hid hx5; have HV5 := Lib.hid (own_then HV4.out HM4.out.size hb5x); clear ho5 hm5 hb5x))
  all_goals
    exact HK.out _ _ _ _ _ _ _ _ _ _ _ _ _ _ _ _ _ _ _ _ (own_ins1 HO5.out HP.out) HV5.out HM5.out

set_option maxRecDepth 100000 in
set_option maxHeartbeats 4000000 in
theorem reg8_nil (rb g k n0 c0 : Nat) (x : OpV) (wc : World) (Kx : Exit → Act → World → Prop) (c1 c2x c6 c7 c8 c9 c10 c11 c12 c13 c14 c15 c16 c17 c18 c19 c20 c21 c22 c23 c24 c25 c26 c27 c28 c29 c30 c31 c32 c33 c34 c53 u35 u36 u37 u38 u39 u40 u41 u42 u43 u44 u45 u46 u47 u48 u49 u50 u51 u52 : Value)
    (hk : k < n0) (q0 : wc.cell? ⟨rb, 0, none⟩ = some (.slice (some ⟨g, 0, none⟩) n0 c0)) (Q0 : wc.cell? ⟨g, k * 3, none⟩ = some (.int .i64 x.p)) (Q1 : wc.cell? ⟨g, k * 3 + 1, none⟩ = some (.int .i64 x.t)) (Q2 : wc.cell? ⟨g, k * 3 + 2, none⟩ = some (.string x.s))
    (hK : ∀ (y35 y36 y37 y38 y39 y40 y41 y42 y43 y44 y45 y46 y47 y48 y49 y50 y51 y52 z : Value) (w5 : World), w5.ownsRow 0 32 3 z (insO x []).length (flat opCells (insO x [])) → (∀ b, z.ownBlock = some b → wc.heap.size ≤ b) → Ext wc w5 → Kx .normal ⟨#[.pointer (some ⟨rb, 0, none⟩), c1, c2x, z, .int .i64 ((k : Nat) : Int), .int .i64 ((0 : Nat) : Int), c6, c7, c8, c9, c10, c11, c12, c13, c14, c15, c16, c17, c18, c19, c20, c21, c22, c23, c24, c25, c26, c27, c28, c29, c30, c31, c32, c33, c34, y35, y36, y37, y38, y39, y40, y41, y42, y43, y44, y45, y46, y47, y48, y49, y50, y51, y52, c53], []⟩ w5) :
    Code.wp Tryd.prog reg8 Kx ⟨#[.pointer (some ⟨rb, 0, none⟩), c1, c2x, .slice none 0 0, .int .i64 ((k : Nat) : Int), .int .i64 ((0 : Nat) : Int), c6, c7, c8, c9, c10, c11, c12, c13, c14, c15, c16, c17, c18, c19, c20, c21, c22, c23, c24, c25, c26, c27, c28, c29, c30, c31, c32, c33, c34, u35, u36, u37, u38, u39, u40, u41, u42, u43, u44, u45, u46, u47, u48, u49, u50, u51, u52, c53], []⟩ wc := by
  obtain ⟨i0, hi0, hz0, hz1, hz2⟩ := info_parts opInfo
  have h03 : 0 < 3 := by omega
  have hml : (0 : Nat) ≤ maxLen := by unfold maxLen; omega
  have hb7 : 0 + 1 ≤ maxLen := by unfold maxLen; omega
  have hb8 : (0 + 1) * 32 ≤ 140737488355328 := by omega
  have hb9 : 0 + 1 + 0 ≤ maxLen := by unfold maxLen; omega
  have hb10 : (0 + 1 + 0) * 32 ≤ 140737488355328 := by omega
  have hrb : rb < wc.heap.size := cell_lt q0
  have hgl : g < wc.heap.size := cell_lt Q0
  have ho1 : ((wc.alloc (.cells #[] 32)).drew).ownsRow 0 32 3 (.slice (some ⟨wc.heap.size, 0, none⟩) 0 0) 0 [] := World.ownsRow.drew (World.ownsRow_made wc #[] 0 (Nat.zero_le _) hml rfl)
  have ho2 : (((wc.alloc (.cells #[] 32)).alloc (.cells #[.int .i64 x.p, .int .i64 x.t, .string x.s] 32)).drew).ownsRow 0 32 3 (.slice (some ⟨wc.heap.size, 0, none⟩) 0 0) 0 [] := World.ownsRow.drew (World.ownsRow.alloc (World.ownsRow_made wc #[] 0 (Nat.zero_le _) hml rfl) _)
  have hs2 : El.Src (((wc.alloc (.cells #[] 32)).alloc (.cells #[.int .i64 x.p, .int .i64 x.t, .string x.s] 32)).drew) (some ⟨wc.heap.size + 1, 0, none⟩) 1 3 (opCells x) := by
    have := (El.Src.new (wc.alloc (.cells #[] 32)) #[.int .i64 x.p, .int .i64 x.t, .string x.s] 32 1 3 rfl).ext ((Ext.refl _).drew)
    simpa [opCells] using this
  have hs3 : El.Src (((wc.alloc (.cells #[.int .i64 x.p, .int .i64 x.t, .string x.s] 32)).alloc (.cells #[] 32)).drew) (some ⟨wc.heap.size, 0, none⟩) 1 3 (opCells x) := (El.Src.new wc #[.int .i64 x.p, .int .i64 x.t, .string x.s] 32 1 3 rfl).ext ((ext_box _ _).drew)
  have ho3 : (((wc.alloc (.cells #[.int .i64 x.p, .int .i64 x.t, .string x.s] 32)).alloc (.cells #[] 32)).drew).ownsRow 0 32 3 (.slice (some ⟨wc.heap.size + 1, 0, none⟩) 0 0) 0 [] := by
    have := World.ownsRow_made (e := 32) (size := 3) (wc.alloc (.cells #[.int .i64 x.p, .int .i64 x.t, .string x.s] 32)) #[] 0 (Nat.zero_le _) hml rfl
    rw [World.size_alloc] at this
    exact World.ownsRow.drew this
  have HOA := Lib.hid ho1
  have HOB := Lib.hid ho2
  have HSB := Lib.hid hs2
  have HSC := Lib.hid hs3
  have HOC := Lib.hid ho3
  have HWA := Lib.hid (((Ext.refl wc).alloc (.cells #[] 32)).drew)
  have HWB := Lib.hid ((((Ext.refl wc).alloc (.cells #[] 32)).alloc (.cells #[.int .i64 x.p, .int .i64 x.t, .string x.s] 32)).drew)
  have HWC := Lib.hid ((((Ext.refl wc).alloc (.cells #[.int .i64 x.p, .int .i64 x.t, .string x.s] 32)).alloc (.cells #[] 32)).drew)
  clear ho1 ho2 hs2 hs3 ho3
  have hS0 := all3_keep (w0 := wc) (rb := rb) (v := .slice (some ⟨g, 0, none⟩) n0 c0) (g := g) (f := k * 3) (x := x) (Ext.refl wc) ⟨q0, Q0, Q1, Q2, Ext.refl wc⟩
  have hS1 := all3_keep ((Ext.refl wc).drew) hS0

  have HK := Lib.hid hK
  clear hK
  conv => arg 2; whnf
  go_region_held3 (fun w' => w'.cell? ⟨rb, 0, none⟩ = some (.slice (some ⟨g, 0, none⟩) n0 c0) ∧ w'.cell? ⟨g, k * 3, none⟩ = some (.int .i64 x.p) ∧ w'.cell? ⟨g, k * 3 + 1, none⟩ = some (.int .i64 x.t) ∧ w'.cell? ⟨g, k * 3 + 2, none⟩ = some (.string x.s) ∧ Hid (Ext wc w'))
    (first | assumption | (exact all3_keep (by assumption) (by assumption)) | (exact all3_keep (ext_box _ _) (by assumption)) | (exact all3_keep ((Ext.refl _).drew) (by assumption)))
    (first | (with_reducible refine at_world (((wc.alloc (.cells #[] 32)).alloc (.cells #[.int .i64 x.p, .int .i64 x.t, .string x.s] 32)).drew) ?_; refine step_append_src (P := Tryd.prog) (w := _) rfl (.tmp 39) (.tmp 47) 29 rfl 32 i0 _ 3 32 Tryd.underlying29 hi0 hz0 hz1 hz2 rfl h03 (.slice (some ⟨wc.heap.size, 0, none⟩) 0 0) rfl (some ⟨wc.heap.size + 1, 0, none⟩) 1 1 rfl _ _ HOB.out (opCells x) HSB.out (opCells_one _) hb7 hb8 ?_; intro v4 w4 ho4 hm4 hb4x; have hx4 : Ext wc w4 := ext_mods HWB.out hm4 (fun k hk => base_le (mem_ownL hk)); have HO4 := Lib.hid ho4; have HM4 := Lib.hid hx4; have HV4 := Lib.hid (own_then (v := .slice (some ⟨wc.heap.size, 0, none⟩) 0 0) (B := wc.heap.size) (fun b hb => base_le hb) HWB.out.size hb4x); clear ho4 hm4 hb4x) | (with_reducible refine at_world (((wc.alloc (.cells #[.int .i64 x.p, .int .i64 x.t, .string x.s] 32)).alloc (.cells #[] 32)).drew) ?_; refine step_append_src (P := Tryd.prog) (w := _) rfl (.tmp 39) (.tmp 47) 29 rfl 32 i0 _ 3 32 Tryd.underlying29 hi0 hz0 hz1 hz2 rfl h03 (.slice (some ⟨wc.heap.size + 1, 0, none⟩) 0 0) rfl (some ⟨wc.heap.size, 0, none⟩) 1 1 rfl _ _ HOC.out (opCells x) HSC.out (opCells_one _) hb7 hb8 ?_; intro v4 w4 ho4 hm4 hb4x; have hx4 : Ext wc w4 := ext_mods HWC.out hm4 (fun k hk => base_le (mem_ownL hk)); have HO4 := Lib.hid ho4; have HM4 := Lib.hid hx4; have HV4 := Lib.hid (own_then (v := .slice (some ⟨wc.heap.size + 1, 0, none⟩) 0 0) (B := wc.heap.size) (fun b hb => base_le hb) HWC.out.size hb4x); clear ho4 hm4 hb4x) | (with_reducible refine at_world w4 ?_; refine step_append_src (P := Tryd.prog) (w := _) rfl (.tmp 48) (.tmp 51) 29 rfl 32 i0 _ 3 32 Tryd.underlying29 hi0 hz0 hz1 hz2 rfl h03 v4 rfl none 0 0 rfl _ _ HO4.out [] (El.Src.none _ _ _) (by simp) hb9 hb10 ?_; intro v5 w5 ho5 hm5 hb5x; have hx5 := ext_mods HM4.out hm5 (fun x hx => HV4.out x (mem_ownL hx)); have HO5 := Lib.hid ho5; have HM5 := Lib.hid hx5; have HV5 := Lib.hid (own_then HV4.out HM4.out.size hb5x); clear ho5 hm5 hb5x))
  all_goals
    exact HK.out _ _ _ _ _ _ _ _ _ _ _ _ _ _ _ _ _ _ _ _ (own_ins0 HO5.out) HV5.out HM5.out

end Go.Proofs.YtckkbghmiomfiaaDoor
