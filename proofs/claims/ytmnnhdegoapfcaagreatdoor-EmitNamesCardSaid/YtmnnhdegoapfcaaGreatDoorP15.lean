/- Layer 17, the program: the walks of gets, unis, puts, sets, simple. -/
import Derived.Test.YtmnnhdegoapfcaaGreatDoorP14
import Derived.Test.YtmnnhdegoapfcaaGreatDoorP09
import Derived.Test.YtmnnhdegoapfcaaGreatDoorP13
import Derived.Laws.MakeOwn
namespace Go.Proofs.YtmnnhdegoapfcaaGreatDoor
open Go.RowKit Go.El
def opsV (o : Int) : Value := .agg #[.int .i64 o, .int .i64 (o + 1), .int .i64 (o + 2), .int .i64 (o + 3)]
theorem blk_new3 {w : World} {t1 t2 t3 : TypeId} {c1 c2 c3 : Array Value} : Blk (((w.alloc (.cells c1 t1)).alloc (.cells c2 t2)).alloc (.cells c3 t3)) (w.heap.size + 1 + 1) t3 c3 := by
 have := Blk.new ((w.alloc (.cells c1 t1)).alloc (.cells c2 t2)) t3 c3
 rw [World.size_alloc, World.size_alloc] at this
 exact this
theorem blk_mid3 {w : World} {t1 t2 t3 : TypeId} {c1 c2 c3 : Array Value} : Blk (((w.alloc (.cells c1 t1)).alloc (.cells c2 t2)).alloc (.cells c3 t3)) (w.heap.size + 1) t2 c2 := by
 have := (Blk.new (w.alloc (.cells c1 t1)) t2 c2).alloc (.cells c3 t3)
 rw [World.size_alloc] at this
 exact this
set_option maxRecDepth 100000 in
theorem mGets (w : World) : Calls Tryz.prog 86 #[] w fun e w' => e = .returned (opsV 1) ∧ Ext w w' := by
 go_enter Tryz.func86, Tryz.ntmps86
 go_wp2_with fail
 have hE := (Ext.refl w).alloc (.cells #[.int .i64 1, .int .i64 2, .int .i64 3, .int .i64 4] 140)
 have hB := Blk.new w 140 #[.int .i64 1, .int .i64 2, .int .i64 3, .int .i64 4]
 generalize w.alloc (.cells #[.int .i64 1, .int .i64 2, .int .i64 3, .int .i64 4] 140) = V at hE hB ⊢
 have r := hB.cell
 refine bodyPost_ret (v := .agg #[.int .i64 1, .int .i64 2, .int .i64 3, .int .i64 4]) (by simp [results, Tryz.results86, go_sem, r]) rfl ⟨rfl, hE⟩
set_option maxRecDepth 100000 in
theorem mUnis (w : World) : Calls Tryz.prog 132 #[] w fun e w' => e = .returned (opsV 6) ∧ Ext w w' := by
 go_enter Tryz.func132, Tryz.ntmps132
 go_wp2_with fail
 have hE := (Ext.refl w).alloc (.cells #[.int .i64 6, .int .i64 7, .int .i64 8, .int .i64 9] 140)
 have hB := Blk.new w 140 #[.int .i64 6, .int .i64 7, .int .i64 8, .int .i64 9]
 generalize w.alloc (.cells #[.int .i64 6, .int .i64 7, .int .i64 8, .int .i64 9] 140) = V at hE hB ⊢
 have r := hB.cell
 refine bodyPost_ret (v := .agg #[.int .i64 6, .int .i64 7, .int .i64 8, .int .i64 9]) (by simp [results, Tryz.results132, go_sem, r]) rfl ⟨rfl, hE⟩
set_option maxRecDepth 100000 in
theorem mPuts (w : World) : Calls Tryz.prog 197 #[] w fun e w' => e = .returned (opsV 10) ∧ Ext w w' := by
 go_enter Tryz.func197, Tryz.ntmps197
 go_wp2_with fail
 have hE := (Ext.refl w).alloc (.cells #[.int .i64 10, .int .i64 11, .int .i64 12, .int .i64 13] 140)
 have hB := Blk.new w 140 #[.int .i64 10, .int .i64 11, .int .i64 12, .int .i64 13]
 generalize w.alloc (.cells #[.int .i64 10, .int .i64 11, .int .i64 12, .int .i64 13] 140) = V at hE hB ⊢
 have r := hB.cell
 refine bodyPost_ret (v := .agg #[.int .i64 10, .int .i64 11, .int .i64 12, .int .i64 13]) (by simp [results, Tryz.results197, go_sem, r]) rfl ⟨rfl, hE⟩
set_option maxRecDepth 100000 in
theorem mSets (w : World) : Calls Tryz.prog 198 #[] w fun e w' => e = .returned (opsV 15) ∧ Ext w w' := by
 go_enter Tryz.func198, Tryz.ntmps198
 go_wp2_with fail
 have hE := (Ext.refl w).alloc (.cells #[.int .i64 15, .int .i64 16, .int .i64 17, .int .i64 18] 140)
 have hB := Blk.new w 140 #[.int .i64 15, .int .i64 16, .int .i64 17, .int .i64 18]
 generalize w.alloc (.cells #[.int .i64 15, .int .i64 16, .int .i64 17, .int .i64 18] 140) = V at hE hB ⊢
 have r := hB.cell
 refine bodyPost_ret (v := .agg #[.int .i64 15, .int .i64 16, .int .i64 17, .int .i64 18]) (by simp [results, Tryz.results198, go_sem, r]) rfl ⟨rfl, hE⟩
set_option maxRecDepth 100000 in
set_option maxHeartbeats 4000000 in
theorem mSimple (t : Tm) (At : Option Addr) (ct : Nat) (o a : Int) {f : MF} {w : World} {m : Mk} {nv : Value} (h : MkAt f w m nv) (hr : Rm m 2) :
  Calls Tryz.prog 85 #[.pointer (some ⟨f.mb, 0, none⟩), tmVal t At ct, opsV o, .int .i64 a] w fun e w' => e = .returned (.bool (m.simple f.p.slots t o a).isSome) ∧ MkTo f w nv ((m.simple f.p.slots t o a).getD m) w' := by
 obtain ⟨k, n, s, l⟩ := t
 unfold tmVal opsV
 simp only [Tm.k, Tm.n, Tm.s, Tm.l]
 have HP := fun W (x : Ext w W) => Lib.hid (mPick n o (o + 1) (h.ext x) (hr.mono (by omega)))
 obtain ⟨n1, n2⟩ := h.no (k := w.heap.size + 1 + 1) (by omega)
 have HN1 := Lib.hid n1
 have HN2 := Lib.hid n2
 have hX3 : ∀ c1 t1 c2 t2 c3 t3, Ext w (((w.alloc (.cells c1 t1)).alloc (.cells c2 t2)).alloc (.cells c3 t3)) := fun _ _ _ _ _ _ => (((Ext.refl w).alloc _).alloc _).alloc _
 have H := Lib.hid h
 have HR := Lib.hid hr
 clear n1 n2
 by_cases h1 : k = 1
 ·subst h1
  have hs : m.simple f.p.slots (.mk 1 n s l) o a = some ((m.pick f.p.slots n).2.2.add ⟨if (m.pick f.p.slots n).2.1 then o else o + 1, ⟨#[]⟩, 0, (m.pick f.p.slots n).1, a⟩) := by
   unfold Mk.simple
   rw [if_pos (show Tm.k (.mk 1 n s l) = 1 from rfl)]
   rfl
  rw [hs]
  simp only [Option.isSome_some, Option.getD_some]
  have HB := Lib.hid (bd_pick f.p.slots m n)
  have HRR := Lib.hid (show Rm (m.pick f.p.slots n).2.2 1 from ⟨by have := HB.out.lo; have := HR.out.1; omega, by have := HR.out.2.1; have := HB.out.hi; omega, by have := HR.out.2.2; have := HB.out.oh; omega⟩)
  clear h hr hs HB
  unfold pickR at HP
  generalize (if (m.pick f.p.slots n).2.1 = true then o else o + 1) = op at HP ⊢
  generalize (m.pick f.p.slots n).1 = v at HP ⊢
  generalize (m.pick f.p.slots n).2.2 = m2 at HP HRR ⊢
  go_enter Tryz.func85, Tryz.ntmps85
  go_upto_region 2 with fail
  refine wp_abs (fun V => Hid (Blk V (w.heap.size + 1 + 1) 25 #[.int .i64 0, .string ⟨#[]⟩, .int .i64 0, .int .i64 0, .int .i64 a]) ∧ Hid (Blk V (w.heap.size + 1) 140 #[.int .i64 o, .int .i64 (o + 1), .int .i64 (o + 2), .int .i64 (o + 3)]) ∧ Hid (Blk V w.heap.size 30 #[.int .i64 1, .int .i64 n, .string s, .slice At l.length ct]) ∧ Hid (Ext w V)) ⟨blk_new3, blk_mid3, ((Blk.new w _ _).alloc _).alloc _, hX3 _ _ _ _ _ _⟩ ?_
  clear hX3
  rintro V ⟨HI, HO, HT, HX⟩
  have i0 : V.cell? ⟨w.heap.size + 1 + 1, 0, none⟩ = some (.int .i64 0) := HI.out.cell 0
  have i1 : V.cell? ⟨w.heap.size + 1 + 1, 1, none⟩ = some (.string ⟨#[]⟩) := HI.out.cell 1
  have i2 : V.cell? ⟨w.heap.size + 1 + 1, 2, none⟩ = some (.int .i64 0) := HI.out.cell 2
  have i3 : V.cell? ⟨w.heap.size + 1 + 1, 3, none⟩ = some (.int .i64 0) := HI.out.cell 3
  have i4 : V.cell? ⟨w.heap.size + 1 + 1, 4, none⟩ = some (.int .i64 a) := HI.out.cell 4
  have g0 := HI.out.frozen 0
  have g1 := HI.out.frozen 1
  have g2 := HI.out.frozen 2
  have g3 := HI.out.frozen 3
  have o0 : V.cell? ⟨w.heap.size + 1, 0, none⟩ = some (.int .i64 o) := HO.out.cell 0
  have o1 : V.cell? ⟨w.heap.size + 1, 1, none⟩ = some (.int .i64 (o + 1)) := HO.out.cell 1
  have o2 : V.cell? ⟨w.heap.size + 1, 2, none⟩ = some (.int .i64 (o + 2)) := HO.out.cell 2
  have o3 : V.cell? ⟨w.heap.size + 1, 3, none⟩ = some (.int .i64 (o + 3)) := HO.out.cell 3
  have t0 : V.cell? ⟨w.heap.size, 0, none⟩ = some (.int .i64 1) := HT.out.cell 0
  have t1 : V.cell? ⟨w.heap.size, 1, none⟩ = some (.int .i64 n) := HT.out.cell 1
  have t2 : V.cell? ⟨w.heap.size, 2, none⟩ = some (.string s) := HT.out.cell 2
  have hV : w.heap.size + 1 + 1 < V.heap.size := HI.out.lt
  go_upto_region 10 with (go_at_call 131; refine (HP V HX.out).out.mono ?_; rintro e W2 ⟨rfl, nv2, h2, s2⟩; have HI2 := Lib.hid (HI.out.mods s2.mods (HN1.out.nin HN2.out)); have H2 := Lib.hid h2; have S2 := Lib.hid s2; have j0 : W2.cell? ⟨w.heap.size + 1 + 1, 0, none⟩ = some (.int .i64 0) := HI2.out.cell 0; have j3 : W2.cell? ⟨w.heap.size + 1 + 1, 3, none⟩ = some (.int .i64 0) := HI2.out.cell 3; have q0 := HI2.out.frozen 0; have q3 := HI2.out.frozen 3; clear h2 s2)
  have HN4 := Lib.hid (S2.out.no hV HN2.out)
  have hb3 := (HI2.out.set_ 0 (.int .i64 op)).set_ 3 (.int .i64 v)
  have H3 := Lib.hid ((H2.out.set1 HN1.out HN4.out 0 (.int .i64 op)).set1 HN1.out HN4.out 3 (.int .i64 v))
  have S3 := Lib.hid ((((PStep.ext HX.out).trans S2.out).new1 (k := w.heap.size + 1 + 1) (by omega) 0 (.int .i64 op)).new1 (k := w.heap.size + 1 + 1) (by omega) 3 (.int .i64 v))
  generalize (W2.setCell ⟨w.heap.size + 1 + 1, 0, none⟩ (.int .i64 op)).setCell ⟨w.heap.size + 1 + 1, 3, none⟩ (.int .i64 v) = W3 at hb3 H3 S3 ⊢
  clear i0 i1 i2 i3 i4 g0 g1 g2 g3 o0 o1 o2 o3 t0 t1 t2 j0 j3 q0 q3
  have i0 : W3.cell? ⟨w.heap.size + 1 + 1, 0, none⟩ = some (.int .i64 op) := hb3.cell 0
  have i1 : W3.cell? ⟨w.heap.size + 1 + 1, 1, none⟩ = some (.string ⟨#[]⟩) := hb3.cell 1
  have i2 : W3.cell? ⟨w.heap.size + 1 + 1, 2, none⟩ = some (.int .i64 0) := hb3.cell 2
  have i3 : W3.cell? ⟨w.heap.size + 1 + 1, 3, none⟩ = some (.int .i64 v) := hb3.cell 3
  have i4 : W3.cell? ⟨w.heap.size + 1 + 1, 4, none⟩ = some (.int .i64 a) := hb3.cell 4
  have HA := Lib.hid (mAdd ⟨op, ⟨#[]⟩, 0, v, a⟩ H3.out HRR.out)
  unfold insV at HA
  clear hb3
  go_wp2_with (go_at_call 43; refine HA.out.mono ?_; rintro e W4 ⟨rfl, nv4, h4, s4⟩; have H4 := Lib.hid h4; have S4 := Lib.hid s4; clear h4 s4)
  go_ret
  exact ⟨rfl, nv4, H4.out, S3.out.trans S4.out⟩
 by_cases h3 : k = 3
 ·subst h3
  have hs : m.simple f.p.slots (.mk 3 n s l) o a = some (m.add ⟨o + 2, s, 0, 0, a⟩) := by
   unfold Mk.simple
   simp [Tm.k, Tm.s]
  rw [hs]
  simp only [Option.isSome_some, Option.getD_some]
  have HRR := Lib.hid (hr.mono (show 1 ≤ 2 by omega))
  clear h hr hs h1 HP
  go_enter Tryz.func85, Tryz.ntmps85
  go_upto_region 2 with fail
  refine wp_abs (fun V => Hid (Blk V (w.heap.size + 1 + 1) 25 #[.int .i64 0, .string ⟨#[]⟩, .int .i64 0, .int .i64 0, .int .i64 a]) ∧ Hid (Blk V (w.heap.size + 1) 140 #[.int .i64 o, .int .i64 (o + 1), .int .i64 (o + 2), .int .i64 (o + 3)]) ∧ Hid (Blk V w.heap.size 30 #[.int .i64 3, .int .i64 n, .string s, .slice At l.length ct]) ∧ Hid (Ext w V)) ⟨blk_new3, blk_mid3, ((Blk.new w _ _).alloc _).alloc _, hX3 _ _ _ _ _ _⟩ ?_
  clear hX3
  rintro V ⟨HI, HO, HT, HX⟩
  have i0 : V.cell? ⟨w.heap.size + 1 + 1, 0, none⟩ = some (.int .i64 0) := HI.out.cell 0
  have i1 : V.cell? ⟨w.heap.size + 1 + 1, 1, none⟩ = some (.string ⟨#[]⟩) := HI.out.cell 1
  have i2 : V.cell? ⟨w.heap.size + 1 + 1, 2, none⟩ = some (.int .i64 0) := HI.out.cell 2
  have i3 : V.cell? ⟨w.heap.size + 1 + 1, 3, none⟩ = some (.int .i64 0) := HI.out.cell 3
  have i4 : V.cell? ⟨w.heap.size + 1 + 1, 4, none⟩ = some (.int .i64 a) := HI.out.cell 4
  have g0 := HI.out.frozen 0
  have g1 := HI.out.frozen 1
  have g2 := HI.out.frozen 2
  have g3 := HI.out.frozen 3
  have o0 : V.cell? ⟨w.heap.size + 1, 0, none⟩ = some (.int .i64 o) := HO.out.cell 0
  have o1 : V.cell? ⟨w.heap.size + 1, 1, none⟩ = some (.int .i64 (o + 1)) := HO.out.cell 1
  have o2 : V.cell? ⟨w.heap.size + 1, 2, none⟩ = some (.int .i64 (o + 2)) := HO.out.cell 2
  have o3 : V.cell? ⟨w.heap.size + 1, 3, none⟩ = some (.int .i64 (o + 3)) := HO.out.cell 3
  have t0 : V.cell? ⟨w.heap.size, 0, none⟩ = some (.int .i64 3) := HT.out.cell 0
  have t1 : V.cell? ⟨w.heap.size, 1, none⟩ = some (.int .i64 n) := HT.out.cell 1
  have t2 : V.cell? ⟨w.heap.size, 2, none⟩ = some (.string s) := HT.out.cell 2
  have hV : w.heap.size + 1 + 1 < V.heap.size := HI.out.lt
  go_upto_region 7 with fail
  have hb3 := (HI.out.set_ 0 (.int .i64 (o + 2))).set_ 1 (.string s)
  have H3 := Lib.hid (((H.out.ext HX.out).set1 HN1.out HN2.out 0 (.int .i64 (o + 2))).set1 HN1.out HN2.out 1 (.string s))
  have S3 := Lib.hid (((PStep.ext (S := f.S) (nv := nv) HX.out).new1 (k := w.heap.size + 1 + 1) (by omega) 0 (.int .i64 (o + 2))).new1 (k := w.heap.size + 1 + 1) (by omega) 1 (.string s))
  have HB3 := Lib.hid (hb3.ext ((Ext.refl _).drew))
  have H4 := Lib.hid (H3.out.ext ((Ext.refl _).drew))
  have S4 := Lib.hid (S3.out.trans (PStep.ext ((Ext.refl _).drew)))
  go_region
  all_goals
   clear i0 i1 i2 i3 i4 g0 g1 g2 g3 o0 o1 o2 o3 t0 t1 t2 H3 S3 hb3
   generalize ((V.setCell ⟨w.heap.size + 1 + 1, 0, none⟩ (.int .i64 (o + 2))).setCell ⟨w.heap.size + 1 + 1, 1, none⟩ (.string s)).drew = W3 at HB3 H4 S4 ⊢
   have i0 : W3.cell? ⟨w.heap.size + 1 + 1, 0, none⟩ = some (.int .i64 (o + 2)) := HB3.out.cell 0
   have i1 : W3.cell? ⟨w.heap.size + 1 + 1, 1, none⟩ = some (.string s) := HB3.out.cell 1
   have i2 : W3.cell? ⟨w.heap.size + 1 + 1, 2, none⟩ = some (.int .i64 0) := HB3.out.cell 2
   have i3 : W3.cell? ⟨w.heap.size + 1 + 1, 3, none⟩ = some (.int .i64 0) := HB3.out.cell 3
   have i4 : W3.cell? ⟨w.heap.size + 1 + 1, 4, none⟩ = some (.int .i64 a) := HB3.out.cell 4
   have HA := Lib.hid (mAdd ⟨o + 2, s, 0, 0, a⟩ H4.out HRR.out)
   unfold insV at HA
   go_wp2_with (go_at_call 43; refine HA.out.mono ?_; rintro e W4 ⟨rfl, nv4, h4, s4⟩; have H5 := Lib.hid h4; have S5 := Lib.hid s4; clear h4 s4)
   go_ret
   exact ⟨rfl, nv4, H5.out, S4.out.trans S5.out⟩
 by_cases h2 : k = 2
 ·subst h2
  have hs : m.simple f.p.slots (.mk 2 n s l) o a = some (m.add ⟨o + 3, ⟨#[]⟩, n, 0, a⟩) := by
   unfold Mk.simple
   simp [Tm.k, Tm.n]
  rw [hs]
  simp only [Option.isSome_some, Option.getD_some]
  have HRR := Lib.hid (hr.mono (show 1 ≤ 2 by omega))
  clear h hr hs h1 h3 HP
  go_enter Tryz.func85, Tryz.ntmps85
  go_upto_region 2 with fail
  refine wp_abs (fun V => Hid (Blk V (w.heap.size + 1 + 1) 25 #[.int .i64 0, .string ⟨#[]⟩, .int .i64 0, .int .i64 0, .int .i64 a]) ∧ Hid (Blk V (w.heap.size + 1) 140 #[.int .i64 o, .int .i64 (o + 1), .int .i64 (o + 2), .int .i64 (o + 3)]) ∧ Hid (Blk V w.heap.size 30 #[.int .i64 2, .int .i64 n, .string s, .slice At l.length ct]) ∧ Hid (Ext w V)) ⟨blk_new3, blk_mid3, ((Blk.new w _ _).alloc _).alloc _, hX3 _ _ _ _ _ _⟩ ?_
  clear hX3
  rintro V ⟨HI, HO, HT, HX⟩
  have i0 : V.cell? ⟨w.heap.size + 1 + 1, 0, none⟩ = some (.int .i64 0) := HI.out.cell 0
  have i1 : V.cell? ⟨w.heap.size + 1 + 1, 1, none⟩ = some (.string ⟨#[]⟩) := HI.out.cell 1
  have i2 : V.cell? ⟨w.heap.size + 1 + 1, 2, none⟩ = some (.int .i64 0) := HI.out.cell 2
  have i3 : V.cell? ⟨w.heap.size + 1 + 1, 3, none⟩ = some (.int .i64 0) := HI.out.cell 3
  have i4 : V.cell? ⟨w.heap.size + 1 + 1, 4, none⟩ = some (.int .i64 a) := HI.out.cell 4
  have g0 := HI.out.frozen 0
  have g1 := HI.out.frozen 1
  have g2 := HI.out.frozen 2
  have g3 := HI.out.frozen 3
  have o0 : V.cell? ⟨w.heap.size + 1, 0, none⟩ = some (.int .i64 o) := HO.out.cell 0
  have o1 : V.cell? ⟨w.heap.size + 1, 1, none⟩ = some (.int .i64 (o + 1)) := HO.out.cell 1
  have o2 : V.cell? ⟨w.heap.size + 1, 2, none⟩ = some (.int .i64 (o + 2)) := HO.out.cell 2
  have o3 : V.cell? ⟨w.heap.size + 1, 3, none⟩ = some (.int .i64 (o + 3)) := HO.out.cell 3
  have t0 : V.cell? ⟨w.heap.size, 0, none⟩ = some (.int .i64 2) := HT.out.cell 0
  have t1 : V.cell? ⟨w.heap.size, 1, none⟩ = some (.int .i64 n) := HT.out.cell 1
  have t2 : V.cell? ⟨w.heap.size, 2, none⟩ = some (.string s) := HT.out.cell 2
  have hV : w.heap.size + 1 + 1 < V.heap.size := HI.out.lt
  go_upto_region 9 with fail
  have hb3 := (HI.out.set_ 0 (.int .i64 (o + 3))).set_ 2 (.int .i64 n)
  have H3 := Lib.hid (((H.out.ext HX.out).set1 HN1.out HN2.out 0 (.int .i64 (o + 3))).set1 HN1.out HN2.out 2 (.int .i64 n))
  have S3 := Lib.hid (((PStep.ext (S := f.S) (nv := nv) HX.out).new1 (k := w.heap.size + 1 + 1) (by omega) 0 (.int .i64 (o + 3))).new1 (k := w.heap.size + 1 + 1) (by omega) 2 (.int .i64 n))
  have HB3 := Lib.hid (hb3.ext ((Ext.refl _).drew))
  have H4 := Lib.hid (H3.out.ext ((Ext.refl _).drew))
  have S4 := Lib.hid (S3.out.trans (PStep.ext ((Ext.refl _).drew)))
  go_region
  all_goals
   clear i0 i1 i2 i3 i4 g0 g1 g2 g3 o0 o1 o2 o3 t0 t1 t2 H3 S3 hb3
   generalize ((V.setCell ⟨w.heap.size + 1 + 1, 0, none⟩ (.int .i64 (o + 3))).setCell ⟨w.heap.size + 1 + 1, 2, none⟩ (.int .i64 n)).drew = W3 at HB3 H4 S4 ⊢
   have i0 : W3.cell? ⟨w.heap.size + 1 + 1, 0, none⟩ = some (.int .i64 (o + 3)) := HB3.out.cell 0
   have i1 : W3.cell? ⟨w.heap.size + 1 + 1, 1, none⟩ = some (.string ⟨#[]⟩) := HB3.out.cell 1
   have i2 : W3.cell? ⟨w.heap.size + 1 + 1, 2, none⟩ = some (.int .i64 n) := HB3.out.cell 2
   have i3 : W3.cell? ⟨w.heap.size + 1 + 1, 3, none⟩ = some (.int .i64 0) := HB3.out.cell 3
   have i4 : W3.cell? ⟨w.heap.size + 1 + 1, 4, none⟩ = some (.int .i64 a) := HB3.out.cell 4
   have HA := Lib.hid (mAdd ⟨o + 3, ⟨#[]⟩, n, 0, a⟩ H4.out HRR.out)
   unfold insV at HA
   go_wp2_with (go_at_call 43; refine HA.out.mono ?_; rintro e W4 ⟨rfl, nv4, h4, s4⟩; have H5 := Lib.hid h4; have S5 := Lib.hid s4; clear h4 s4)
   go_ret
   exact ⟨rfl, nv4, H5.out, S4.out.trans S5.out⟩
 have hs : m.simple f.p.slots (.mk k n s l) o a = none := by
  unfold Mk.simple
  rw [if_neg (show ¬ Tm.k (.mk k n s l) = 1 from h1), if_neg (show ¬ Tm.k (.mk k n s l) = 3 from h3), if_neg (show ¬ Tm.k (.mk k n s l) = 2 from h2)]
 rw [hs]
 simp only [Option.isSome_none, Option.getD_none]
 have e1 : (k == 1) = false := by simpa using h1
 have e2 : (k == 2) = false := by simpa using h2
 have e3 : (k == 3) = false := by simpa using h3
 clear h hr hs HP
 go_enter Tryz.func85, Tryz.ntmps85
 go_upto_region 2 with fail
 refine wp_abs (fun V => Hid (Blk V (w.heap.size + 1 + 1) 25 #[.int .i64 0, .string ⟨#[]⟩, .int .i64 0, .int .i64 0, .int .i64 a]) ∧ Hid (Blk V (w.heap.size + 1) 140 #[.int .i64 o, .int .i64 (o + 1), .int .i64 (o + 2), .int .i64 (o + 3)]) ∧ Hid (Blk V w.heap.size 30 #[.int .i64 k, .int .i64 n, .string s, .slice At l.length ct]) ∧ Hid (Ext w V)) ⟨blk_new3, blk_mid3, ((Blk.new w _ _).alloc _).alloc _, hX3 _ _ _ _ _ _⟩ ?_
 clear hX3
 rintro V ⟨HI, HO, HT, HX⟩
 have i0 : V.cell? ⟨w.heap.size + 1 + 1, 0, none⟩ = some (.int .i64 0) := HI.out.cell 0
 have i1 : V.cell? ⟨w.heap.size + 1 + 1, 1, none⟩ = some (.string ⟨#[]⟩) := HI.out.cell 1
 have i2 : V.cell? ⟨w.heap.size + 1 + 1, 2, none⟩ = some (.int .i64 0) := HI.out.cell 2
 have i3 : V.cell? ⟨w.heap.size + 1 + 1, 3, none⟩ = some (.int .i64 0) := HI.out.cell 3
 have i4 : V.cell? ⟨w.heap.size + 1 + 1, 4, none⟩ = some (.int .i64 a) := HI.out.cell 4
 have g0 := HI.out.frozen 0
 have g1 := HI.out.frozen 1
 have g2 := HI.out.frozen 2
 have g3 := HI.out.frozen 3
 have o0 : V.cell? ⟨w.heap.size + 1, 0, none⟩ = some (.int .i64 o) := HO.out.cell 0
 have o1 : V.cell? ⟨w.heap.size + 1, 1, none⟩ = some (.int .i64 (o + 1)) := HO.out.cell 1
 have o2 : V.cell? ⟨w.heap.size + 1, 2, none⟩ = some (.int .i64 (o + 2)) := HO.out.cell 2
 have o3 : V.cell? ⟨w.heap.size + 1, 3, none⟩ = some (.int .i64 (o + 3)) := HO.out.cell 3
 have t0 : V.cell? ⟨w.heap.size, 0, none⟩ = some (.int .i64 k) := HT.out.cell 0
 have t1 : V.cell? ⟨w.heap.size, 1, none⟩ = some (.int .i64 n) := HT.out.cell 1
 have t2 : V.cell? ⟨w.heap.size, 2, none⟩ = some (.string s) := HT.out.cell 2
 have hV : w.heap.size + 1 + 1 < V.heap.size := HI.out.lt
 go_wp2_with fail
 go_ret
 exact ⟨rfl, nv, H.out.ext HX.out, PStep.ext HX.out⟩
end Go.Proofs.YtmnnhdegoapfcaaGreatDoor

/- Layer 17, plain: the rounds over a call's compound, over a head's, over arguments, step by step. No program in sight. -/
namespace Go.El
theorem putL_take (S : List Int) : ∀ {l : List Tm} {j : Nat} {u : Tm} (m : Mk), l[j]? = some u → putL S (l.take (j + 1)) m =
  if u.k = 4 then (putT S u ((putL S (l.take j) m).1.next + 1) (putL S (l.take j) m).1.take, (putL S (l.take j) m).2 ++ [(putL S (l.take j) m).1.next + 1]) else ((putL S (l.take j) m).1, (putL S (l.take j) m).2 ++ [0])
 | [], j, u, m, h => by simp at h
 | t :: r, 0, u, m, h => by
  simp at h
  subst h
  simp only [List.take_succ_cons, List.take_zero, putL]
  split <;> rfl
 | t :: r, j + 1, u, m, h => by
  have h : r[j]? = some u := by simpa using h
  simp only [List.take_succ_cons, putL]
  by_cases hk : t.k = 4
  ·rw [if_pos hk, if_pos hk]
   have := putL_take S (putT S t (m.next + 1) m.take) h
   rw [this]
   by_cases hu : u.k = 4
   ·rw [if_pos hu, if_pos hu]; rfl
   ·rw [if_neg hu, if_neg hu]; rfl
  ·rw [if_neg hk, if_neg hk]
   have := putL_take S m h
   rw [this]
   by_cases hu : u.k = 4
   ·rw [if_pos hu, if_pos hu]; rfl
   ·rw [if_neg hu, if_neg hu]; rfl
theorem setS_take (S : List Int) : ∀ {L : List (Tm × Int)} {j : Nat} {x : Tm × Int} (m : Mk), L[j]? = some x → setS S m (L.take (j + 1)) = ((setS S m (L.take j)).simple S x.1 15 0).getD ((setS S m (L.take j)).add ⟨16, ⟨#[]⟩, 0, x.2, 0⟩)
 | [], j, x, m, h => by simp at h
 | y :: L, 0, x, m, h => by
  simp at h
  subst h
  simp [setS]
 | y :: L, j + 1, x, m, h => by
  have h : L[j]? = some x := by simpa using h
  simp only [List.take_succ_cons, setS]
  exact setS_take S _ h
theorem putR_take (S : List Int) : ∀ {l : List Tm} {j : Nat} {u : Tm} (a : Int) (m : Mk), l[j]? = some u → putR S (l.take (j + 1)) a m = putT S u (a + j) (putR S (l.take j) a m)
 | [], j, u, a, m, h => by simp at h
 | t :: r, 0, u, a, m, h => by
  simp at h
  subst h
  simp [putR]
 | t :: r, j + 1, u, a, m, h => by
  have h : r[j]? = some u := by simpa using h
  simp only [List.take_succ_cons, putR]
  rw [putR_take S (a + 1) _ h]
  congr 1
  omega
theorem headF_take (S : List Int) : ∀ {l : List Tm} {j : Nat} {u : Tm} (a : Int) (m : Mk), l[j]? = some u → headF S (l.take (j + 1)) a m = (headF S (l.take j) a m).get S u (a + j)
 | [], j, u, a, m, h => by simp at h
 | t :: r, 0, u, a, m, h => by
  simp at h
  subst h
  simp [headF]
 | t :: r, j + 1, u, a, m, h => by
  have h : r[j]? = some u := by simpa using h
  simp only [List.take_succ_cons, headF]
  rw [headF_take S (a + 1) _ h]
  congr 1
  omega
theorem uniS_take (S : List Int) : ∀ {l : List Tm} {j : Nat} {u : Tm} (m : Mk), l[j]? = some u → m.uniS S (l.take (j + 1)) =
  match (m.uniS S (l.take j)).1.simple S u 6 0 with
  | some m' => (m', (m.uniS S (l.take j)).2)
  | none => ((m.uniS S (l.take j)).1.take.add ⟨6, ⟨#[]⟩, 0, (m.uniS S (l.take j)).1.next + 1, 0⟩, (m.uniS S (l.take j)).2 ++ [(u, (m.uniS S (l.take j)).1.next + 1)])
 | [], j, u, m, h => by simp at h
 | t :: r, 0, u, m, h => by
  simp at h
  subst h
  simp only [List.take_succ_cons, List.take_zero, Mk.uniS]
  cases m.simple S t 6 0 <;> rfl
 | t :: r, j + 1, u, m, h => by
  have h : r[j]? = some u := by simpa using h
  simp only [List.take_succ_cons, Mk.uniS]
  cases hs : m.simple S t 6 0 with
  | some m1 =>
   simp only
   exact uniS_take S m1 h
  | none =>
   simp only
   have := uniS_take S (m.take.add ⟨6, ⟨#[]⟩, 0, m.next + 1, 0⟩) h
   rw [this]
   split <;> rfl
end Go.El

/- Layer 17, the program: the walk of put. -/
namespace Go.Proofs.YtmnnhdegoapfcaaGreatDoor
open Go.RowKit Go.El
theorem made_zero (n : Nat) : madeCells #[Value.int .i64 0] n = (List.replicate n (Value.int .i64 0)).toArray := by
 apply Array.ext
 ·simp [madeCells]
 ·intro i h1 h2
  simp [madeCells, Nat.mod_one]
theorem wpList_make_ints {P : Program} (w : World) {ops : Array Oper} {rest : List Oper} {o : Oper} {a : Act} {Q : Exit → Act → World → Prop}
  (hg : o.guard = none) (l c : Operand) (t : TypeId) (hop : o.op = Op.makeSlice t l c)
  (e : TypeId) (i : TypeInfo) (h1 : P.underlying t = some (.slice e)) (h2 : P.info? e = some i) (h3 : i.zero = some (.int .i64 0)) (h4 : i.size = 1) (h5 : i.bytes = 8)
  (n : Nat) (hl : a.eval l = .int .i64 (n : Int)) (hc : a.eval c = .int .i64 (n : Int)) (b3 : n ≤ 1000000000)
  (hK : wpList P ops Q rest (a.put o.dst (.slice (some ⟨w.heap.size, 0, none⟩) n n)) (w.alloc (.cells (List.replicate n (Value.int .i64 0)).toArray e))) :
  wpList P ops Q (o :: rest) a w := by
 refine wpList_plain hg fun K hK' => ?_
 have hrun := run_make (P := P) w t e i (.int .i64 0) h1 h2 h3 .i64 .i64 (n : Int) (n : Int) (by omega) (by omega) (by rw [h5]; omega) (by omega)
 simp only [Int.toNat_natCast, h4, Nat.mul_one] at hrun
 rw [show (Value.int .i64 0).cells = #[Value.int .i64 0] from rfl, made_zero] at hrun
 unfold Oper.wp
 simp [execOp, hop, hl, hc, hrun, Result.andThen]
 exact hK' _ _ hK
theorem mIntInfo : (Tryz.prog.info? 3).map (fun i => (i.zero, i.size, i.bytes)) = some (some (.int .i64 0), 1, 8) := by kernel_rfl
def MPutC (f : MF) (t : Tm) : Prop := ∀ (a : Int) (At : Option Addr) (ct : Nat) (w : World) (m : Mk) (nv : Value), MkAt f w m nv → Rm m (4 * szT t) → TmIn (Clr2 f.S nv w) w t At ct →
 Calls Tryz.prog 163 #[.pointer (some ⟨f.mb, 0, none⟩), tmVal t At ct, .int .i64 a] w fun e w' => e = .returned (.tuple #[]) ∧ MkTo f w nv (putT f.p.slots t a m) w'
set_option maxRecDepth 100000 in
set_option maxHeartbeats 4000000 in
theorem mPut0 (t : Tm) (a : Int) (At : Option Addr) (ct : Nat) {f : MF} {w : World} {m : Mk} {nv : Value} (h : MkAt f w m nv) (hr : Rm m (4 * szT t)) (hs : (m.simple f.p.slots t 10 a).isSome = true ∨ m.full = true) :
  Calls Tryz.prog 163 #[.pointer (some ⟨f.mb, 0, none⟩), tmVal t At ct, .int .i64 a] w fun e w' => e = .returned (.tuple #[]) ∧ MkTo f w nv (putT f.p.slots t a m) w' := by
 have hz := szT_pos t
 have HM := fun W (x : Ext w W) => Lib.hid (mSimple t At ct 10 a (h.ext x) (hr.mono (by omega)))
 have HFU := fun W (x : Ext w W) => Lib.hid (mFull (h.ext x))
 have HPU := fun W => Lib.hid (mPuts W)
 have hpt : putT f.p.slots t a m = (m.simple f.p.slots t 10 a).getD m := by
  obtain ⟨k, n, s, l⟩ := t
  simp only [putT]
  cases hq : m.simple f.p.slots (.mk k n s l) 10 a with
  | some m' => rfl
  | none =>
   rw [hq] at hs
   simp only [Option.isSome_none, Bool.false_eq_true, false_or] at hs
   simp only [Option.getD_none]
   rw [if_pos hs]
 rw [hpt]
 have H := Lib.hid h
 have hb : ∃ b, (m.simple f.p.slots t 10 a).isSome = b := ⟨_, rfl⟩
 obtain ⟨b, hb⟩ := hb
 have hm2 : b = false → (m.simple f.p.slots t 10 a).getD m = m := fun e => by
  subst e
  cases hq : m.simple f.p.slots t 10 a with
  | some m' => rw [hq] at hb; cases hb
  | none => rfl
 rw [hb] at hs HM
 generalize (m.simple f.p.slots t 10 a).getD m = m2 at *
 unfold tmVal opsV at *
 clear h hr hpt
 cases b with
 | true =>
  go_enter Tryz.func163, Tryz.ntmps163
  go_upto_region 1 with fail
  refine wp_abs (fun V => Hid (Blk V w.heap.size 30 #[.int .i64 t.k, .int .i64 t.n, .string t.s, .slice At t.l.length ct]) ∧ Hid (Ext w V)) ⟨Blk.new _ _ _, ext_box _ _⟩ ?_
  rintro V ⟨HT, HX⟩
  have t9 := HT.out.cell
  have t8 := (HT.out.ext ((Ext.refl V).drew)).cell
  (first | (go_region_law ((first
   | (go_simp; go_at_call 197; refine (HPU _).out.mono ?_; rintro e V1 ⟨rfl, x1⟩; have X1 := Lib.hid ((Ext.refl _).drew.trans x1); have v9 := (HT.out.ext X1.out).cell; clear x1)
   | (go_simp; go_at_call 85; refine (HM _ (HX.out.trans X1.out)).out.mono ?_; rintro e V2 ⟨rfl, nv2, h2, s2⟩; have H2 := Lib.hid h2; have S2 := Lib.hid s2; clear h2 s2)))) | fail "region")
  all_goals
   go_wp2_with fail
   exact bodyPost_ret (results_none rfl _ _ _) rfl ⟨rfl, nv2, H2.out, (PStep.ext (HX.out.trans X1.out)).trans S2.out⟩
 | false =>
  have hfu : m2.full = true := by
   rcases hs with hs | hs
   ·cases hs
   ·rw [hm2 rfl]; exact hs
  clear hs hm2
  have HFF := Lib.hid hfu
  clear hfu
  go_enter Tryz.func163, Tryz.ntmps163
  go_upto_region 1 with fail
  refine wp_abs (fun V => Hid (Blk V w.heap.size 30 #[.int .i64 t.k, .int .i64 t.n, .string t.s, .slice At t.l.length ct]) ∧ Hid (Ext w V)) ⟨Blk.new _ _ _, ext_box _ _⟩ ?_
  rintro V ⟨HT, HX⟩
  have t9 := HT.out.cell
  have t8 := (HT.out.ext ((Ext.refl V).drew)).cell
  (first | (go_region_law ((first
   | (go_simp; go_at_call 197; refine (HPU _).out.mono ?_; rintro e V1 ⟨rfl, x1⟩; have X1 := Lib.hid ((Ext.refl _).drew.trans x1); have v9 := (HT.out.ext X1.out).cell; clear x1)
   | (go_simp; go_at_call 85; refine (HM _ (HX.out.trans X1.out)).out.mono ?_; rintro e V2 ⟨rfl, nv2, h2, s2⟩; have H2 := Lib.hid h2; have S2 := Lib.hid s2; clear h2 s2)
   | (go_simp; go_at_call 46; refine (mFull H2.out).mono ?_; rintro e V3 ⟨rfl, rfl⟩; rw [HFF.out])))) | fail "region")
  all_goals
   go_wp2_with fail
   exact bodyPost_ret (results_none rfl _ _ _) rfl ⟨rfl, nv2, H2.out, (PStep.ext (HX.out.trans X1.out)).trans S2.out⟩
end Go.Proofs.YtmnnhdegoapfcaaGreatDoor
