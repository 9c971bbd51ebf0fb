/- Layer 13, the reference: the walk of Indicator (its shape alone). -/
import Derived.Test.YtmnnhdegoapfcaaGreatDoorP13
namespace Go.Proofs.YtmnnhdegoapfcaaGreatDoor
open Go.RowKit Go.El
set_option maxRecDepth 100000 in
set_option maxHeartbeats 8000000 in
theorem refInd_any (t : Tm) (A : Option Addr) (c : Nat) (w : World) (D : Nat → Prop) (ht : TmIn D w t A c) (hbig : szT t ≤ 1000000) :
  Calls Tryz.prog 40 #[tmVal t A c] w (ShPost w) := by
 have HCK := fun (W : World) (x : Ext w W) => Lib.hid (refCheck_any t A c W D (ht.ext x) (by omega))
 unfold tmVal at HCK ⊢
 generalize chkT t = ck at *
 generalize t.l.length = m at *
 generalize t.s = s at *
 generalize t.n = n at *
 generalize t.k = k at *
 clear ht
 go_enter Tryz.func40, Tryz.ntmps40
 go_upto_region 1 with fail
 refine wp_abs (fun V => Hid (Blk V w.heap.size 30 #[.int .i64 k, .int .i64 n, .string s, .slice A m c]) ∧ Hid (Blk V (w.heap.size + 1) 30 #[.int .i64 0, .int .i64 0, .string ⟨#[]⟩, .slice none 0 0]) ∧ Hid (Ext w V)) ⟨Lib.hid ((Blk.new w _ _).alloc _), Lib.hid sh2b, Lib.hid (((Ext.refl w).alloc _).alloc _)⟩ ?_
 rintro V ⟨HB, HZ, HX⟩
 have x9 := HB.out.cell
 have HC1 := HCK V HX.out
 clear HCK
 by_cases hck : ck = 0
 case' neg =>
  have q1 : (ck != 0) = true := by simpa using hck
  go_wp2_with (go_at_call 15; refine HC1.out.mono ?_; rintro e W1 ⟨rfl, x⟩; have z0 := HZ.out.ext x; have Z1 := Lib.hid z0; have X1 := Lib.hid (HX.out.trans x); have b1 := (HB.out.ext x).cell; have zc := z0.cell; have zf := z0.frozen; clear x z0)
  have kb := st4_blk Z1.out 0 0 ⟨#[]⟩ none 0 0
  have kx := st4_ext X1.out (show w.heap.size ≤ w.heap.size + 1 by omega) 0 0 ⟨#[]⟩ none 0 0
  unfold st4 at kb kx
  have kc := kb.cell
  exact bodyPost_ret (v := .agg #[.int .i64 0, .int .i64 0, .string ⟨#[]⟩, .slice none 0 0]) (by simp [results, Tryz.results40, go_sem, kc]) rfl ⟨_, _, _, _, _, _, rfl, kx⟩
 subst hck
 by_cases hk : k = 3 ∨ k = 4
 case' neg =>
  have q3 : (k != 3) = true := by simpa using fun e => hk (.inl e)
  have q4 : (k != 4) = true := by simpa using fun e => hk (.inr e)
  clear hk
  go_wp2_with (go_at_call 15; refine HC1.out.mono ?_; rintro e W1 ⟨rfl, x⟩; have z0 := HZ.out.ext x; have Z1 := Lib.hid z0; have X1 := Lib.hid (HX.out.trans x); have b1 := (HB.out.ext x).cell; have zc := z0.cell; have zf := z0.frozen; clear x z0)
  have kb := st4_blk Z1.out 0 0 ⟨#[]⟩ none 0 0
  have kx := st4_ext X1.out (show w.heap.size ≤ w.heap.size + 1 by omega) 0 0 ⟨#[]⟩ none 0 0
  unfold st4 at kb kx
  have kc := kb.cell
  exact bodyPost_ret (v := .agg #[.int .i64 0, .int .i64 0, .string ⟨#[]⟩, .slice none 0 0]) (by simp [results, Tryz.results40, go_sem, kc]) rfl ⟨_, _, _, _, _, _, rfl, kx⟩
 rcases hk with rfl | rfl
 all_goals
  go_upto_region 3 with (go_at_call 15; refine HC1.out.mono ?_; rintro e W1 ⟨rfl, x⟩; have Z1 := Lib.hid (HZ.out.ext x); have X1 := Lib.hid (HX.out.trans x); have B1 := Lib.hid (HB.out.ext x); have b1 := B1.out.cell; clear x)
  have HC := fun W => Lib.hid (shComp2 W ⟨#[47]⟩ 3 0 s none 0 0 2 (m : Int) ⟨#[]⟩ none 0 0)
  clear HC1 x9 HB HZ HX
  go_region_law (first
   | (go_simp; go_at_call 33; refine (refAtom_any _ _).mono ?_; rintro e W2 ⟨rfl, x⟩; have X2 := Lib.hid (X1.out.drew.trans x); have y9 := ((B1.out.ext (Ext.refl _).drew).ext x).cell; have Z2 := Lib.hid ((Z1.out.ext (Ext.refl _).drew).ext x); have B2 := Lib.hid ((B1.out.ext (Ext.refl _).drew).ext x); clear x)
   | (go_simp; go_at_call 78; refine (refInt_any _ _).mono ?_; rintro e W3 ⟨rfl, x⟩; have X3 := Lib.hid (X2.out.trans x); have y8 := (B2.out.ext x).cell; have Z3 := Lib.hid (Z2.out.ext x); clear x)
   | (go_simp; go_at_call 24; refine (HC _).out.mono ?_; rintro e W4 ⟨A', c', rfl, x⟩; have X4 := Lib.hid (X3.out.trans x); have z0 := Z3.out.ext x; have Z4 := Lib.hid z0; have zc := z0.cell; have zf := z0.frozen; clear x z0))
  all_goals
   go_wp2_with fail
   have kb := st4_blk Z4.out 4 0 ⟨#[47]⟩ A' 2 c'
   have kx := st4_ext X4.out (show w.heap.size ≤ w.heap.size + 1 by omega) 4 0 ⟨#[47]⟩ A' 2 c'
   unfold st4 at kb kx
   have kc := kb.cell
   exact bodyPost_ret (v := .agg #[.int .i64 4, .int .i64 0, .string ⟨#[47]⟩, .slice A' 2 c']) (by simp [results, Tryz.results40, go_sem, kc]) rfl ⟨_, _, _, _, _, _, rfl, kx⟩
end Go.Proofs.YtmnnhdegoapfcaaGreatDoor
