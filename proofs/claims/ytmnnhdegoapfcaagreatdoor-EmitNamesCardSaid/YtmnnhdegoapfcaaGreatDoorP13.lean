/- Layer 13, the reference: balls (their shape alone). -/
import Derived.Test.YtmnnhdegoapfcaaGreatDoorP12
import Derived.Deep.RegionLaw
import Derived.Test.YtmnnhdegoapfcaaGreatDoorP11
namespace Go.Proofs.YtmnnhdegoapfcaaGreatDoor
open Go.RowKit Go.El
set_option maxRecDepth 100000 in
set_option maxHeartbeats 4000000 in
theorem refComp_sh (s : ByteArray) (M : List TmP) (A : Option Addr) (c : Nat) (w : World) (hs : El.Src w A M.length 4 (flat tmC M)) (hn : M ≠ []) (hl : M.length ≤ 1000) :
  Calls Tryz.prog 24 #[.string s, .slice A M.length c] w fun e w' => ∃ A' c', e = .returned (.agg #[.int .i64 4, .int .i64 0, .string s, .slice A' M.length c']) ∧ Ext w w' := by
 obtain ⟨i1, hi1, hz0, hz1, hz2⟩ := infoP tmInfo4
 have q1 : ((M.length : Int) == 0) = false := by
  have : M.length ≠ 0 := fun e => hn (List.eq_nil_of_length_eq_zero e)
  simpa using this
 have HO := Lib.hid (own_empty (w.alloc (.cells #[.int .i64 0, .int .i64 0, .string ⟨#[]⟩, .slice none 0 0] 30)) 30 4)
 rw [World.size_alloc] at HO
 have HS := Lib.hid (hs.ext (((Ext.refl w).alloc (.cells #[.int .i64 0, .int .i64 0, .string ⟨#[]⟩, .slice none 0 0] 30)).alloc (.cells #[] 30)))
 have hone : ∀ u ∈ flat tmC M, u.oneCell' = true := fun u hu => by
  obtain ⟨p, _, h⟩ := List.mem_flatMap.1 hu
  exact tmC_one p u h
 have HONE := Lib.hid hone
 clear hs hn hone
 go_enter Tryz.func24, Tryz.ntmps24
 go_wp2_with (at_builtin; refine wpList_append_src (P := Tryz.prog) rfl (.tmp 11) (.tmp 12) 28 rfl 30 i1 _ 4 56 Tryz.underlying28 hi1 hz0 hz1 hz2 rfl (by omega) (.slice (some ⟨w.heap.size + 1, 0, none⟩) 0 0) rfl _ _ _ rfl 0 [] HO.out (flat tmC M) HS.out HONE.out (by unfold maxLen; omega) (by omega) ?_; intro v3 w3 ho3 hm3 hb3; rw [Nat.zero_add, List.nil_append] at ho3; obtain ⟨A3, c3, rfl⟩ := own_value ho3; have hB3 := ((Blk.new w 30 #[.int .i64 0, .int .i64 0, .string ⟨#[]⟩, .slice none 0 0]).alloc (.cells #[] 30)).mods hm3 (by simp [ownL, Value.ownBlock]); have zc := hB3.cell; have zf := hB3.frozen; have HO3 := Lib.hid ho3; have HM3 := Lib.hid hm3; have HB3 := Lib.hid hB3; have HV3 := Lib.hid hb3; clear ho3 hm3 hB3 hb3)
 have hbf := (((HB3.out.set_ 0 (.int .i64 4)).set_ 1 (.int .i64 0)).set_ 2 (.string s)).set_ 3 (.slice A3 M.length c3)
 have hlt := HB3.out.lt
 have hown : ∀ k, (Value.slice A3 M.length c3).ownBlock = some k → w.heap.size + 1 ≤ k ∧ k < w3.heap.size := fun k e => by
  refine ⟨?_, (HO3.out.lt k e).2⟩
  rcases HV3.out with h | h
  ·rw [h] at e
   simp [Value.ownBlock] at e
   omega
  ·rw [h] at e
   simp [World.size_alloc] at e
   omega
 have hE3 : Ext w w3 := ext_mods (((Ext.refl w).alloc _).alloc _) HM3.out (fun k hk => by simp [ownL, Value.ownBlock] at hk; omega)
 have hno : (Value.slice A3 M.length c3).ownBlock ≠ some w.heap.size := fun e => by have := (hown _ e).1; omega
 have hO := ownsRow_setCell_other (ownsRow_setCell_other (ownsRow_setCell_other (ownsRow_setCell_other HO3.out (a := ⟨w.heap.size, 0, none⟩) hno (.int .i64 4)) (a := ⟨w.heap.size, 1, none⟩) hno (.int .i64 0)) (a := ⟨w.heap.size, 2, none⟩) hno (.string s)) (a := ⟨w.heap.size, 3, none⟩) hno (.slice A3 M.length c3)
 have hEF := (((hE3.setCell (p := ⟨w.heap.size, 0, none⟩) (by simp) (.int .i64 4)).setCell (p := ⟨w.heap.size, 1, none⟩) (by simp) (.int .i64 0)).setCell (p := ⟨w.heap.size, 2, none⟩) (by simp) (.string s)).setCell (p := ⟨w.heap.size, 3, none⟩) (by simp) (.slice A3 M.length c3)
 have hsz : ((((w3.setCell ⟨w.heap.size, 0, none⟩ (.int .i64 4)).setCell ⟨w.heap.size, 1, none⟩ (.int .i64 0)).setCell ⟨w.heap.size, 2, none⟩ (.string s)).setCell ⟨w.heap.size, 3, none⟩ (.slice A3 M.length c3)).heap.size = w3.heap.size := by simp
 generalize (((w3.setCell ⟨w.heap.size, 0, none⟩ (.int .i64 4)).setCell ⟨w.heap.size, 1, none⟩ (.int .i64 0)).setCell ⟨w.heap.size, 2, none⟩ (.string s)).setCell ⟨w.heap.size, 3, none⟩ (.slice A3 M.length c3) = VF at hbf hO hEF hsz ⊢
 have r0 : VF.cell? ⟨w.heap.size, 0, none⟩ = some (.int .i64 4) := hbf.cell 0
 have r1 : VF.cell? ⟨w.heap.size, 1, none⟩ = some (.int .i64 0) := hbf.cell 1
 have r2 : VF.cell? ⟨w.heap.size, 2, none⟩ = some (.string s) := hbf.cell 2
 have r3 : VF.cell? ⟨w.heap.size, 3, none⟩ = some (.slice A3 M.length c3) := hbf.cell 3
 refine bodyPost_ret (v := .agg #[.int .i64 4, .int .i64 0, .string s, .slice A3 M.length c3]) (by simp [results, Tryz.results24, go_sem, r0, r1, r2, r3]) rfl ⟨A3, c3, rfl, hEF⟩
def ShPost (w : World) (e : Ending) (w' : World) : Prop := ∃ (k n : Int) (s : ByteArray) (A : Option Addr) (m c : Nat), e = .returned (.agg #[.int .i64 k, .int .i64 n, .string s, .slice A m c]) ∧ Ext w w'
theorem ext_cellsT (W : World) (cs : Array Value) (t : TypeId) : Ext W (W.alloc (.cells cs t)) := (Ext.refl W).alloc _
theorem flat_len4 : ∀ L : List TmP, (flat tmC L).length = L.length * 4 := by
 intro L
 induction L with
 | nil => rfl
 | cons a l ih => simp only [flat, List.flatMap_cons, List.length_append, List.length_cons] at ih ⊢; rw [ih]; show 4 + _ = _; omega
theorem shComp (W : World) (s : ByteArray) (M : List TmP) (cs : Array Value) (n : Nat) (hn2 : M.length = n) (hcs : cs = (flat tmC M).toArray) (hn : M ≠ []) (hl : M.length ≤ 1000) :
  Calls Tryz.prog 24 #[.string s, .slice (some ⟨W.heap.size, 0, none⟩) n n] (W.alloc (.cells cs 30)) fun e w' => ∃ A' c', e = .returned (.agg #[.int .i64 4, .int .i64 0, .string s, .slice A' n c']) ∧ Ext W w' := by
 subst hcs
 subst hn2
 have hs := El.Src.new W (flat tmC M).toArray 30 M.length 4 (by simpa using flat_len4 M)
 refine (refComp_sh s M _ _ _ hs hn hl).mono ?_
 rintro e w' ⟨A', c', rfl, hx2⟩
 exact ⟨A', c', rfl, (ext_cellsT W _ _).trans hx2⟩
def tmOf (k n : Int) (s : ByteArray) (A : Option Addr) (m c : Nat) : TmP := (.mk k n s (List.replicate m tm0), A, c)
theorem tmOf_c (k n : Int) (s : ByteArray) (A : Option Addr) (m c : Nat) : tmC (tmOf k n s A m c) = [.int .i64 k, .int .i64 n, .string s, .slice A m c] := by
 unfold tmC tmOf
 simp [Tm.k, Tm.n, Tm.s, Tm.l]
theorem shComp1 (W : World) (s : ByteArray) (k n : Int) (s1 : ByteArray) (A : Option Addr) (m c : Nat) :
  Calls Tryz.prog 24 #[.string s, .slice (some ⟨W.heap.size, 0, none⟩) 1 1] (W.alloc (.cells #[.int .i64 k, .int .i64 n, .string s1, .slice A m c] 30)) fun e w' => ∃ A' c', e = .returned (.agg #[.int .i64 4, .int .i64 0, .string s, .slice A' 1 c']) ∧ Ext W w' :=
 shComp W s [tmOf k n s1 A m c] _ 1 rfl (by simp [flat, tmOf_c]) (by simp) (by simp)
theorem shComp2 (W : World) (s : ByteArray) (k n : Int) (s1 : ByteArray) (A : Option Addr) (m c : Nat) (k2 n2 : Int) (s2 : ByteArray) (A2 : Option Addr) (m2 c2 : Nat) :
  Calls Tryz.prog 24 #[.string s, .slice (some ⟨W.heap.size, 0, none⟩) 2 2] (W.alloc (.cells #[.int .i64 k, .int .i64 n, .string s1, .slice A m c, .int .i64 k2, .int .i64 n2, .string s2, .slice A2 m2 c2] 30)) fun e w' => ∃ A' c', e = .returned (.agg #[.int .i64 4, .int .i64 0, .string s, .slice A' 2 c']) ∧ Ext W w' :=
 shComp W s [tmOf k n s1 A m c, tmOf k2 n2 s2 A2 m2 c2] _ 2 rfl (by simp [flat, tmOf_c]) (by simp) (by simp)
theorem sh2b {w : World} {t t2 : TypeId} {cs cs2 : Array Value} : Blk ((w.alloc (.cells cs t)).alloc (.cells cs2 t2)) (w.heap.size + 1) t2 cs2 := by
 have := Blk.new (w.alloc (.cells cs t)) t2 cs2
 rw [World.size_alloc] at this
 exact this
def st4 (W : World) (b : Nat) (k n : Int) (s : ByteArray) (A : Option Addr) (m c : Nat) : World := (((W.setCell ⟨b, 0, none⟩ (.int .i64 k)).setCell ⟨b, 1, none⟩ (.int .i64 n)).setCell ⟨b, 2, none⟩ (.string s)).setCell ⟨b, 3, none⟩ (.slice A m c)
theorem st4_blk {W : World} {b : Nat} {c0 c1 c2 c3 : Value} (h : Blk W b 30 #[c0, c1, c2, c3]) (k n : Int) (s : ByteArray) (A : Option Addr) (m c : Nat) : Blk (st4 W b k n s A m c) b 30 #[.int .i64 k, .int .i64 n, .string s, .slice A m c] :=
 (((h.set_ 0 (.int .i64 k)).set_ 1 (.int .i64 n)).set_ 2 (.string s)).set_ 3 (.slice A m c)
theorem st4_ext {w W : World} {b : Nat} (x : Ext w W) (hb : w.heap.size ≤ b) (k n : Int) (s : ByteArray) (A : Option Addr) (m c : Nat) : Ext w (st4 W b k n s A m c) :=
 (((x.setCell (p := ⟨b, 0, none⟩) hb (.int .i64 k)).setCell (p := ⟨b, 1, none⟩) hb (.int .i64 n)).setCell (p := ⟨b, 2, none⟩) hb (.string s)).setCell (p := ⟨b, 3, none⟩) hb (.slice A m c)
set_option maxRecDepth 100000 in
set_option maxHeartbeats 4000000 in
theorem refErr_any (k n : Int) (s : ByteArray) (A : Option Addr) (m c : Nat) (w : World) :
  Calls Tryz.prog 39 #[.agg #[.int .i64 k, .int .i64 n, .string s, .slice A m c]] w (ShPost w) := by
 go_enter Tryz.func39, Tryz.ntmps39
 go_upto_region 1 with fail
 refine wp_abs (fun V => Hid (Blk V w.heap.size 30 #[.int .i64 k, .int .i64 n, .string s, .slice A m c]) ∧ Hid (Blk V (w.heap.size + 1) 30 #[.int .i64 0, .int .i64 0, .string ⟨#[]⟩, .slice none 0 0]) ∧ Hid (Ext w V)) ⟨Lib.hid ((Blk.new w _ _).alloc _), Lib.hid sh2b, Lib.hid (((Ext.refl w).alloc _).alloc _)⟩ ?_
 rintro V ⟨HB, HZ, HX⟩
 have x9 := HB.out.cell
 have HC := Lib.hid (shComp1 V ⟨#[101, 114, 114, 111, 114]⟩ k n s A m c)
 go_wp2_with (go_at_call 24; refine HC.out.mono ?_; rintro e W1 ⟨A', c', rfl, x⟩; have z0 := HZ.out.ext x; have Z1 := Lib.hid z0; have X1 := Lib.hid (HX.out.trans x); have zc := z0.cell; have zf := z0.frozen; clear x z0)
 have kb := st4_blk Z1.out 4 0 ⟨#[101, 114, 114, 111, 114]⟩ A' 1 c'
 have kx := st4_ext X1.out (show w.heap.size ≤ w.heap.size + 1 by omega) 4 0 ⟨#[101, 114, 114, 111, 114]⟩ A' 1 c'
 unfold st4 at kb kx
 have kc := kb.cell
 refine bodyPost_ret (v := .agg #[.int .i64 4, .int .i64 0, .string ⟨#[101, 114, 114, 111, 114]⟩, .slice A' 1 c']) (by simp [results, Tryz.results39, go_sem, kc]) rfl ⟨_, _, _, _, _, _, rfl, kx⟩
set_option maxRecDepth 100000 in
set_option maxHeartbeats 4000000 in
theorem refBInst_any (w : World) :
  Calls Tryz.prog 36 #[] w (ShPost w) := by
 go_enter Tryz.func36, Tryz.ntmps36
 go_upto_region 1 with fail
 refine wp_abs (fun V => Hid (Blk V w.heap.size 30 #[.int .i64 0, .int .i64 0, .string ⟨#[]⟩, .slice none 0 0]) ∧ Hid (Ext w V)) ⟨Lib.hid (Blk.new w _ _), Lib.hid ((Ext.refl w).alloc _)⟩ ?_
 rintro V ⟨HZ, HX⟩
 go_wp2_with (first | (go_at_call 33; refine (refAtom_any _ _).mono ?_; rintro e W1 ⟨rfl, x⟩; have X1 := Lib.hid (HX.out.trans x); have Z1 := Lib.hid (HZ.out.ext x); clear x) | (go_at_call 39; refine (refErr_any _ _ _ _ _ _ _).mono ?_; rintro e W2 ⟨k2, n2, s2, A2, m2, c2, rfl, x⟩; have z0 := Z1.out.ext x; have Z2 := Lib.hid z0; have X2 := Lib.hid (X1.out.trans x); have zc := z0.cell; have zf := z0.frozen; clear x z0))
 have kb := st4_blk Z2.out k2 n2 s2 A2 m2 c2
 have kx := st4_ext X2.out (Nat.le_refl _) k2 n2 s2 A2 m2 c2
 unfold st4 at kb kx
 have kc := kb.cell
 refine bodyPost_ret (v := .agg #[.int .i64 k2, .int .i64 n2, .string s2, .slice A2 m2 c2]) (by simp [results, Tryz.results36, go_sem, kc]) rfl ⟨_, _, _, _, _, _, rfl, kx⟩
set_option maxRecDepth 100000 in
set_option maxHeartbeats 4000000 in
theorem refBSize_any (w : World) :
  Calls Tryz.prog 32 #[] w (ShPost w) := by
 go_enter Tryz.func32, Tryz.ntmps32
 go_upto_region 1 with fail
 refine wp_abs (fun V => Hid (Blk V w.heap.size 30 #[.int .i64 0, .int .i64 0, .string ⟨#[]⟩, .slice none 0 0]) ∧ Hid (Ext w V)) ⟨Lib.hid (Blk.new w _ _), Lib.hid ((Ext.refl w).alloc _)⟩ ?_
 rintro V ⟨HZ, HX⟩
 go_wp2_with (first | (go_at_call 33; refine (refAtom_any _ _).mono ?_; rintro e W1 ⟨rfl, x⟩; have X1 := Lib.hid (HX.out.trans x); have Z1 := Lib.hid (HZ.out.ext x); clear x) | (go_at_call 39; refine (refErr_any _ _ _ _ _ _ _).mono ?_; rintro e W2 ⟨k2, n2, s2, A2, m2, c2, rfl, x⟩; have z0 := Z1.out.ext x; have Z2 := Lib.hid z0; have X2 := Lib.hid (X1.out.trans x); have zc := z0.cell; have zf := z0.frozen; clear x z0))
 have kb := st4_blk Z2.out k2 n2 s2 A2 m2 c2
 have kx := st4_ext X2.out (Nat.le_refl _) k2 n2 s2 A2 m2 c2
 unfold st4 at kb kx
 have kc := kb.cell
 refine bodyPost_ret (v := .agg #[.int .i64 k2, .int .i64 n2, .string s2, .slice A2 m2 c2]) (by simp [results, Tryz.results32, go_sem, kc]) rfl ⟨_, _, _, _, _, _, rfl, kx⟩
set_option maxRecDepth 100000 in
set_option maxHeartbeats 4000000 in
theorem refType_any (nm : ByteArray) (k n : Int) (s : ByteArray) (A : Option Addr) (m c : Nat) (w : World) :
  Calls Tryz.prog 37 #[.string nm, .agg #[.int .i64 k, .int .i64 n, .string s, .slice A m c]] w (ShPost w) := by
 go_enter Tryz.func37, Tryz.ntmps37
 go_upto_region 1 with fail
 refine wp_abs (fun V => Hid (Blk V w.heap.size 30 #[.int .i64 k, .int .i64 n, .string s, .slice A m c]) ∧ Hid (Blk V (w.heap.size + 1) 30 #[.int .i64 0, .int .i64 0, .string ⟨#[]⟩, .slice none 0 0]) ∧ Hid (Ext w V)) ⟨Lib.hid ((Blk.new w _ _).alloc _), Lib.hid sh2b, Lib.hid (((Ext.refl w).alloc _).alloc _)⟩ ?_
 rintro V ⟨HB, HZ, HX⟩
 have x9 := HB.out.cell
 have HC := fun W => Lib.hid (shComp2 W ⟨#[116, 121, 112, 101]⟩ 3 0 nm none 0 0 k n s A m c)
 go_region_law (first
  | (go_simp; go_at_call 33; refine (refAtom_any _ _).mono ?_; rintro e W1 ⟨rfl, x⟩; have X1 := Lib.hid ((HX.out.drew).trans x); have y9 := ((HB.out.ext (Ext.refl _).drew).ext x).cell; have Z1 := Lib.hid ((HZ.out.ext (Ext.refl _).drew).ext x); clear x)
  | (go_simp; go_at_call 24; refine (HC _).out.mono ?_; rintro e W2 ⟨A', c', rfl, x⟩; have X2 := Lib.hid (X1.out.trans x); have Z2 := Lib.hid (Z1.out.ext x); clear x)
  | (go_simp; go_at_call 39; refine (refErr_any _ _ _ _ _ _ _).mono ?_; rintro e W3 ⟨k2, n2, s2, A2, m2, c2, rfl, x⟩; have z0 := Z2.out.ext x; have Z3 := Lib.hid z0; have X3 := Lib.hid (X2.out.trans x); have zc := z0.cell; have zf := z0.frozen; clear x z0))
 all_goals
  go_wp2_with fail
  have kb := st4_blk Z3.out k2 n2 s2 A2 m2 c2
  have kx := st4_ext X3.out (show w.heap.size ≤ w.heap.size + 1 by omega) k2 n2 s2 A2 m2 c2
  unfold st4 at kb kx
  have kc := kb.cell
  exact bodyPost_ret (v := .agg #[.int .i64 k2, .int .i64 n2, .string s2, .slice A2 m2 c2]) (by simp [results, Tryz.results37, go_sem, kc]) rfl ⟨_, _, _, _, _, _, rfl, kx⟩
end Go.Proofs.YtmnnhdegoapfcaaGreatDoor

/- Layer 14, the reference: the walk of flat. -/
namespace Go.El
theorem flat_lenN : ∀ (N : Nat) (t : Tm), (flatN N t).length ≤ szT t
 | 0, t => by simp [flatN]
 | N + 1, t => by
  simp only [flatN]
  split
  ·next hc =>
   obtain ⟨a, b, hl, e1, e2, _, _⟩ := isC_get hc
   rw [e1, e2, List.length_append]
   have h1 := flat_lenN N a
   have h2 := flat_lenN N b
   obtain ⟨k, n, s, l⟩ := t
   simp only [Tm.l] at hl
   subst hl
   simp only [szT, szL]
   omega
  ·split
   ·simp
   ·have := szT_pos t
    simpa using this
theorem flatN_com {N : Nat} {n : Int} {a b : Tm} : flatN (N + 1) (.mk 4 n comB [a, b]) = flatN N a ++ flatN N b := rfl
end Go.El
namespace Go.Proofs.YtmnnhdegoapfcaaGreatDoor
open Go.RowKit Go.El
def FlPost (D : Nat → Prop) (w : World) (L : List Tm) (e : Ending) (w' : World) : Prop :=
 ∃ (M : List TmP) (A : Option Addr) (c : Nat), e = .returned (.slice A M.length c) ∧ M.map (·.1) = L ∧ w'.ownsRow 0 30 4 (.slice A M.length c) M.length (flat tmC M) ∧ (∀ p ∈ M, TmIn D w' p.1 p.2.1 p.2.2) ∧ (∀ b, (Value.slice A M.length c).ownBlock = some b → w.heap.size ≤ b) ∧ Ext w w'
theorem FlPost.pre {D : Nat → Prop} {w0 w : World} {L : List Tm} {e : Ending} {w' : World} (x : Ext w0 w) (h : FlPost D w L e w') : FlPost D w0 L e w' := by
 obtain ⟨M, A, c, h1, h2, h3, h4, h5, h6⟩ := h
 exact ⟨M, A, c, h1, h2, h3, h4, fun b hb => Nat.le_trans x.size (h5 b hb), x.trans h6⟩
set_option maxRecDepth 100000 in
set_option maxHeartbeats 4000000 in
theorem refFlat_any : ∀ (N : Nat) (t : Tm), szT t ≤ N → szT t ≤ 1000000 → ∀ (A : Option Addr) (c : Nat) (w : World) (D : Nat → Prop), (∀ k, D k → k < w.heap.size) → TmIn D w t A c →
  Calls Tryz.prog 35 #[tmVal t A c] w (FlPost D w (flatN N t))
 | 0, t, h => by
  have := szT_pos t
  omega
 | N + 1, .mk k n s l, hN => by
  intro hbig A c w D hD ht
  have IH := refFlat_any N
  obtain ⟨i1, hi1, hz0, hz1, hz2⟩ := infoP tmInfo4
  have HX := Lib.hid (ext_box w (.cells #[.int .i64 k, .int .i64 n, .string s, .slice A l.length c] 30))
  have HB := Lib.hid (Blk.new w 30 #[.int .i64 k, .int .i64 n, .string s, .slice A l.length c])
  have H := Lib.hid ht
  have HD := Lib.hid hD
  by_cases hc : isC (.mk k n s l) comB 2 = true
  ·obtain ⟨hk, hs, _⟩ := isC_iff.1 hc
   obtain ⟨a, b, hl, _, _, g0, g1⟩ := isC_get hc
   simp only [Tm.k, Tm.s, Tm.l] at hk hs hl g0 g1
   subst hk
   subst hs
   subst hl
   have hla := flat_lenN N a
   have hlb := flat_lenN N b
   simp only [szT, szL] at hN hbig
   have HC : ∀ W : World, Hid (Calls Tryz.prog 34 #[.agg #[.int .i64 4, .int .i64 n, .string comB, .slice A 2 c], .string comB, .int .i64 2] W fun e w' => e = .returned (.bool true) ∧ Ext W w') := fun W => Lib.hid (by have := refCompI_any (.mk 4 n comB [a, b]) A c comB 2 W; rw [hc] at this; exact this)
   obtain ⟨ba, oa, A1, c1, rfl, _, h1, p0, p1, p2, p3⟩ := ht.child (j := 0) g0
   obtain ⟨bb, ob, A2, c2, he, _, h2, q0, q1, q2, q3⟩ := ht.child (j := 1) g1
   injection he with he
   injection he with he1 he2 he3
   subst he1
   subst he2
   have HA := fun (W : World) (x : Ext w W) => Lib.hid (IH a (by omega) (by omega) A1 c1 W D (fun k hk => Nat.lt_of_lt_of_le (hD k hk) x.size) (h1.ext x))
   have HBB := fun (W : World) (x : Ext w W) => Lib.hid (IH b (by omega) (by omega) A2 c2 W D (fun k hk => Nat.lt_of_lt_of_le (hD k hk) x.size) (h2.ext x))
   have HP : ∀ W : World, Ext w W → Hid (W.cell? ⟨ba, oa, none⟩ = some (.int .i64 a.k) ∧ W.cell? ⟨ba, oa + 1, none⟩ = some (.int .i64 a.n) ∧ W.cell? ⟨ba, oa + 2, none⟩ = some (.string a.s) ∧ W.cell? ⟨ba, oa + 3, none⟩ = some (.slice A1 a.l.length c1) ∧ W.cell? ⟨ba, oa + 4, none⟩ = some (.int .i64 b.k) ∧ W.cell? ⟨ba, oa + 4 + 1, none⟩ = some (.int .i64 b.n) ∧ W.cell? ⟨ba, oa + 4 + 2, none⟩ = some (.string b.s) ∧ W.cell? ⟨ba, oa + 4 + 3, none⟩ = some (.slice A2 b.l.length c2)) := fun W x => Lib.hid ⟨x.cell (by simpa using p0), x.cell (by simpa using p1), x.cell (by simpa using p2), x.cell (by simpa using p3), x.cell (by simpa using q0), x.cell (by simpa using q1), x.cell (by simpa using q2), x.cell (by simpa using q3)⟩
   rw [flatN_com]
   unfold tmVal at HA HBB ⊢
   simp only [Tm.k, Tm.n, Tm.s, Tm.l]
   generalize flatN N a = LA at *
   generalize flatN N b = LB at *
   clear hc g0 g1 p0 p1 p2 p3 q0 q1 q2 q3 ht h1 h2 IH hD
   unfold comB at *
   go_enter Tryz.func35, Tryz.ntmps35
   go_upto_region 2 with (go_at_call 34; refine (HC _).out.mono ?_; rintro e W1 ⟨rfl, x⟩; have X1 := Lib.hid (HX.out.trans x); have B1 := Lib.hid (HB.out.ext x); clear x)
   refine wp_abs (fun V => Hid (Blk V w.heap.size 30 #[.int .i64 4, .int .i64 n, .string ⟨#[44]⟩, .slice (some ⟨ba, oa, none⟩) 2 c]) ∧ Hid (Ext w V)) ⟨B1, X1⟩ ?_
   clear HB HX B1 X1 HC
   rintro V ⟨HB, HX⟩
   have HB2 := fun (W : World) (x : Ext V W) => Lib.hid (HB.out.ext x).cell
   have x9 := (HB2 V.drew (Ext.refl V).drew).out
   obtain ⟨y0, y1, y2, y3, y4, y5, y6, y7⟩ := (HP V.drew HX.out.drew).out
   have HBD := fun (W : World) (x : Ext V W) => Lib.hid (HBB W (HX.out.trans x)).out
   go_region_law ((first
    | (go_simp; go_at_call 35; (with_reducible refine (HA _ HX.out.drew).out.mono ?_); rintro e W2 ⟨M1, a1, k1, rfl, e1, o1, t1, b1, x1⟩; have X2 := Lib.hid (HX.out.drew.trans x1); have X2V := Lib.hid ((Ext.refl V).drew.trans x1); have E1 := Lib.hid e1; have O1 := Lib.hid o1; have T1 := Lib.hid t1; have Q1 := Lib.hid b1; have z9 := (HB2 W2 X2V.out).out; obtain ⟨w0, w1, w2, w3, w4, w5, w6, w7⟩ := (HP W2 X2.out).out; clear e1 o1 t1 b1 x1)
    | (go_simp; go_at_call 35; (with_reducible refine (HBB _ X2.out).out.mono ?_); rintro e W3 ⟨M2, a2, k2, rfl, e2, o2, t2, b2, x2⟩; have X3 := Lib.hid (X2.out.trans x2); have X23 := Lib.hid x2; have E2 := Lib.hid e2; have O2 := Lib.hid o2; have T2 := Lib.hid t2; have Q2 := Lib.hid b2; clear e2 o2 t2 b2 x2)
    | (have hm1 : M1.length ≤ 1000000 := by (have := congrArg List.length E1.out; simp at this; omega)
       have hm2 : M2.length ≤ 1000000 := by (have := congrArg List.length E2.out; simp at this; omega)
       refine step_append_src (P := Tryz.prog) rfl (.tmp 9) (.tmp 14) 28 rfl 30 i1 _ 4 56 Tryz.underlying28 hi1 hz0 hz1 hz2 rfl (by omega) (.slice a1 M1.length k1) rfl _ _ _ rfl M1.length (flat tmC M1) (own_ext O1.out X23.out) (flat tmC M2) (El.Src.of_own O2.out) (fun u hu => by obtain ⟨p, _, h⟩ := List.mem_flatMap.1 hu; exact tmC_one p u h) (by unfold maxLen; omega) (by omega) ?_
       intro v3 w3 ho3 hm3 hb3
       obtain ⟨A3, c3, rfl⟩ := own_value ho3
       have O3 := Lib.hid ho3
       have N3 := Lib.hid hm3
       have P3 := Lib.hid hb3
       clear ho3 hm3 hb3)))
   all_goals
    go_wp2_with fail
    go_ret
    have hx3 : Ext w w3 := ext_mods X3.out N3.out (fun k hk => Nat.le_trans HX.out.drew.size (Q1.out k (mem_ownL hk)))
    refine ⟨M1 ++ M2, A3, c3, by rw [List.length_append]; rfl, by rw [List.map_append, E1.out, E2.out], by rw [List.length_append]; simpa [flat] using O3.out, fun p hp => ?_, fun b hb => ?_, hx3⟩
    ·rcases List.mem_append.1 hp with hp | hp
     ·exact TmIn.mods N3.out (fun k hk hin => by have := Q1.out k (mem_ownL hin); have := HD.out k hk; have := HX.out.drew.size; omega) (fun k h => h) ((T1.out p hp).ext X23.out)
     ·exact TmIn.mods N3.out (fun k hk hin => by have := Q1.out k (mem_ownL hin); have := HD.out k hk; have := HX.out.drew.size; omega) (fun k h => h) (T2.out p hp)
    ·rw [List.length_append] at hb
     have hs3 := X3.out.size
     rcases P3.out with h | h
     ·exact Nat.le_trans HX.out.drew.size (Q1.out b (h ▸ hb))
     ·have := h.symm.trans hb
      injection this with this
      omega
  ·have hcf : isC (.mk k n s l) comB 2 = false := by simpa using hc
   have HC : ∀ W : World, Hid (Calls Tryz.prog 34 #[.agg #[.int .i64 k, .int .i64 n, .string s, .slice A l.length c], .string comB, .int .i64 2] W fun e w' => e = .returned (.bool false) ∧ Ext W w') := fun W => Lib.hid (by have := refCompI_any (.mk k n s l) A c comB 2 W; rw [hcf] at this; exact this)
   have hfl : flatN (N + 1) (.mk k n s l) = if k = 3 ∧ s = truB then [] else [.mk k n s l] := by
    simp only [flatN, if_neg hc]
    rfl
   rw [hfl]
   unfold tmVal
   simp only [Tm.k, Tm.n, Tm.s, Tm.l]
   clear hc hcf hfl ht IH hD hN hbig
   unfold comB at *
   have HB2 := fun (W : World) (x : Ext (w.alloc (.cells #[.int .i64 k, .int .i64 n, .string s, .slice A l.length c] 30)) W) => Lib.hid (HB.out.ext x).cell
   by_cases hk : k = 3 ∧ s = truB
   ·rw [if_pos hk]
    obtain ⟨rfl, hs⟩ := hk
    have q1 : (s.toList == [116, 114, 117, 101]) = true := by rw [str_lit]; exact decide_eq_true hs
    clear hs
    go_enter Tryz.func35, Tryz.ntmps35
    go_wp2_with (go_at_call 34; refine (HC _).out.mono ?_; rintro e W1 ⟨rfl, x⟩; have X1 := Lib.hid (HX.out.trans x); have z9 := (HB2 _ x).out; clear x)
    go_ret
    exact ⟨[], none, 0, rfl, rfl, World.ownsRow_nil _ _ _ _, fun p hp => by simp at hp, fun b hb => by simp [Value.ownBlock] at hb, X1.out⟩
   ·rw [if_neg hk]
    have HF : ∀ W : World, Ext w W → Hid (FlPost D w [.mk k n s l] (.returned (.slice (some ⟨W.heap.size, 0, none⟩) 1 1)) (W.alloc (.cells #[.int .i64 k, .int .i64 n, .string s, .slice A l.length c] 30))) := fun W x =>
     Lib.hid ⟨[(.mk k n s l, A, c)], some ⟨W.heap.size, 0, none⟩, 1, rfl, rfl, World.ownsRow_lit W #[.int .i64 k, .int .i64 n, .string s, .slice A l.length c] 1 (Nat.zero_le _) (by unfold maxLen; omega) rfl, fun p hp => by simp only [List.mem_cons, List.not_mem_nil, or_false] at hp; subst hp; exact H.out.ext (x.alloc _), fun b hb => by simp [Value.ownBlock] at hb; have := x.size; omega, x.alloc _⟩
    by_cases h3 : k = 3
    ·subst h3
     have q1 : (s.toList == [116, 114, 117, 101]) = false := by rw [str_lit]; exact decide_eq_false (fun e => hk ⟨rfl, e⟩)
     clear hk
     go_enter Tryz.func35, Tryz.ntmps35
     go_wp2_with (go_at_call 34; refine (HC _).out.mono ?_; rintro e W1 ⟨rfl, x⟩; have X1 := Lib.hid (HX.out.trans x); have z9 := (HB2 _ x).out; clear x)
     go_ret
     exact (HF _ X1.out).out
    ·have q3 : (k == 3) = false := by simpa using h3
     clear hk
     go_enter Tryz.func35, Tryz.ntmps35
     go_wp2_with (go_at_call 34; refine (HC _).out.mono ?_; rintro e W1 ⟨rfl, x⟩; have X1 := Lib.hid (HX.out.trans x); have z9 := (HB2 _ x).out; clear x)
     go_ret
     exact (HF _ X1.out).out
end Go.Proofs.YtmnnhdegoapfcaaGreatDoor

/- Layer 17, plain: how much code a maker adds, how many registers it takes. No program in sight. -/
namespace Go.El
structure Bd (m m' : Mk) (a b : Nat) : Prop where
 lo : m.next ≤ m'.next
 hi : m'.next ≤ m.next + a
 ol : m.out.length ≤ m'.out.length
 oh : m'.out.length ≤ m.out.length + b
theorem Bd.refl (m : Mk) (a b : Nat) : Bd m m a b := ⟨Int.le_refl _, by omega, Nat.le_refl _, by omega⟩
theorem Bd.trans {m m1 m2 : Mk} {a b c d : Nat} (h : Bd m m1 a b) (g : Bd m1 m2 c d) : Bd m m2 (a + c) (b + d) := by
 have := h.lo
 have := h.hi
 have := h.ol
 have := h.oh
 have := g.lo
 have := g.hi
 have := g.ol
 have := g.oh
 exact ⟨by omega, by omega, by omega, by omega⟩
theorem Bd.mono {m m' : Mk} {a b c d : Nat} (h : Bd m m' a b) (h1 : a ≤ c) (h2 : b ≤ d) : Bd m m' c d := by
 have := h.hi
 have := h.oh
 exact ⟨h.lo, by omega, h.ol, by omega⟩
theorem bd_add (m : Mk) (i : Ins) : Bd m (m.add i) 0 1 := ⟨Int.le_refl _, by simp [Mk.add], by simp [Mk.add], by simp [Mk.add]⟩
theorem bd_take (m : Mk) : Bd m m.take 1 0 := ⟨take_next m, by simp [Mk.take], Nat.le_refl _, by simp [Mk.take]⟩
theorem bd_pick (S : List Int) (m : Mk) (n : Int) : Bd m (m.pick S n).2.2 1 0 := by
 refine ⟨pick_next S m n, ?_, by rw [pick_out]; omega, by rw [pick_out]; omega⟩
 unfold Mk.pick
 split
 ·simp only; omega
 ·split
  ·simp only; omega
  ·simp [Mk.take]
theorem bd_simple {S : List Int} {m m' : Mk} {t : Tm} {o a : Int} (h : m.simple S t o a = some m') : Bd m m' 1 1 := by
 unfold Mk.simple at h
 split at h
 ·injection h with h
  subst h
  exact (bd_pick S m t.n).trans (bd_add _ _)
 ·split at h
  ·injection h with h
   subst h
   exact (bd_add _ _).mono (by omega) (by omega)
  ·split at h
   ·injection h with h
    subst h
    exact (bd_add _ _).mono (by omega) (by omega)
   ·cases h
theorem simple_k4 {S : List Int} {m : Mk} {t : Tm} {o a : Int} (h : t.k = 4) : m.simple S t o a = none := by
 unfold Mk.simple
 rw [if_neg (by omega), if_neg (by omega), if_neg (by omega)]
def szN : List (Tm × Int) → Nat
 | [] => 0
 | x :: q => szL x.1.l + szN q
def szO : List (Tm × Int) → Nat
 | [] => 0
 | x :: q => 1 + 2 * szL x.1.l + szO q
theorem szN_app : ∀ (a b : List (Tm × Int)), szN (a ++ b) = szN a + szN b
 | [], b => by simp [szN]
 | x :: a, b => by simp only [List.cons_append, szN]; rw [szN_app a b]; omega
theorem szO_app : ∀ (a b : List (Tm × Int)), szO (a ++ b) = szO a + szO b
 | [], b => by simp [szO]
 | x :: a, b => by simp only [List.cons_append, szO]; rw [szO_app a b]; omega
theorem szT_l (t : Tm) : szT t = 1 + szL t.l := by cases t; rfl
theorem bd_uniS (S : List Int) : ∀ (l : List Tm) (m : Mk), Bd m (m.uniS S l).1 l.length l.length ∧ l.length + szN (m.uniS S l).2 ≤ szL l ∧ l.length + szO (m.uniS S l).2 ≤ 2 * szL l
 | [], m => ⟨.refl _ _ _, Nat.le_refl _, Nat.le_refl _⟩
 | t :: r, m => by
  have h0 := szT_l t
  simp only [Mk.uniS, szL, List.length_cons]
  split
  ·next m' h =>
   obtain ⟨h1, h2, h3⟩ := bd_uniS S r m'
   exact ⟨((bd_simple h).trans h1).mono (by omega) (by omega), by omega, by omega⟩
  ·obtain ⟨h1, h2, h3⟩ := bd_uniS S r (m.take.add ⟨6, ⟨#[]⟩, 0, m.next + 1, 0⟩)
   exact ⟨(((bd_take m).trans (bd_add _ _)).trans h1).mono (by omega) (by omega), by simp only [szN]; omega, by simp only [szO]; omega⟩
theorem bd_struc (S : List Int) (m : Mk) (x : Tm × Int) : Bd m (m.struc S x).1 x.1.l.length (x.1.l.length + 1) ∧ x.1.l.length + szN (m.struc S x).2 ≤ szL x.1.l ∧ x.1.l.length + szO (m.struc S x).2 ≤ 2 * szL x.1.l := by
 unfold Mk.struc
 obtain ⟨h1, h2⟩ := bd_uniS S x.1.l (m.add ⟨5, x.1.s, x.1.l.length, 0, x.2⟩)
 exact ⟨((bd_add m _).trans h1).mono (by omega) (by omega), h2⟩
theorem bd_queue (S : List Int) : ∀ (f : Nat) (m : Mk) (q : List (Tm × Int)), Bd m (m.queue S f q) (szN q) (szO q)
 | 0, m, q => .refl _ _ _
 | _ + 1, m, [] => .refl _ _ _
 | f + 1, m, x :: q => by
  simp only [Mk.queue]
  split
  ·exact .refl _ _ _
  ·obtain ⟨h1, h2, h4⟩ := bd_struc S m x
   have h3 := bd_queue S f (m.struc S x).1 (q ++ (m.struc S x).2)
   rw [szN_app, szO_app] at h3
   simp only [szN, szO]
   exact (h1.trans h3).mono (by omega) (by omega)
theorem bd_get (S : List Int) (m : Mk) (t : Tm) (a : Int) : Bd m (m.get S t a) (szT t) (2 * szT t) := by
 have h0 := szT_l t
 unfold Mk.get
 split
 ·next m' h => exact (bd_simple h).mono (by omega) (by omega)
 ·exact (bd_queue S (szT t) m [(t, a)]).mono (by simp only [szN]; omega) (by simp only [szO]; omega)
theorem bd_setS (S : List Int) : ∀ (l : List (Tm × Int)) (m : Mk), Bd m (setS S m l) (l.filter fun x => decide (x.1.k ≠ 4)).length l.length
 | [], m => .refl _ _ _
 | x :: r, m => by
  simp only [setS, List.filter_cons, List.length_cons]
  have h2 := bd_setS S r ((m.simple S x.1 15 0).getD (m.add ⟨16, ⟨#[]⟩, 0, x.2, 0⟩))
  cases h : m.simple S x.1 15 0 with
  | none =>
   rw [h] at h2
   exact ((bd_add m _).trans h2).mono (by split <;> simp <;> omega) (by omega)
  | some m' =>
   rw [h] at h2
   have hk : x.1.k ≠ 4 := fun e => by rw [simple_k4 e] at h; cases h
   rw [if_pos (by simpa using hk)]
   exact ((bd_simple h).trans h2).mono (by simp; omega) (by omega)
def szC : List Tm → Nat
 | [] => 0
 | t :: r => (if t.k = 4 then szT t else 0) + szC r
def szS : List Tm → Nat
 | [] => 0
 | t :: r => (if t.k = 4 then 0 else 1) + szS r
theorem szCS : ∀ l : List Tm, szC l + szS l ≤ szL l
 | [] => Nat.le_refl _
 | t :: r => by
  have := szCS r
  have := szT_pos t
  simp only [szC, szS, szL]
  split <;> omega
theorem putL_len (S : List Int) : ∀ (l : List Tm) (m : Mk), (putL S l m).2.length = l.length
 | [], m => rfl
 | t :: r, m => by
  simp only [putL]
  split <;> simp [putL_len S r]
theorem zip_szS : ∀ (l : List Tm) (q : List Int), q.length = l.length → ((l.zip q).filter fun x => decide (x.1.k ≠ 4)).length = szS l
 | [], q, _ => rfl
 | t :: r, [], h => by simp at h
 | t :: r, x :: q, h => by
  have := zip_szS r q (by simpa using h)
  simp only [List.zip_cons_cons, List.filter_cons, szS]
  by_cases hk : t.k = 4
  ·simp [hk] at this ⊢; exact this
  ·simp [hk] at this ⊢; omega
mutual
theorem bd_putT (S : List Int) : ∀ (t : Tm) (a : Int) (m : Mk), Bd m (putT S t a m) (if t.k = 4 then szL t.l else 1) (1 + 2 * szL t.l) ∨ (t.k ≠ 4 ∧ Bd m (putT S t a m) (szL t.l) (1 + 2 * szL t.l))
 | .mk k n s l, a, m => by
  simp only [putT]
  split
  ·next m' h =>
   have h1 := (simple_k4 (S := S) (m := m) (t := .mk k n s l) (o := 10) (a := a))
   have hk : k ≠ 4 := fun e => by rw [h1 e] at h; cases h
   refine .inl ?_
   show Bd m m' (if k = 4 then szL l else 1) (1 + 2 * szL l)
   rw [if_neg hk]
   exact (bd_simple h).mono (by omega) (by omega)
  ·have key : Bd m (if m.full then m else setS S ((putL S l m).1.add ⟨14, s, l.length, 0, a⟩) (l.zip (putL S l m).2)) (szL l) (1 + 2 * szL l) := by
    split
    ·exact .refl _ _ _
    ·have h1 := bd_putL S l m
     have h2 := bd_setS S (l.zip (putL S l m).2) ((putL S l m).1.add ⟨14, s, l.length, 0, a⟩)
     rw [zip_szS l _ (putL_len S l m), List.length_zip, putL_len] at h2
     have h3 := szCS l
     have h4 := len_szL l
     exact ((h1.trans (bd_add _ _)).trans h2).mono (by omega) (by omega)
   by_cases hk : k = 4
   ·refine .inl ?_
    show Bd m _ (if k = 4 then szL l else 1) (1 + 2 * szL l)
    rw [if_pos hk]
    exact key
   ·exact .inr ⟨hk, key⟩
theorem bd_putL (S : List Int) : ∀ (l : List Tm) (m : Mk), Bd m (putL S l m).1 (szC l) (2 * szL l - l.length)
 | [], m => .refl _ _ _
 | t :: r, m => by
  have h0 := szT_l t
  have h4 := len_szL r
  simp only [putL, szC, szL, List.length_cons]
  split
  ·next hk =>
   have h1 := bd_putT S t (m.next + 1) m.take
   rw [if_pos hk] at h1
   have h2 := bd_putL S r (putT S t (m.next + 1) m.take)
   have h3 : Bd m.take (putT S t (m.next + 1) m.take) (szL t.l) (1 + 2 * szL t.l) := by
    rcases h1 with h1 | ⟨h1, _⟩
    ·exact h1
    ·exact absurd hk h1
   exact (((bd_take m).trans h3).trans h2).mono (by omega) (by omega)
  ·have h2 := bd_putL S r m
   exact h2.mono (by omega) (by omega)
end
theorem bd_put (S : List Int) (t : Tm) (a : Int) (m : Mk) : Bd m (putT S t a m) (szT t) (2 * szT t) := by
 have h0 := szT_l t
 rcases bd_putT S t a m with h | ⟨_, h⟩
 ·exact h.mono (by split <;> omega) (by omega)
 ·exact h.mono (by omega) (by omega)
theorem bd_putR (S : List Int) : ∀ (l : List Tm) (a : Int) (m : Mk), Bd m (putR S l a m) (szL l) (2 * szL l)
 | [], _, m => .refl _ _ _
 | t :: r, a, m => by
  simp only [putR, szL]
  exact ((bd_put S t a m).trans (bd_putR S r (a + 1) _)).mono (Nat.le_refl _) (by omega)
theorem bd_head (S : List Int) : ∀ (l : List Tm) (a : Int) (m : Mk), Bd m (headF S l a m) (szL l) (2 * szL l)
 | [], _, m => .refl _ _ _
 | t :: r, a, m => by
  simp only [headF, szL]
  exact ((bd_get S m t a).trans (bd_head S r (a + 1) _)).mono (Nat.le_refl _) (by omega)
theorem bd_args (p : PlanV) (m : Mk) (g : Int × Tm) : Bd m (argsF p m g) (szT g.2) (2 * szT g.2 + 1) := by
 have h0 := szT_l g.2
 unfold argsF
 split
 ·exact ((bd_put p.slots g.2 1 m).trans (bd_add _ _)).mono (by omega) (by omega)
 ·split
  ·exact ((bd_put p.slots g.2 1 m).trans (bd_add _ _)).mono (by omega) (by omega)
  ·exact (bd_putR p.slots g.2.l 1 m).mono (by omega) (by omega)
theorem bd_leave (p : PlanV) (m : Mk) : Bd m (leaveF p m) 0 1 := by
 unfold leaveF
 split
 ·exact bd_add _ _
 ·exact .refl _ _ _
theorem bd_call (p : PlanV) (m : Mk) (g : Int × Tm) (live : Int) : Bd m (callF p m g live) (szT g.2) (2 * szT g.2 + 3) := by
 have h0 := szT_l g.2
 have h1 := bd_args p m g
 unfold callF
 simp only
 split
 ·split
  ·exact (h1.trans (bd_add _ _)).mono (by omega) (by omega)
  ·exact (h1.trans (bd_add _ _)).mono (by omega) (by omega)
 ·split
  ·exact ((h1.trans (bd_leave p _)).trans (bd_add _ _)).mono (by omega) (by omega)
  ·exact ((h1.trans (bd_leave p _)).trans (bd_add _ _)).mono (by omega) (by omega)
def szG : List (Int × Tm) → Nat
 | [] => 0
 | g :: r => szT g.2 + szG r
def Rm (m : Mk) (k : Nat) : Prop := 0 ≤ m.next ∧ m.next + k ≤ 1000000000 ∧ m.out.length + k ≤ 1000000000
theorem Rm.go {m m' : Mk} {a b k : Nat} (h : Rm m (k + (a + b))) (g : Bd m m' a b) : Rm m' k := by
 obtain ⟨h1, h2, h3⟩ := h
 have := g.lo
 have := g.hi
 have := g.oh
 exact ⟨by omega, by omega, by omega⟩
theorem Rm.mono {m : Mk} {a b : Nat} (h : Rm m a) (hb : b ≤ a) : Rm m b := ⟨h.1, by have := h.2.1; omega, by have := h.2.2; omega⟩
end Go.El
