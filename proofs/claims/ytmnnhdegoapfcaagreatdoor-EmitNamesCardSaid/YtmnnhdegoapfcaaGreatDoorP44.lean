/- Layer 6, the reference: the walk of Replace (variables by variables). -/
import Derived.Test.YtmnnhdegoapfcaaGreatDoorP30
import Derived.Test.YtmnnhdegoapfcaaGreatDoorP11
import Derived.Test.YtmnnhdegoapfcaaGreatDoorP41
namespace Go.El
theorem rpL_take (f : Int → Int) : ∀ {l : List Tm} {j : Nat} {u : Tm}, l[j]? = some u → rpL f (l.take (j + 1)) = rpL f (l.take j) ++ [rpT f u]
 | [], j, u, h => by simp at h
 | a :: r, 0, u, h => by
  simp at h
  subst h
  simp [rpL]
 | a :: r, j + 1, u, h => by
  have := rpL_take f (l := r) (j := j) (u := u) (by simpa using h)
  simp only [List.take_succ_cons, rpL]
  rw [this]
  rfl
end Go.El
namespace Go.Proofs.YtmnnhdegoapfcaaGreatDoor
open Go.RowKit Go.El
set_option maxRecDepth 100000 in
set_option maxHeartbeats 4000000 in
theorem refRepVar_any (n : Int) (s : ByteArray) (A : Option Addr) (m c : Nat) (f : Int → Int) (V : List Int) (hVf : ∀ (i : Nat) (x : Int), V[i]? = some x → x = f i) (AV : Option Addr) (cV : Nat) (w : World) (hV : El.Src w AV V.length 4 (flat tmC (V.map vP))) (hn : n ∈ rng V.length) :
  Calls Tryz.prog 18 #[.agg #[.int .i64 1, .int .i64 n, .string s, .slice A m c], .slice AV V.length cV] w fun e w' => e = .returned (.agg #[.int .i64 1, .int .i64 (f n), .string ⟨#[]⟩, .slice none 0 0]) ∧ Ext w w' := by
 obtain ⟨h0, h1⟩ := rng_mem.1 hn
 obtain ⟨j, rfl⟩ : ∃ j : Nat, n = (j : Int) := ⟨n.toNat, by omega⟩
 have hj : j < V.length := by omega
 have ho : V[j]? = some V[j] := List.getElem?_eq_getElem hj
 have he := hVf j _ ho
 have hop : (V.map vP)[j]? = some (vP V[j]) := by rw [List.getElem?_map, ho]; rfl
 rw [← he]
 generalize V[j] = x at hop
 have hml : (V.map vP).length = V.length := List.length_map _
 rw [← hml] at hV
 obtain ⟨b, off, hA, d0, d1, d2, d3⟩ := tm_at4 hV hop
 subst hA
 have q1 : (j : Int) < (V.length : Int) := by omega
 have hx2 := ((Ext.refl w).alloc (.cells #[.int .i64 1, .int .i64 j, .string s, .slice A m c] 30)).alloc (.cells #[.int .i64 0, .int .i64 0, .string ⟨#[]⟩, .slice none 0 0] 30)
 clear hV hn hop ho he hVf hml h0 h1
 go_enter Tryz.func18, Tryz.ntmps18
 go_upto_region 1 with fail
 refine wp_abs (fun W => Hid (Blk W (w.heap.size + 1) 30 #[.int .i64 0, .int .i64 0, .string ⟨#[]⟩, .slice none 0 0]) ∧ Hid (Blk W w.heap.size 30 #[.int .i64 1, .int .i64 j, .string s, .slice A m c]) ∧ Hid (Ext w W)) ⟨sh2b, (Blk.new w _ _).alloc _, hx2⟩ ?_
 rintro W ⟨HZ, HB, HX⟩
 have x9 := HB.out.cell
 have zc := HZ.out.cell
 have zf := HZ.out.frozen
 have e0 : W.cell? ⟨b, off + j * 4, none⟩ = some (.int .i64 1) := HX.out.cell d0
 have e1 : W.cell? ⟨b, off + j * 4 + 1, none⟩ = some (.int .i64 x) := HX.out.cell d1
 have e2 : W.cell? ⟨b, off + j * 4 + 2, none⟩ = some (.string ⟨#[]⟩) := HX.out.cell d2
 have e3 : W.cell? ⟨b, off + j * 4 + 3, none⟩ = some (.slice none 0 0) := HX.out.cell d3
 clear d0 d1 d2 d3
 go_wp2_with fail
 have kb := st4_blk HZ.out 1 x ⟨#[]⟩ none 0 0
 have kx := st4_ext HX.out (show w.heap.size ≤ w.heap.size + 1 by omega) 1 x ⟨#[]⟩ none 0 0
 unfold st4 at kb kx
 have kc := kb.cell
 exact bodyPost_ret (v := .agg #[.int .i64 1, .int .i64 x, .string ⟨#[]⟩, .slice none 0 0]) (by simp [results, Tryz.results18, go_sem, kc]) rfl ⟨rfl, kx⟩
set_option maxRecDepth 100000 in
set_option maxHeartbeats 4000000 in
theorem refReplace_any : ∀ (N : Nat) (t : Tm), szT t ≤ N → szT t ≤ 100000000 → ∀ (f : Int → Int) (V : List Int), (∀ (i : Nat) (x : Int), V[i]? = some x → x = f i) → ∀ (AV : Option Addr) (cV : Nat) (A : Option Addr) (c : Nat) (w : World) (D : Nat → Prop), V.length ≤ 1000000000 → TmIn D w t A c → El.Src w AV V.length 4 (flat tmC (V.map vP)) → hvT t (rng V.length) = true →
  Calls Tryz.prog 18 #[tmVal t A c, .slice AV V.length cV] w (NumPost (rpT f t) w)
 | 0, t, h => by
  have := szT_pos t
  omega
 | N + 1, .mk k n s l, hN => by
  intro hbig f V hVf AV cV A c w D hVl ht hV hhv
  obtain ⟨i1, hi1, hz0, hz1, hz2⟩ := infoP tmInfo4
  have IH := refReplace_any N
  simp only [szT] at hN hbig
  simp only [hvT] at hhv
  by_cases hk : k = 1
  ·subst hk
   rw [if_pos rfl] at hhv
   have hm := of_decide_eq_true hhv
   rw [show rpT f (.mk 1 n s l) = .mk 1 (f n) ⟨#[]⟩ [] by simp [rpT]]
   exact (refRepVar_any n s A l.length c f V hVf AV cV w hV hm).mono fun e w' ⟨h1, h2⟩ => ⟨none, 0, h1, TmsIn.term (TmsIn.nil _ _ _ _) _ _ _, h2⟩
  ·have hk2 : (k == 1) = false := by simpa using hk
   rw [if_neg hk] at hhv
   have hpost : ∀ e w', (∃ A' c', e = .returned (.agg #[.int .i64 k, .int .i64 n, .string s, .slice A' l.length c']) ∧ TmIn (fun k => w.heap.size ≤ k ∧ k < w'.heap.size) w' (.mk k n s (rpL f l)) A' c' ∧ Ext w w') → NumPost (rpT f (.mk k n s l)) w e w' := fun e w' ⟨A', c', h1, h2, h3⟩ => by
    rw [show rpT f (.mk k n s l) = .mk k n s (rpL f l) by simp [rpT, hk]]
    refine ⟨A', c', ?_, h2, h3⟩
    rw [h1]
    unfold tmVal
    simp only [Tm.k, Tm.n, Tm.s, Tm.l, rpL_len]
   refine Calls.mono ?_ hpost
   have H := Lib.hid ht
   have HV := Lib.hid hV
   have HHV := Lib.hid hhv
   unfold tmVal
   simp only [Tm.k, Tm.n, Tm.s, Tm.l]
   clear hk hpost ht hV hhv
   go_enter Tryz.func18, Tryz.ntmps18
   go_upto_region 6 with fail
   refine wp_abs (fun W => Hid (Blk W (w.heap.size + 1 + 1) 30 #[.int .i64 k, .int .i64 n, .string s, .slice none 0 0]) ∧ Hid (Blk W (w.heap.size + 1) 30 #[.int .i64 0, .int .i64 0, .string ⟨#[]⟩, .slice none 0 0]) ∧ Hid (Blk W w.heap.size 30 #[.int .i64 k, .int .i64 n, .string s, .slice A l.length c]) ∧ Hid (Ext w W)) ⟨blk3, blk2, ((Blk.new w _ _).alloc _).alloc _, (((Ext.refl w).alloc _).alloc _).alloc _⟩ ?_
   rintro W ⟨HB0, HZ0, HT0, HX0⟩
   have hlw := len_szL l
   go_wp2_with fail
   go_loopw [6] (fun i wr => ∃ (j : Nat) (v : Value) (M : List TmP), j ≤ l.length ∧ i = .int .i64 j ∧ Hid (M.map (·.1) = rpL f (l.take j)) ∧ Hid (RowT w W.heap.size wr v M) ∧ Hid (Blk wr (w.heap.size + 1 + 1) 30 #[.int .i64 k, .int .i64 n, .string s, v]) ∧ Hid (Blk wr (w.heap.size + 1) 30 #[.int .i64 0, .int .i64 0, .string ⟨#[]⟩, .slice none 0 0]) ∧ Hid (Blk wr w.heap.size 30 #[.int .i64 k, .int .i64 n, .string s, .slice A l.length c])) (fun i _ => l.length - (intOf i).toNat)
   case atStart => exact ⟨0, _, [], Nat.zero_le _, rfl, Lib.hid (by simp [rpL]), RowT.start HX0.out, HB0.out, HZ0.out, HT0⟩
   case round =>
    obtain ⟨j, v, M, hj, rfl, HM, HR, HB, HZ, HT⟩ := hrel
    have hMl : M.length = j := by
     have := congrArg List.length HM.out
     simp only [List.length_map, rpL_len, List.length_take] at this
     omega
    subst hMl
    have y0 : wr.cell? ⟨w.heap.size, 0, none⟩ = some (.int .i64 k) := HT.out.cell 0
    have y3 : wr.cell? ⟨w.heap.size, 3, none⟩ = some (.slice A l.length c) := HT.out.cell 3
    by_cases hlt : M.length < l.length
    ·have ho : l[M.length]? = some l[M.length] := List.getElem?_eq_getElem hlt
     have hsu := szL_get ho
     have hst := szL_take ho
     have hsl := szL_take_le l (M.length + 1)
     have hou := hvL_get HHV.out ho
     have hMn : Hid (∀ q : TmP, q.1 = rpT f l[M.length] → (M ++ [q]).map (·.1) = rpL f (l.take (M.length + 1))) := fun q hq => by
      rw [List.map_append, HM.out, rpL_take f ho]
      simp [hq]
     generalize l[M.length] = u at ho hou hMn hsu hst
     obtain ⟨bb, off, A', c', rfl, _, hu, q0, q1, q2, q3⟩ := (TmIn.ext HR.out.ext H.out).child ho
     obtain ⟨Av, cv, rfl⟩ := own_value HR.out.own
     have HC := fun (W : World) (x : Ext wr W) => Lib.hid (IH u (by omega) (by omega) f V hVf AV cV A' c' W D hVl (TmIn.ext x hu) ((HV.out.ext HR.out.ext).ext x) hou)
     unfold tmVal at HC
     have hglt : w.heap.size + 1 + 1 < W.heap.size := HB0.out.lt
     have hVw := HR.out.low
     have z3 : wr.drew.cell? ⟨w.heap.size + 1 + 1, 3, none⟩ = some (.slice Av M.length cv) := HB.out.cell 3
     have y3' : wr.drew.cell? ⟨w.heap.size, 3, none⟩ = some (.slice (some ⟨bb, off, none⟩) l.length c) := y3
     have z4 := ((Ext.refl wr).drew).cell q0
     have z5 := ((Ext.refl wr).drew).cell q1
     have z6 := ((Ext.refl wr).drew).cell q2
     have z7 := ((Ext.refl wr).drew).cell q3
     generalize hnu : rpT f u = nu at *
     have HNU := Lib.hid hnu
     clear ho hu hou hnu
     go_upto_region 9 with fail
     clear q0 q1 q2 q3 y3 y0
     go_region_law ((first | (go_simp; go_at_call 18; refine (HC _ ((Ext.refl wr).drew)).out.mono ?_; rintro e W2 ⟨A2, c2, rfl, ht2, hx2⟩; have y3 := hx2.cell z3; have y4 := (ext_box W2 (.cells #[.int .i64 nu.k, .int .i64 nu.n, .string nu.s, .slice A2 nu.l.length c2] 30)).cell y3; unfold tmVal) | (refine step_append_src (P := Tryz.prog) rfl (.tmp 36) (.tmp 44) 28 rfl 30 i1 _ 4 56 Tryz.underlying28 hi1 hz0 hz1 hz2 rfl (by omega) (.slice Av M.length cv) rfl _ _ _ rfl M.length (flat tmC M) (own_ext HR.out.own (((Ext.refl wr).drew.trans hx2).alloc _)) (tmC (nu, A2, c2)) (El.Src.new _ #[.int .i64 nu.k, .int .i64 nu.n, .string nu.s, .slice A2 nu.l.length c2] _ 1 4 rfl) (tmC_one _) (by unfold maxLen; omega) (by omega) ?_; intro v3 w3 ho3 hm3 hb3; obtain ⟨A3, c3, rfl⟩ := own_value ho3; have hR3 := RowT.step (p := (nu, A2, c2)) HR.out (((Ext.refl wr).drew.trans hx2).alloc _) (kid_new HR.out (Ext.refl wr) ht2) ho3 hm3 hb3; have hB3 := (HB.out.ext (((Ext.refl wr).drew.trans hx2).alloc _)).mods hm3 (HR.out.no hglt); have hZ3 := (HZ.out.ext (((Ext.refl wr).drew.trans hx2).alloc _)).mods hm3 (HR.out.no (by omega)); have hT3 := (HT.out.ext (((Ext.refl wr).drew.trans hx2).alloc _)).mods hm3 (HR.out.no (by omega)); have k3 : w3.cell? ⟨w.heap.size + 1 + 1, 3, none⟩ = some (.slice Av M.length cv) := hB3.cell 3; have f3 := hB3.frozen 3; have HR3 := Lib.hid hR3; have HB3 := Lib.hid hB3; have HZ3 := Lib.hid hZ3; have HT3 := Lib.hid hT3; clear hR3 hB3 hZ3 hT3 ho3 hm3 hb3)))
     all_goals
      go_wp2_with fail
      go_roundw
      case rel => exact ⟨M.length + 1, _, M ++ [(nu, A2, c2)], hlt, by go_num, hMn.out _ rfl, HR3.out.set_ (by omega) hglt 3 _, HB3.out.set_ 3 _, HZ3.out.far (p := ⟨w.heap.size + 1 + 1, 3, none⟩) (by simp) _, HT3.out.far (p := ⟨w.heap.size + 1 + 1, 3, none⟩) (by simp; omega) _⟩
      case measure => simp [intOf]; omega
    ·have hMl : M.length = l.length := by omega
     rw [hMl, List.take_length] at HM
     obtain ⟨A2, c2, rfl, ht2⟩ := HR.out.done k n s
     rw [HM.out] at ht2
     rw [hMl] at HB hlt ⊢
     have b0 : wr.cell? ⟨w.heap.size + 1 + 1, 0, none⟩ = some (.int .i64 k) := HB.out.cell 0
     have b1 : wr.cell? ⟨w.heap.size + 1 + 1, 1, none⟩ = some (.int .i64 n) := HB.out.cell 1
     have b2 : wr.cell? ⟨w.heap.size + 1 + 1, 2, none⟩ = some (.string s) := HB.out.cell 2
     have b3 : wr.cell? ⟨w.heap.size + 1 + 1, 3, none⟩ = some (.slice A2 l.length c2) := HB.out.cell 3
     have zc := HZ.out.cell
     have zf := HZ.out.frozen
     have hgl : w.heap.size + 1 + 1 < W.heap.size := HB0.out.lt
     have hbf := (((HZ.out.set_ 0 (.int .i64 k)).set_ 1 (.int .i64 n)).set_ 2 (.string s)).set_ 3 (.slice A2 l.length c2)
     have hEF := (((HR.out.ext.setCell (p := ⟨w.heap.size + 1, 0, none⟩) (by simp) (.int .i64 k)).setCell (p := ⟨w.heap.size + 1, 1, none⟩) (by simp) (.int .i64 n)).setCell (p := ⟨w.heap.size + 1, 2, none⟩) (by simp) (.string s)).setCell (p := ⟨w.heap.size + 1, 3, none⟩) (by simp) (.slice A2 l.length c2)
     have hTF := TmIn.mods (S := [w.heap.size + 1]) (D' := fun i => w.heap.size ≤ i ∧ i < ((((wr.setCell ⟨w.heap.size + 1, 0, none⟩ (.int .i64 k)).setCell ⟨w.heap.size + 1, 1, none⟩ (.int .i64 n)).setCell ⟨w.heap.size + 1, 2, none⟩ (.string s)).setCell ⟨w.heap.size + 1, 3, none⟩ (.slice A2 l.length c2)).heap.size) (((((Mods.refl _ wr).setCell (p := ⟨w.heap.size + 1, 0, none⟩) (.inl (by simp)) (.int .i64 k)).setCell (p := ⟨w.heap.size + 1, 1, none⟩) (.inl (by simp)) (.int .i64 n)).setCell (p := ⟨w.heap.size + 1, 2, none⟩) (.inl (by simp)) (.string s)).setCell (p := ⟨w.heap.size + 1, 3, none⟩) (.inl (by simp)) (.slice A2 l.length c2)) (fun i hi => by simp; omega) (fun i hi => ⟨by omega, by simpa using hi.2⟩) ht2
     have HBF := Lib.hid hbf
     have HEF := Lib.hid hEF
     have HTF := Lib.hid hTF
     clear hbf hEF hTF ht2 HM HR HB HZ HT
     go_wp2_with fail
     generalize (((wr.setCell ⟨w.heap.size + 1, 0, none⟩ (.int .i64 k)).setCell ⟨w.heap.size + 1, 1, none⟩ (.int .i64 n)).setCell ⟨w.heap.size + 1, 2, none⟩ (.string s)).setCell ⟨w.heap.size + 1, 3, none⟩ (.slice A2 l.length c2) = VF at HBF HEF HTF ⊢
     have r0 : VF.cell? ⟨w.heap.size + 1, 0, none⟩ = some (.int .i64 k) := HBF.out.cell 0
     have r1 : VF.cell? ⟨w.heap.size + 1, 1, none⟩ = some (.int .i64 n) := HBF.out.cell 1
     have r2 : VF.cell? ⟨w.heap.size + 1, 2, none⟩ = some (.string s) := HBF.out.cell 2
     have r3 : VF.cell? ⟨w.heap.size + 1, 3, none⟩ = some (.slice A2 l.length c2) := HBF.out.cell 3
     refine bodyPost_ret (v := .agg #[.int .i64 k, .int .i64 n, .string s, .slice A2 l.length c2]) (by simp [results, Tryz.results18, go_sem, r0, r1, r2, r3]) rfl ⟨A2, c2, rfl, HTF.out, HEF.out⟩
end Go.Proofs.YtmnnhdegoapfcaaGreatDoor

/- Law 17: the walk of EmitNames. -/
namespace Go.El
open Go.Proofs.YtmnnhdegoapfcaaGreatDoor
theorem comp_len (c : Cls) : (compF c).1.length ≤ 4096 := by
 unfold compF
 split
 ·simp
 ·split
  ·simp
  ·next h =>
   unfold Mk.full at h
   simp only [Bool.or_eq_true, decide_eq_true_eq, not_or] at h
   simp only
   omega
def byF (b : Int) (x : Int) : Int := b + 2 * x
def byL (b : Int) (n : Nat) : List Int := (rng n).map (byF b)
theorem byL_len (b : Int) (n : Nat) : (byL b n).length = n := by rw [byL, List.length_map, rng_len]
theorem byL_get {b : Int} {n i : Nat} (h : i < n) : (byL b n)[i]? = some (b + 2 * (i : Int)) := by
 unfold byL rng
 rw [List.getElem?_map, List.getElem?_map, List.getElem?_range h]
 rfl
theorem byL_f (b : Int) (n : Nat) : ∀ (i : Nat) (x : Int), (byL b n)[i]? = some x → x = byF b i := fun i x h => by
 have hi : i < n := by
  have := (List.getElem?_eq_some_iff.1 h).1
  rwa [byL_len] at this
 rw [byL_get hi] at h
 exact (Option.some.inj h).symm
theorem byF_inj {b x y : Int} (h : byF b x = byF b y) : x = y := by
 unfold byF at h
 omega
theorem named_vars (t : Tm) : vsT (rnT t []) [] = rng (vsT t []).length := by
 have h := (rn_again _ t (Nat.le_refl _) []).2
 have hr0 : rng 0 = [] := rfl
 simp only [List.length_nil] at h
 rw [hr0] at h
 exact h
end Go.El
namespace Go.Proofs.YtmnnhdegoapfcaaGreatDoor
open Go.RowKit Go.El
theorem fr_none {w : World} {e : Ending} {w' : World} (h : FrPost w none e w') : (∃ (k n : Int) (s : ByteArray) (A : Option Addr) (m c : Nat), e = .returned (.tuple #[.agg #[.int .i64 0, .int .i64 0, .string ⟨#[]⟩, .slice none 0 0, .slice none 0 0, .int .i64 0], .agg #[.int .i64 k, .int .i64 n, .string s, .slice A m c], .bool false])) ∧ Ext w w' := by
 rcases h with ⟨_, h, x⟩ | ⟨cl, _, _, _, _, h, _⟩
 ·exact ⟨h, x⟩
 ·cases h
theorem fr_some {w : World} {cl : Cls} {e : Ending} {w' : World} (h : FrPost w (some cl) e w') : ∃ (hA : Option Addr) (hc : Nat) (gA : Option Addr) (gc : Nat), e = .returned (.tuple #[.agg #[.int .i64 cl.h.k, .int .i64 cl.h.n, .string cl.h.s, .slice hA cl.h.l.length hc, .slice gA cl.gs.length gc, .int .i64 cl.vars], .agg #[.int .i64 0, .int .i64 0, .string ⟨#[]⟩, .slice none 0 0], .bool true]) ∧ ClIn (fun b => b < w'.heap.size) w' cl hA hc gA gc ∧ Ext w w' := by
 rcases h with ⟨h, _⟩ | ⟨cl2, hA, hc, gA, gc, h, he, hi, x⟩
 ·cases h
 ·obtain rfl := Option.some.inj h
  exact ⟨hA, hc, gA, gc, he, hi, x⟩
structure NaAt (w V : World) (ub : Nat) (k n : Int) (s : ByteArray) (A : Option Addr) (m c : Nat) (u : Tm) (Au : Option Addr) (cu : Nat) : Prop where
 tb : Blk V w.heap.size 30 #[.int .i64 k, .int .i64 n, .string s, .slice A m c]
 ub : Blk V ub 30 #[.int .i64 u.k, .int .i64 u.n, .string u.s, .slice Au u.l.length cu]
 tm : TmIn (fun k => k < V.heap.size) V u Au cu
 ext : Ext w V
theorem NaAt.go {w V V' : World} {ub : Nat} {k n : Int} {s : ByteArray} {A : Option Addr} {m c : Nat} {u : Tm} {Au : Option Addr} {cu : Nat} (h : NaAt w V ub k n s A m c u Au cu) (x : Ext V V') : NaAt w V' ub k n s A m c u Au cu :=
 ⟨h.tb.ext x, h.ub.ext x, (h.tm.ext x).mono (fun _ hk => Nat.lt_of_lt_of_le hk x.size), h.ext.trans x⟩
set_option maxRecDepth 100000 in
set_option maxHeartbeats 8000000 in
theorem emitNames_any (HFC : FromC) (t : Tm) (b : Int) (A : Option Addr) (c : Nat) (w : World) (D : Nat → Prop) (ht0 : TmIn D w t A c) (hf : fitT t = true) (g : EnvT w) :
  Calls Tryz.prog 5 #[tmVal t A c, .int .i64 b] w fun e w' => e = .returned (.bool true) ∧ Ext w w' := by
 obtain ⟨i1, hi1, hz0, hz1, hz2⟩ := infoP tmInfo4
 have ht := ht0.lt
 have HLV := fun W (x : Ext w W) => Lib.hid (lives17_any W (g.ext x))
 have HLG := fun W (x : Ext w W) => Lib.hid (refLarge_any t A c W _ (ht.ext x) hf)
 have HCK := fun W (x : Ext w W) (hs : szT t ≤ 100000) => Lib.hid (refCheck_any t A c W _ (ht.ext x) (by omega))
 have HRN := fun W (x : Ext w W) (hs : szT t ≤ 100000) => Lib.hid (refRename_any t A c W _ (by omega) (ht.ext x))
 have HFR := fun W (x : Ext w W) (hs : szT t ≤ 100000) => Lib.hid (HFC t A c W _ (fun k hk => Nat.lt_of_lt_of_le hk x.size) (ht.ext x) hs)
 have HSZ : Hid (bigT t = false → szT t ≤ 100000) := Lib.hid (fun h => Nat.le_trans (bigT_no h) (by omega))
 have HMAY : ∀ cl, fromF biF t = some cl → Hid (mayC cl = 0) := fun cl h => Lib.hid (from_may h)
 have HNL : Hid ((vsT t []).length ≤ szT t) := Lib.hid (by have := (vsT_len t []).1; simpa using this)
 have HU : Hid (chkT t = 0 → szT (rnT t []) = szT t) := Lib.hid (fun h => (rnT_size t [] (mayT_iff.1 (may_chk.2 h)).1).1)
 have HV : Hid (hvT (rnT t []) (rng (vsT t []).length) = true) := Lib.hid (hvT_pre _ [] _ (by rw [named_vars]; exact List.prefix_refl _))
 have HSM : Hid (chkT t = 0 → 0 ≤ b → b ≤ 1000 → fromF biF (rpT (byF b) (rnT t [])) = fromF biF t ∧ szT (rpT (byF b) (rnT t [])) = szT (rnT t [])) := Lib.hid (fun h h0 h1 => by
  have hc := rp_chk (f := byF b) h (fun n hn hn2 => by unfold byF; omega)
  exact ⟨from_names biF (fun x y => byF_inj) h hc, (rp_size (byF b) _ (mayT_iff.1 (rnT_may (may_chk.2 h) (by simp))).1).1⟩)
 unfold tmVal at *
 generalize bigT t = bg at *
 generalize chkT t = ck at *
 generalize fromF biF t = FF at *
 generalize rnT t [] = u at *
 generalize (vsT t []).length = nv at *
 generalize szT t = sz at *
 generalize t.l.length = m at *
 generalize t.s = s at *
 generalize t.n = n at *
 generalize t.k = k at *
 clear ht ht0 g hf
 go_enter Tryz.func5, Tryz.ntmps5
 go_upto_region 1 with fail
 refine wp_abs (fun V => Hid (Blk V w.heap.size 30 #[.int .i64 k, .int .i64 n, .string s, .slice A m c]) ∧ Hid (Ext w V)) ⟨Lib.hid (Blk.new w _ _), Lib.hid ((Ext.refl w).alloc _)⟩ ?_
 rintro V ⟨HB, XR⟩
 have x9 := HB.out.cell
 have HL1 := HLG V XR.out
 clear HLG
 cases bg with
 | true =>
  clear HFR HMAY HSZ HCK HRN HNL HU HV HSM
  go_wp2_with (first
   | (go_at_call 11; refine HL1.out.mono ?_; rintro e W1 ⟨rfl, x⟩; have XS := Lib.hid (XR.out.trans x); have y9 := (HB.out.ext x).cell; clear XR x; have XR := XS; clear XS)
   | (go_at_call 8; refine (HLV _ XR.out).out.mono ?_; rintro e W2 ⟨rfl, x⟩; have XS := Lib.hid (XR.out.trans x); clear XR x; have XR := XS; clear XS))
  go_ret
  exact ⟨rfl, XR.out⟩
 | false =>
  have hsz := HSZ.out rfl
  clear HSZ
  by_cases hck : ck = 0
  case' neg =>
   have q1 : (ck != 0) = true := by simpa using hck
   clear HFR HMAY HRN HNL HU HV HSM
   go_wp2_with (first | (go_at_call 11; refine HL1.out.mono ?_; rintro e W1 ⟨rfl, x⟩; have B1 := Lib.hid (HB.out.ext x); have y9 := B1.out.cell; have XS := Lib.hid (XR.out.trans x); clear XR x; have XR := XS; clear XS) | (go_at_call 15; refine (HCK _ XR.out hsz).out.mono ?_; rintro e W3 ⟨rfl, x⟩; have B3 := Lib.hid (B1.out.ext x); have u9 := B3.out.cell; have XS := Lib.hid (XR.out.trans x); clear XR x; have XR := XS; clear XS) | (go_at_call 8; refine (HLV _ XR.out).out.mono ?_; rintro e W2 ⟨rfl, x⟩; have XS := Lib.hid (XR.out.trans x); clear XR x; have XR := XS; clear XS))
   go_ret
   exact ⟨rfl, XR.out⟩
  subst hck
  by_cases hb0 : b < 0
  case' pos =>
   clear HFR HMAY HRN HNL HU HV HSM
   go_wp2_with (first | (go_at_call 11; refine HL1.out.mono ?_; rintro e W1 ⟨rfl, x⟩; have B1 := Lib.hid (HB.out.ext x); have y9 := B1.out.cell; have XS := Lib.hid (XR.out.trans x); clear XR x; have XR := XS; clear XS) | (go_at_call 15; refine (HCK _ XR.out hsz).out.mono ?_; rintro e W3 ⟨rfl, x⟩; have B3 := Lib.hid (B1.out.ext x); have u9 := B3.out.cell; have XS := Lib.hid (XR.out.trans x); clear XR x; have XR := XS; clear XS) | (go_at_call 8; refine (HLV _ XR.out).out.mono ?_; rintro e W2 ⟨rfl, x⟩; have XS := Lib.hid (XR.out.trans x); clear XR x; have XR := XS; clear XS))
   go_ret
   exact ⟨rfl, XR.out⟩
  by_cases hb1 : 1000 < b
  case' pos =>
   clear HFR HMAY HRN HNL HU HV HSM
   go_wp2_with (first | (go_at_call 11; refine HL1.out.mono ?_; rintro e W1 ⟨rfl, x⟩; have B1 := Lib.hid (HB.out.ext x); have y9 := B1.out.cell; have XS := Lib.hid (XR.out.trans x); clear XR x; have XR := XS; clear XS) | (go_at_call 15; refine (HCK _ XR.out hsz).out.mono ?_; rintro e W3 ⟨rfl, x⟩; have B3 := Lib.hid (B1.out.ext x); have u9 := B3.out.cell; have XS := Lib.hid (XR.out.trans x); clear XR x; have XR := XS; clear XS) | (go_at_call 8; refine (HLV _ XR.out).out.mono ?_; rintro e W2 ⟨rfl, x⟩; have XS := Lib.hid (XR.out.trans x); clear XR x; have XR := XS; clear XS))
   go_ret
   exact ⟨rfl, XR.out⟩
  obtain ⟨hs1, hs2⟩ := HSM.out rfl (by omega) (by omega)
  have hsu := HU.out rfl
  have hnl := HNL.out
  clear HSM HU HNL
  go_upto_region 3 with (first | (go_at_call 11; refine HL1.out.mono ?_; rintro e W1 ⟨rfl, x⟩; have B1 := Lib.hid (HB.out.ext x); have y9 := B1.out.cell; have XS := Lib.hid (XR.out.trans x); clear XR x; have XR := XS; clear XS) | (go_at_call 15; refine (HCK _ XR.out hsz).out.mono ?_; rintro e W3 ⟨rfl, x⟩; have B3 := Lib.hid (B1.out.ext x); have u9 := B3.out.cell; have XS := Lib.hid (XR.out.trans x); clear XR x; have XR := XS; clear XS))
  have HR1 := HRN _ XR.out hsz
  clear HRN HCK HL1 x9 y9 u9 HB B1
  have x9 := B3.out.cell
  go_upto_region 4 with (go_at_call 16; refine HR1.out.mono ?_; rintro e W4 ⟨Au, cu, rfl, tu, x⟩; have T4 := Lib.hid tu; have X4 := Lib.hid (XR.out.trans x); have B4 := Lib.hid (B3.out.ext x); clear tu x)
  have hNA : NaAt w (W4.alloc (.cells #[.int .i64 u.k, .int .i64 u.n, .string u.s, .slice Au u.l.length cu] 30)) W4.heap.size k n s A m c u Au cu := ⟨B4.out.alloc _, Blk.new _ _ _, (T4.out.ext ((Ext.refl _).alloc _)).mono (fun _ hk => by rw [World.size_alloc]; have := hk.2; omega), X4.out.alloc _⟩
  refine wp_abs (fun V => Hid (NaAt w V W4.heap.size k n s A m c u Au cu)) (Lib.hid hNA) ?_
  generalize W4.heap.size = ub at *
  clear hNA T4 X4 B4 HR1 x9 B3 XR
  rintro V4 HN4
  go_wp2_with fail
  go_loopw [7, 8] (fun ov iv wr => ∃ (j : Nat) (v : Value), j ≤ nv ∧ iv = .int .i64 j ∧ ov = v ∧ Hid (CaAt V4 (byL b nv) j wr v)) (fun _ iv _ => nv - (intOf iv).toNat)
  case atStart => exact ⟨0, .slice none 0 0, Nat.zero_le _, rfl, rfl, Lib.hid ⟨World.ownsRow_nil _ _ _ _, fun b hb => by simp [Value.ownBlock] at hb, Ext.refl _⟩⟩
  case round =>
   obtain ⟨j, v, hj, rfl, rfl, HR⟩ := hrel
   by_cases hlt : j < nv
   ·have HO := Lib.hid (byL_get (b := b) hlt)
    obtain ⟨Av, cv, rfl⟩ := own_value HR.out.own
    have hjn : (j : Int) < (nv : Int) := by omega
    have hjb : (j : Int) ≤ 100000 := by omega
    go_wp2_with (first
     | (go_at_call 17; refine (refVar_any _ _).mono ?_; rintro e W3 ⟨rfl, x⟩; have X3 := Lib.hid x; clear x)
     | (at_builtin; refine wpList_append_src (P := Tryz.prog) rfl (.tmp 45) (.tmp 51) 28 rfl 30 i1 _ 4 56 Tryz.underlying28 hi1 hz0 hz1 hz2 rfl (by omega) (.slice Av j cv) rfl _ _ _ rfl j (flat tmC (((byL b nv).take j).map vP)) (own_ext HR.out.own (X3.out.alloc _)) (tmC (vP (b + 2 * (j : Int)))) (El.Src.new W3 #[.int .i64 1, .int .i64 (b + 2 * (j : Int)), .string ⟨#[]⟩, .slice none 0 0] 30 1 4 rfl) (tmC_one _) (by unfold maxLen; omega) (by omega) ?_; intro v3 w3 ho3 hm3 hb3; have R3 := Lib.hid (HR.out.more HO.out (X3.out.alloc _) ho3 hm3 hb3); clear ho3 hm3 hb3))
    go_roundw
    case rel => exact ⟨j + 1, v3, hlt, by go_num, rfl, R3⟩
    case measure => simp [intOf]; omega
   ·obtain rfl : j = nv := by omega
    obtain ⟨Al, cl0, rfl⟩ := own_value HR.out.own
    obtain ⟨W5, rfl⟩ : ∃ W5 : World, W5 = wr := ⟨_, rfl⟩
    have hsrc : El.Src W5 Al (byL b j).length 4 (flat tmC ((byL b j).map vP)) := by
     have h := El.Src.of_own HR.out.own
     rw [List.take_of_length_le (by rw [byL_len]; exact Nat.le_refl _)] at h
     rw [byL_len]
     exact h
    have HN5 := Lib.hid (HN4.out.go HR.out.ext)
    have HRP : ∀ W, Ext W5 W → Hid (Calls Tryz.prog 18 #[.agg #[.int .i64 u.k, .int .i64 u.n, .string u.s, .slice Au u.l.length cu], .slice Al j cl0] W (NumPost (rpT (byF b) u) W)) := fun W x => by
     have h := refReplace_any (szT u) u (Nat.le_refl _) (by omega) (byF b) (byL b j) (byL_f b j) Al cl0 Au cu W _ (by rw [byL_len]; omega) (HN5.out.tm.ext x) (hsrc.ext x) (by rw [byL_len]; exact HV.out)
     rw [byL_len] at h
     exact Lib.hid h
    have HF2 := fun W A2 c2 (h : TmIn (fun k => k < W.heap.size) W (rpT (byF b) u) A2 c2) => Lib.hid (HFC _ A2 c2 W _ (fun _ hk => hk) h (by rw [hs2, hsu]; exact hsz))
    rw [hs1] at HF2
    unfold NumPost at HRP
    unfold tmVal at HRP HF2
    generalize rpT (byF b) u = ru at *
    clear HR hs1 hs2 hsu HV hsrc HN4 HFC
    have x9 := HN5.out.tb.cell
    cases FF with
    | none =>
     go_upto_region 10 with (go_at_call 12; refine (HFR _ HN5.out.ext hsz).out.mono ?_; rintro e W6 h6; obtain ⟨⟨k6, n6, s6, A6, m6, c6, rfl⟩, x6⟩ := fr_none h6; have X6 := Lib.hid x6; clear h6 x6)
     have hxa := (X6.out.alloc (.cells zC 34)).alloc (.cells #[.int .i64 k6, .int .i64 n6, .string s6, .slice A6 m6 c6] 30)
     refine wp_abs (fun V => Hid (NaAt w V ub k n s A m c u Au cu) ∧ Hid (Ext W5 V)) ⟨Lib.hid (HN5.out.go hxa), Lib.hid hxa⟩ ?_
     clear hxa X6 x9 HFR HMAY
     rintro V7 ⟨HN7, HX7⟩
     have x9 := HN7.out.ub.cell
     have HRP7 := HRP V7 HX7.out
     go_upto_region 11 with (first
      | (go_at_call 18; refine HRP7.out.mono ?_; rintro e W8 ⟨A8, c8, rfl, t8, x⟩; have T8 := Lib.hid t8; have N8 := Lib.hid (HN7.out.go x); clear t8 x)
      | (go_at_call 12; refine (HF2 _ _ _ (T8.out.mono (fun _ hk => hk.2))).out.mono ?_; rintro e Wa ha; obtain ⟨⟨ka, na, sa, Aa, ma, ca, rfl⟩, xa⟩ := fr_none ha; have Na := Lib.hid (N8.out.go xa); clear ha xa))
     have XR := Lib.hid ((Na.out.ext.alloc (.cells zC 34)).alloc (.cells #[.int .i64 ka, .int .i64 na, .string sa, .slice Aa ma ca] 30))
     clear HRP HRP7 HF2 x9
     go_wp2_with (go_at_call 8; refine (HLV _ XR.out).out.mono ?_; rintro e W9 ⟨rfl, x⟩; have XS := Lib.hid (XR.out.trans x); clear XR x; have XR := XS; clear XS)
     go_ret
     exact ⟨rfl, XR.out⟩
    | some cl =>
     have HM := HMAY cl rfl
     go_upto_region 10 with (go_at_call 12; refine (HFR _ HN5.out.ext hsz).out.mono ?_; rintro e W6 h6; obtain ⟨hA, hc, gA, gc, rfl, hi6, x6⟩ := fr_some h6; have X6 := Lib.hid x6; have I6 := Lib.hid hi6; clear h6 x6 hi6)
     have hxa := (X6.out.alloc (.cells (clC cl hA hc gA gc) 34)).alloc (.cells zT 30)
     have hia := (I6.out.ext ((Ext.refl _).alloc (.cells (clC cl hA hc gA gc) 34))).ext ((Ext.refl _).alloc (.cells zT 30))
     have hba := blk2c W6 (clC cl hA hc gA gc) zT
     have hna := Lib.hid (HN5.out.go hxa)
     unfold clC at hxa hia hba hna
     refine wp_abs (fun V => Hid (NaAt w V ub k n s A m c u Au cu) ∧ Hid (Ext W5 V) ∧ Hid (ClIn (fun q => q < W6.heap.size) V cl hA hc gA gc) ∧ Hid (Blk V W6.heap.size 34 #[.int .i64 cl.h.k, .int .i64 cl.h.n, .string cl.h.s, .slice hA cl.h.l.length hc, .slice gA cl.gs.length gc, .int .i64 cl.vars])) ⟨hna, Lib.hid hxa, Lib.hid hia, Lib.hid hba⟩ ?_
     generalize W6.heap.size = g6 at *
     clear hxa hia hba hna X6 I6 x9 HFR HMAY
     rintro V7 ⟨HN7, HX7, HI7, HB7⟩
     have x9 := HN7.out.ub.cell
     have HRP7 := HRP V7 HX7.out
     go_upto_region 11 with (first
      | (go_at_call 18; refine HRP7.out.mono ?_; rintro e W8 ⟨A8, c8, rfl, t8, x⟩; have T8 := Lib.hid t8; have X8 := Lib.hid x; clear t8 x)
      | (go_at_call 12; refine (HF2 _ _ _ (T8.out.mono (fun _ hk => hk.2))).out.mono ?_; rintro e Wa ha; obtain ⟨hA2, hc2, gA2, gc2, rfl, hi8, xa⟩ := fr_some ha; have Xa := Lib.hid (X8.out.trans xa); have Ia := Lib.hid hi8; clear ha xa hi8))
     have hxa := (Xa.out.alloc (.cells (clC cl hA2 hc2 gA2 gc2) 34)).alloc (.cells zT 30)
     have hia := (Ia.out.ext ((Ext.refl _).alloc (.cells (clC cl hA2 hc2 gA2 gc2) 34))).ext ((Ext.refl _).alloc (.cells zT 30))
     have hba := blk2c Wa (clC cl hA2 hc2 gA2 gc2) zT
     unfold clC at hxa hia hba
     refine wp_abs (fun V => Hid (Ext V7 V) ∧ Hid (ClIn (fun q => q < Wa.heap.size) V cl hA2 hc2 gA2 gc2) ∧ Hid (Blk V Wa.heap.size 34 #[.int .i64 cl.h.k, .int .i64 cl.h.n, .string cl.h.s, .slice hA2 cl.h.l.length hc2, .slice gA2 cl.gs.length gc2, .int .i64 cl.vars])) ⟨Lib.hid hxa, Lib.hid hia, Lib.hid hba⟩ ?_
     generalize Wa.heap.size = ga at *
     clear hxa hia hba Xa Ia x9 HRP HRP7 HF2 T8 X8
     rintro V8 ⟨HX8, HI8, HB8⟩
     have HC1 := fun W (x : Ext V7 W) => Lib.hid (mCompile cl hA hc gA gc _ W (HI7.out.ext x) (cls_sz HM.out))
     have HC2 := fun W (x : Ext V8 W) => Lib.hid (mCompile cl hA2 hc2 gA2 gc2 _ W (HI8.out.ext x) (cls_sz HM.out))
     have hcl := comp_len cl
     unfold CmPost clC at HC1 HC2
     generalize (compF cl).1 = code at *
     generalize (compF cl).2 = er at *
     have XV := Lib.hid (Ext.refl V8)
     have XR := Lib.hid (HN7.out.ext.trans HX8.out)
     go_upto_region 13 with (go_at_call 8; refine (HLV _ XR.out).out.mono ?_; rintro e W9 ⟨rfl, x⟩; have XW := Lib.hid (XV.out.trans x); clear XV XR x)
     have x9 := (HB7.out.ext (HX8.out.trans XW.out)).cell
     go_upto_region 14 with (go_at_call 13; refine (HC1 _ (HX8.out.trans XW.out)).out.mono ?_; rintro e Wb ⟨Ab, kb, rfl, ho, _, x⟩; have Ob := Lib.hid (El.Src.of_own ho); have Xb := Lib.hid (XW.out.trans x); clear ho x)
     clear x9
     have x9 := (HB8.out.ext Xb.out).cell
     go_upto_region 15 with (go_at_call 13; refine (HC2 _ Xb.out).out.mono ?_; rintro e Wc ⟨Ac, kc, rfl, ho, _, x⟩; have Oc := Lib.hid (El.Src.of_own ho); have Od := Lib.hid (Ob.out.ext x); have Xc := Lib.hid (Xb.out.trans x); clear ho x)
     clear x9 HC1 HC2
     have HSA := Lib.hid (rSame_any code Ab Ac kb kc Wc Od.out Oc.out (by omega))
     have q1 : (er == er) = true := by simp
     go_wp2_with (go_at_call 19; refine HSA.out.mono ?_; rintro e We ⟨rfl, x⟩; have Xe := Lib.hid (Xc.out.trans x); clear x)
     go_ret
     exact ⟨rfl, (HN7.out.ext.trans HX8.out).trans Xe.out⟩
end Go.Proofs.YtmnnhdegoapfcaaGreatDoor
