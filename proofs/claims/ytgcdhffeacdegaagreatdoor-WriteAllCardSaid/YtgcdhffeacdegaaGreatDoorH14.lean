/- Layer 6, the program: the walks of Clone, Items. -/
import Derived.Test.YtgcdhffeacdegaaGreatDoorH12
import Derived.Test.YtgcdhffeacdegaaGreatDoorH06
namespace Go.El
open Go.RowKit
theorem RowT.keep {X wr V w' : World} {lo : Nat} {v v' : Value} {M : List TmP} (_h : RowT X lo wr v M) {u : Tm} {A : Option Addr} {c : Nat} (hp : TmIn (fun k => lo ≤ k ∧ v.ownBlock ≠ some k ∧ k < V.heap.size) V u A c) (hm : Mods (ownL v) V w') (hb : v'.ownBlock = v.ownBlock ∨ v'.ownBlock = some V.heap.size) : TmIn (fun k => lo ≤ k ∧ v'.ownBlock ≠ some k ∧ k < w'.heap.size) w' u A c := by
 refine TmIn.mods hm (fun k hk hm => hk.2.1 (by simpa [ownL] using hm)) (fun k hk => ?_) hp
 refine ⟨hk.1, fun e => ?_, Nat.lt_of_lt_of_le hk.2.2 hm.size⟩
 rcases hb with hb | hb
 ·exact hk.2.1 (hb.symm.trans e)
 ·have e1 := hb.symm.trans e
  injection e1 with e1
  have := hk.2.2
  omega
def slLen : Value → Nat
 | .slice _ n _ => n
 | _ => 0
theorem isLs_form {t : Tm} (h : isLs t.k t.s t.l.length = true) : ∃ a b, t.k = 4 ∧ t.s.data.toList = [46] ∧ t.l = [a, b] ∧ itT t = a :: itT b ∧ tlT t = tlT b := by
 have hd := of_decide_eq_true h
 cases t with
 | mk k n s l =>
  simp only [Tm.k, Tm.s, Tm.l] at h hd ⊢
  obtain ⟨h1, h2, h3⟩ := hd
  match l, h3 with
  | [a, b], _ =>
   refine ⟨a, b, h1, h2, rfl, ?_, ?_⟩
   ·simp only [itT]
    rw [if_pos h]
    rfl
   ·simp only [tlT]
    rw [if_pos h]
    rfl
theorem isLs_no {t : Tm} (h : isLs t.k t.s t.l.length = false) : itT t = [] ∧ tlT t = t := by
 cases t with
 | mk k n s l =>
  simp only [Tm.k, Tm.s, Tm.l] at h
  simp only [itT, tlT, h]
  exact ⟨rfl, rfl⟩
end Go.El
namespace Go.Proofs.YtgcdhffeacdegaaGreatDoor
open Go.RowKit Go.El
set_option maxRecDepth 100000 in
set_option maxHeartbeats 4000000 in
theorem clone_any (t : Tm) (hm : mayT t = true) (A : Option Addr) (c : Nat) (w : World) (D : Nat → Prop) (ht : TmIn D w t A c) :
  Calls Tryz.prog 176 #[tmVal t A c] w fun e w' => ∃ A' c', e = .returned (tmVal t A' c') ∧ TmIn (fun k => w.heap.size ≤ k ∧ k < w'.heap.size) w' t A' c' ∧ Ext w w' := by
 have hok := mayT_iff.1 hm
 have HM := fun W (x : Ext w W) => Lib.hid (may_any t A c W D (ht.ext x) (by omega))
 have HC := fun W (x : Ext w W) => Lib.hid (buildVar_any (szT t) t (Nat.le_refl _) (by omega) hok.1 A c W D (ht.ext x))
 have hlen := len_szL t.l
 rw [hm] at HM
 unfold tmVal at HM HC ⊢
 generalize t.k = k at HM HC ⊢
 generalize t.n = n at HM HC ⊢
 generalize t.s = s at HM HC ⊢
 generalize t.l.length = m at HM HC ⊢
 clear ht
 go_enter Tryz.func176, Tryz.ntmps176
 go_upto_region 1 with fail
 refine wp_abs (fun V => Hid (Blk V (w.heap.size + 1) 32 #[.int .i64 0, .int .i64 0, .string ⟨#[]⟩, .slice none 0 0]) ∧ Hid (Blk V w.heap.size 32 #[.int .i64 k, .int .i64 n, .string s, .slice A m c]) ∧ Hid (Ext w V)) ⟨?_, (Blk.new w _ _).alloc _, ((Ext.refl w).alloc _).alloc _⟩ ?_
 ·have := Blk.new (w.alloc (.cells #[.int .i64 k, .int .i64 n, .string s, .slice A m c] 32)) 32 #[.int .i64 0, .int .i64 0, .string ⟨#[]⟩, .slice none 0 0]
  rw [World.size_alloc] at this
  exact this
 rintro V ⟨HZ, HX, HE⟩
 have x0 : V.cell? ⟨w.heap.size, 0, none⟩ = some (.int .i64 k) := HX.out.cell 0
 have x1 : V.cell? ⟨w.heap.size, 1, none⟩ = some (.int .i64 n) := HX.out.cell 1
 have x2 : V.cell? ⟨w.heap.size, 2, none⟩ = some (.string s) := HX.out.cell 2
 have x3 : V.cell? ⟨w.heap.size, 3, none⟩ = some (.slice A m c) := HX.out.cell 3
 go_upto_region 3 with (go_at_call 175; refine (HM V HE.out).out.mono ?_; rintro e V2 ⟨rfl, hx⟩; have HE2 := Lib.hid (HE.out.trans hx); have HZ2 := Lib.hid (HZ.out.ext hx); have x0 := hx.cell x0; have x1 := hx.cell x1; have x2 := hx.cell x2; have x3 := hx.cell x3; clear hx)
 go_wp2_with (go_at_call 193; refine (HC V2 HE2.out).out.mono ?_; rintro e V3 ⟨A2, c2, rfl, ht2, hx⟩; have HT := Lib.hid ht2; have HE3 := Lib.hid (HE2.out.trans hx); have HZ3 := Lib.hid (HZ2.out.ext hx); have zc := HZ3.out.cell; have zf := HZ3.out.frozen; have hsz := HE2.out.size; have hlz := HZ2.out.lt; clear hx ht2)
 have hbf := (((HZ3.out.set_ 0 (.int .i64 k)).set_ 1 (.int .i64 n)).set_ 2 (.string s)).set_ 3 (.slice A2 m c2)
 have hEF := (((HE3.out.setCell (p := ⟨w.heap.size + 1, 0, none⟩) (by simp) (.int .i64 k)).setCell (p := ⟨w.heap.size + 1, 1, none⟩) (by simp) (.int .i64 n)).setCell (p := ⟨w.heap.size + 1, 2, none⟩) (by simp) (.string s)).setCell (p := ⟨w.heap.size + 1, 3, none⟩) (by simp) (.slice A2 m c2)
 have hTF := TmIn.mods (S := [w.heap.size + 1]) (D' := fun i => w.heap.size ≤ i ∧ i < ((((V3.setCell ⟨w.heap.size + 1, 0, none⟩ (.int .i64 k)).setCell ⟨w.heap.size + 1, 1, none⟩ (.int .i64 n)).setCell ⟨w.heap.size + 1, 2, none⟩ (.string s)).setCell ⟨w.heap.size + 1, 3, none⟩ (.slice A2 m c2)).heap.size) (((((Mods.refl _ V3).setCell (p := ⟨w.heap.size + 1, 0, none⟩) (.inl (by simp)) (.int .i64 k)).setCell (p := ⟨w.heap.size + 1, 1, none⟩) (.inl (by simp)) (.int .i64 n)).setCell (p := ⟨w.heap.size + 1, 2, none⟩) (.inl (by simp)) (.string s)).setCell (p := ⟨w.heap.size + 1, 3, none⟩) (.inl (by simp)) (.slice A2 m c2)) (fun i hi => by simp; omega) (fun i hi => ⟨by omega, by simpa using hi.2⟩) HT.out
 generalize (((V3.setCell ⟨w.heap.size + 1, 0, none⟩ (.int .i64 k)).setCell ⟨w.heap.size + 1, 1, none⟩ (.int .i64 n)).setCell ⟨w.heap.size + 1, 2, none⟩ (.string s)).setCell ⟨w.heap.size + 1, 3, none⟩ (.slice A2 m c2) = VF at hbf hEF hTF ⊢
 have r0 : VF.cell? ⟨w.heap.size + 1, 0, none⟩ = some (.int .i64 k) := hbf.cell 0
 have r1 : VF.cell? ⟨w.heap.size + 1, 1, none⟩ = some (.int .i64 n) := hbf.cell 1
 have r2 : VF.cell? ⟨w.heap.size + 1, 2, none⟩ = some (.string s) := hbf.cell 2
 have r3 : VF.cell? ⟨w.heap.size + 1, 3, none⟩ = some (.slice A2 m c2) := hbf.cell 3
 refine bodyPost_ret (v := .agg #[.int .i64 k, .int .i64 n, .string s, .slice A2 m c2]) (by simp [results, Tryz.results176, go_sem, r0, r1, r2, r3]) rfl ⟨A2, c2, rfl, hTF, hEF⟩
theorem kid_box {lo : Nat} {v : Value} {wr : World} {u : Tm} {A : Option Addr} {c : Nat} (h : TmIn (fun k => lo ≤ k ∧ v.ownBlock ≠ some k ∧ k < wr.heap.size) wr u A c) (o : Obj) : TmIn (fun k => lo ≤ k ∧ v.ownBlock ≠ some k ∧ k < (wr.alloc o).heap.size) (wr.alloc o) u A c := (h.ext (ext_box wr o)).mono (fun k hk => ⟨hk.1, hk.2.1, by rw [World.size_alloc]; omega⟩)
theorem tm_drew {lo : Nat} {v : Value} {wr : World} {u : Tm} {A : Option Addr} {c : Nat} (h : TmIn (fun k => lo ≤ k ∧ v.ownBlock ≠ some k ∧ k < wr.heap.size) wr u A c) : TmIn (fun k => lo ≤ k ∧ v.ownBlock ≠ some k ∧ k < wr.drew.heap.size) wr.drew u A c := h.ext ((Ext.refl wr).drew)
theorem tm_set4 {lo : Nat} {v : Value} {wr : World} {u : Tm} {A : Option Addr} {c g : Nat} (h : TmIn (fun k => lo ≤ k ∧ v.ownBlock ≠ some k ∧ k < wr.heap.size) wr u A c) (hg : ∀ k, lo ≤ k → k ≠ g) (a0 a1 a2 a3 : Value) : TmIn (fun k => lo ≤ k ∧ v.ownBlock ≠ some k ∧ k < ((((wr.setCell ⟨g, 0, none⟩ a0).setCell ⟨g, 1, none⟩ a1).setCell ⟨g, 2, none⟩ a2).setCell ⟨g, 3, none⟩ a3).heap.size) ((((wr.setCell ⟨g, 0, none⟩ a0).setCell ⟨g, 1, none⟩ a1).setCell ⟨g, 2, none⟩ a2).setCell ⟨g, 3, none⟩ a3) u A c :=
 TmIn.mods (S := [g]) (((((Mods.refl _ wr).setCell (p := ⟨g, 0, none⟩) (.inl (by simp)) a0).setCell (p := ⟨g, 1, none⟩) (.inl (by simp)) a1).setCell (p := ⟨g, 2, none⟩) (.inl (by simp)) a2).setCell (p := ⟨g, 3, none⟩) (.inl (by simp)) a3) (fun k hk => by simp; exact hg k hk.1) (fun k hk => ⟨hk.1, hk.2.1, by simpa using hk.2.2⟩) h
set_option maxRecDepth 100000 in
set_option maxHeartbeats 8000000 in
theorem items_any (t : Tm) (hm : mayT t = true) (A : Option Addr) (c : Nat) (w : World) (D : Nat → Prop) (ht : TmIn D w t A c) :
  Calls Tryz.prog 155 #[tmVal t A c] w fun e w' => ∃ lo v M A' c', e = .returned (.tuple #[v, tmVal (tlT t) A' c']) ∧ RowT w lo w' v M ∧ M.map (·.1) = itT t ∧ TmIn (fun k => lo ≤ k ∧ v.ownBlock ≠ some k ∧ k < w'.heap.size) w' (tlT t) A' c' := by
 obtain ⟨i1, hi1, hz0, hz1, hz2⟩ := infoP tmInfo4
 have hok := mayT_iff.1 hm
 have HM := fun W (x : Ext w W) => Lib.hid (may_any t A c W D (ht.ext x) (by omega))
 have HC := fun W (x : Ext w W) => Lib.hid (clone_any t hm A c W D (ht.ext x))
 have hlen := itT_len t
 have HT0 := Lib.hid (Eq.refl (tlT t))
 rw [hm] at HM
 unfold tmVal at HM HC ⊢
 clear ht
 go_enter Tryz.func155, Tryz.ntmps155
 go_upto_region 1 with fail
 refine wp_abs (fun V => Hid (Blk V (w.heap.size + 1) 32 #[.int .i64 0, .int .i64 0, .string ⟨#[]⟩, .slice none 0 0]) ∧ Hid (Blk V w.heap.size 32 #[.int .i64 t.k, .int .i64 t.n, .string t.s, .slice A t.l.length c]) ∧ Hid (Ext w V)) ⟨?_, (Blk.new w _ _).alloc _, ((Ext.refl w).alloc _).alloc _⟩ ?_
 ·have := Blk.new (w.alloc (.cells #[.int .i64 t.k, .int .i64 t.n, .string t.s, .slice A t.l.length c] 32)) 32 #[.int .i64 0, .int .i64 0, .string ⟨#[]⟩, .slice none 0 0]
  rw [World.size_alloc] at this
  exact this
 rintro V ⟨HZ, HX, HE⟩
 have x0 : V.cell? ⟨w.heap.size, 0, none⟩ = some (.int .i64 t.k) := HX.out.cell 0
 have x1 : V.cell? ⟨w.heap.size, 1, none⟩ = some (.int .i64 t.n) := HX.out.cell 1
 have x2 : V.cell? ⟨w.heap.size, 2, none⟩ = some (.string t.s) := HX.out.cell 2
 have x3 : V.cell? ⟨w.heap.size, 3, none⟩ = some (.slice A t.l.length c) := HX.out.cell 3
 go_upto_region 3 with (go_at_call 175; refine (HM V HE.out).out.mono ?_; rintro e V2 ⟨rfl, hx⟩; have HE2 := Lib.hid (HE.out.trans hx); have HZ2 := Lib.hid (HZ.out.ext hx); have HX2 := Lib.hid (HX.out.ext hx); have x0 := hx.cell x0; have x1 := hx.cell x1; have x2 := hx.cell x2; have x3 := hx.cell x3; clear hx)
 go_upto_region 4 with (go_at_call 176; refine (HC V2 HE2.out).out.mono ?_; rintro e V3 ⟨A2, c2, rfl, ht2, hx⟩; have HT := Lib.hid ht2; have HE3 := Lib.hid (HE2.out.trans hx); have HZ3 := Lib.hid (HZ2.out.ext hx); have HX3 := Lib.hid (HX2.out.ext hx); have zc := HX3.out.cell; have zf := HX3.out.frozen; have hsz := HE2.out.size; have hlz := HZ2.out.lt; have hsz3 := hx.size; clear hx ht2)
 refine wp_abs (fun V4 => Hid (Blk V4 (w.heap.size + 1) 32 #[.int .i64 0, .int .i64 0, .string ⟨#[]⟩, .slice none 0 0]) ∧ Hid (Blk V4 w.heap.size 32 #[.int .i64 t.k, .int .i64 t.n, .string t.s, .slice A2 t.l.length c2]) ∧ Hid (TmIn (fun k => V2.heap.size ≤ k ∧ k < V4.heap.size) V4 t A2 c2) ∧ Hid (Ext w V4) ∧ V2.heap.size ≤ V4.heap.size) ⟨?_, (((HX3.out.set_ 0 (.int .i64 t.k)).set_ 1 (.int .i64 t.n)).set_ 2 (.string t.s)).set_ 3 (.slice A2 t.l.length c2), ?_, (((HE3.out.setCell (p := ⟨w.heap.size, 0, none⟩) (Nat.le_refl _) (.int .i64 t.k)).setCell (p := ⟨w.heap.size, 1, none⟩) (Nat.le_refl _) (.int .i64 t.n)).setCell (p := ⟨w.heap.size, 2, none⟩) (Nat.le_refl _) (.string t.s)).setCell (p := ⟨w.heap.size, 3, none⟩) (Nat.le_refl _) (.slice A2 t.l.length c2), ?_⟩ ?_
 ·exact (((HZ3.out.far (p := ⟨w.heap.size, 0, none⟩) (by simp) _).far (p := ⟨w.heap.size, 1, none⟩) (by simp) _).far (p := ⟨w.heap.size, 2, none⟩) (by simp) _).far (p := ⟨w.heap.size, 3, none⟩) (by simp) _
 ·exact TmIn.mods (S := [w.heap.size]) (((((Mods.refl _ V3).setCell (p := ⟨w.heap.size, 0, none⟩) (.inl (by simp)) (.int .i64 t.k)).setCell (p := ⟨w.heap.size, 1, none⟩) (.inl (by simp)) (.int .i64 t.n)).setCell (p := ⟨w.heap.size, 2, none⟩) (.inl (by simp)) (.string t.s)).setCell (p := ⟨w.heap.size, 3, none⟩) (.inl (by simp)) (.slice A2 t.l.length c2)) (fun i hi => by simp; omega) (fun i hi => ⟨hi.1, by simpa using hi.2⟩) HT.out
 ·simpa using hsz3
 rintro V4 ⟨HZ4, HX4, HT4, HE4, hsz4⟩
 clear x0 x1 x2 x3 zc zf HM HC HX HZ HE HE2 HZ2 HX2 HE3 HZ3 HX3 HT
 go_upto_region 5 with fail
 go_loopw [4] (fun sl wr => ∃ (M : List TmP) (u : Tm) (Au : Option Addr) (cu : Nat), Hid (RowT w V2.heap.size wr sl M) ∧ Hid (TmIn (fun k => V2.heap.size ≤ k ∧ sl.ownBlock ≠ some k ∧ k < wr.heap.size) wr u Au cu) ∧ Hid (M.map (·.1) ++ itT u = itT t) ∧ Hid (tlT u = tlT t) ∧ Hid (Blk wr w.heap.size 32 #[.int .i64 u.k, .int .i64 u.n, .string u.s, .slice Au u.l.length cu]) ∧ Hid (Blk wr (w.heap.size + 1) 32 #[.int .i64 0, .int .i64 0, .string ⟨#[]⟩, .slice none 0 0])) (fun sl _ => szT t - slLen sl)
 case atStart => exact ⟨[], t, A2, c2, ⟨World.ownsRow_nil _ _ _ _, fun p hp => by simp at hp, fun k hk => by simp [Value.ownBlock] at hk, HE4.out, by omega, hsz4⟩, HT4.out.mono (fun k hk => ⟨hk.1, by simp [Value.ownBlock], hk.2⟩), rfl, rfl, HX4.out, HZ4.out⟩
 case round =>
  obtain ⟨M, u, Au, cu, HR, HU, HI, HT, HB, HZ⟩ := hrel
  have b0 : wr.cell? ⟨w.heap.size, 0, none⟩ = some (.int .i64 u.k) := HB.out.cell 0
  have b1 : wr.cell? ⟨w.heap.size, 1, none⟩ = some (.int .i64 u.n) := HB.out.cell 1
  have b2 : wr.cell? ⟨w.heap.size, 2, none⟩ = some (.string u.s) := HB.out.cell 2
  have b3 : wr.cell? ⟨w.heap.size, 3, none⟩ = some (.slice Au u.l.length cu) := HB.out.cell 3
  by_cases hk : u.k = 4
  ·have hk2 : (u.k == 4) = true := by simpa using hk
   by_cases hs : u.s.data.toList = [46]
   ·have hs2 : (u.s.toList == [46]) = true := by rw [ByteArray.toList_eq]; simpa using hs
    by_cases hl : u.l.length = 2
    ·have hl2 : ((u.l.length : Int) == 2) = true := by simpa using (show (u.l.length : Int) = 2 by omega)
     obtain ⟨a, b, hua, hus, hul, hia, hta⟩ := isLs_form (t := u) (by unfold isLs; exact decide_eq_true ⟨hk, hs, hl⟩)
     obtain ⟨bb, off, Aa, ca, hAu, hbD, ta, p0, p1, p2, p3⟩ := HU.out.child (j := 0) (u := a) (by rw [hul]; rfl)
     obtain ⟨bb', off', Ab, cb, hAu', _, tb, q0, q1, q2, q3⟩ := HU.out.child (j := 1) (u := b) (by rw [hul]; rfl)
     rw [hAu] at hAu'
     injection hAu' with hAu'
     injection hAu' with e1 e2
     subst e1 e2
     subst hAu
     rw [Nat.zero_mul, Nat.add_zero] at p0 p1 p2 p3
     rw [Nat.one_mul] at q0 q1 q2 q3
     have hIn := Lib.hid (show ∀ q : TmP, q.1 = a → (M ++ [q]).map (·.1) ++ itT b = itT t from fun q hq => by rw [← HI.out, hia, List.map_append, ← hq]; simp)
     have hTn := Lib.hid (show tlT b = tlT t from by rw [← HT.out, hta])
     have hMl : M.length + 1 ≤ (itT t).length := by rw [← HI.out, hia]; simp
     obtain ⟨Av, cv, rfl⟩ := own_value HR.out.own
     have HTA := Lib.hid ta
     have HTB := Lib.hid tb
     have hbn : bb ∉ ownL (.slice Av M.length cv) := fun e => hbD.2.1 (by simpa [ownL] using e)
     clear ta tb hua hus hul hia hta HI HT
     go_wp2_with (at_builtin; refine wpList_append_src (P := Tryz.prog) rfl _ _ 30 rfl 32 i1 _ 4 56 Tryz.underlying30 hi1 hz0 hz1 hz2 rfl (by omega) (.slice Av M.length cv) rfl _ _ _ rfl M.length (flat tmC M) (own_ext HR.out.own ((Ext.refl wr).alloc _)) (tmC (a, Aa, ca)) (El.Src.new _ #[.int .i64 a.k, .int .i64 a.n, .string a.s, .slice Aa a.l.length ca] _ 1 4 rfl) (tmC_one _) (by unfold maxLen; omega) (by omega) ?_; intro v3 w3 ho3 hm3 hb3; obtain ⟨A3, c3, rfl⟩ := own_value ho3; have hR3 := RowT.step (p := (a, Aa, ca)) HR.out ((Ext.refl wr).alloc _) (kid_box HTA.out _) ho3 hm3 hb3; have hT3 := RowT.keep HR.out (kid_box HTB.out _) hm3 hb3; have hB3 := (HB.out.alloc _).mods hm3 (HR.out.no (by omega)); have hZ3 := (HZ.out.alloc _).mods hm3 (HR.out.no hlz); have hq0 := hm3.cell ((ext_box wr _).cell q0) hbn; have hq1 := hm3.cell ((ext_box wr _).cell q1) hbn; have hq2 := hm3.cell ((ext_box wr _).cell q2) hbn; have hq3 := hm3.cell ((ext_box wr _).cell q3) hbn; have e0 : w3.cell? ⟨w.heap.size, 0, none⟩ = some (.int .i64 u.k) := hB3.cell 0; have e1 : w3.cell? ⟨w.heap.size, 1, none⟩ = some (.int .i64 u.n) := hB3.cell 1; have e2 : w3.cell? ⟨w.heap.size, 2, none⟩ = some (.string u.s) := hB3.cell 2; have e3 : w3.cell? ⟨w.heap.size, 3, none⟩ = some (.slice (some ⟨bb, off, none⟩) u.l.length cu) := hB3.cell 3; have f0 := hB3.frozen 0; have f1 := hB3.frozen 1; have f2 := hB3.frozen 2; have f3 := hB3.frozen 3; have HR3 := Lib.hid hR3; have HT3 := Lib.hid hT3; have HB3 := Lib.hid hB3; have HZ3 := Lib.hid hZ3; clear hR3 hT3 hB3 hZ3 ho3 hm3 hb3)
     go_roundw
     case rel =>
      exact ⟨M ++ [(a, Aa, ca)], b, Ab, cb, (((HR3.out.set_ (g := w.heap.size) (Nat.le_refl _) (by omega) 0 _).set_ (g := w.heap.size) (Nat.le_refl _) (by omega) 1 _).set_ (g := w.heap.size) (Nat.le_refl _) (by omega) 2 _).set_ (g := w.heap.size) (Nat.le_refl _) (by omega) 3 _, tm_set4 HT3.out (fun k hk => by omega) _ _ _ _, hIn.out _ rfl, hTn.out, (((HB3.out.set_ 0 _).set_ 1 _).set_ 2 _).set_ 3 _, (((HZ3.out.far (p := ⟨w.heap.size, 0, none⟩) (by simp) _).far (p := ⟨w.heap.size, 1, none⟩) (by simp) _).far (p := ⟨w.heap.size, 2, none⟩) (by simp) _).far (p := ⟨w.heap.size, 3, none⟩) (by simp) _⟩
     case measure => simp [slLen]; omega
    ·have hl2 : ((u.l.length : Int) == 2) = false := by simpa using (show ¬ (u.l.length : Int) = 2 by omega)
     clear hk
     obtain ⟨hi, htl⟩ := isLs_no (t := u) (by unfold isLs; exact decide_eq_false (by simp [hl]))
     have h0 := HI.out
     rw [hi, List.append_nil] at h0
     have h1 := HT.out
     rw [htl] at h1
     have HI0 := Lib.hid h0
     have HT1 := Lib.hid h1
     have z0 : wr.cell? ⟨w.heap.size + 1, 0, none⟩ = some (.int .i64 0) := HZ.out.cell 0
     have z1 : wr.cell? ⟨w.heap.size + 1, 1, none⟩ = some (.int .i64 0) := HZ.out.cell 1
     have z2 : wr.cell? ⟨w.heap.size + 1, 2, none⟩ = some (.string ⟨#[]⟩) := HZ.out.cell 2
     have z3 : wr.cell? ⟨w.heap.size + 1, 3, none⟩ = some (.slice none 0 0) := HZ.out.cell 3
     have g0 := HZ.out.frozen 0
     have g1 := HZ.out.frozen 1
     have g2 := HZ.out.frozen 2
     have g3 := HZ.out.frozen 3
     have HRd := Lib.hid (((((HR.out.set_ (g := w.heap.size + 1) (by omega) hlz 0 (.int .i64 u.k)).set_ (g := w.heap.size + 1) (by omega) hlz 1 (.int .i64 u.n)).set_ (g := w.heap.size + 1) (by omega) hlz 2 (.string u.s)).set_ (g := w.heap.size + 1) (by omega) hlz 3 (.slice Au u.l.length cu)).go ((Ext.refl _).drew))
     have HUd := Lib.hid (tm_drew (tm_set4 (lo := V2.heap.size) (v := u4) (wr := wr) (g := w.heap.size + 1) HU.out (fun k hk => by omega) (.int .i64 u.k) (.int .i64 u.n) (.string u.s) (.slice Au u.l.length cu)))
     have hbf := Lib.hid (((((HZ.out.set_ 0 (.int .i64 u.k)).set_ 1 (.int .i64 u.n)).set_ 2 (.string u.s)).set_ 3 (.slice Au u.l.length cu)).ext ((Ext.refl _).drew))
     clear h0 h1 HB HZ HR HU HI HT
     go_upto_region 8 with fail
     go_region
     all_goals
      go_wp2_with fail
      generalize ((((wr.setCell ⟨w.heap.size + 1, 0, none⟩ (.int .i64 u.k)).setCell ⟨w.heap.size + 1, 1, none⟩ (.int .i64 u.n)).setCell ⟨w.heap.size + 1, 2, none⟩ (.string u.s)).setCell ⟨w.heap.size + 1, 3, none⟩ (.slice Au u.l.length cu)).drew = VF at HRd HUd hbf ⊢
      have r0 : VF.cell? ⟨w.heap.size + 1, 0, none⟩ = some (.int .i64 u.k) := hbf.out.cell 0
      have r1 : VF.cell? ⟨w.heap.size + 1, 1, none⟩ = some (.int .i64 u.n) := hbf.out.cell 1
      have r2 : VF.cell? ⟨w.heap.size + 1, 2, none⟩ = some (.string u.s) := hbf.out.cell 2
      have r3 : VF.cell? ⟨w.heap.size + 1, 3, none⟩ = some (.slice Au u.l.length cu) := hbf.out.cell 3
      refine bodyPost_ret (v := .tuple #[u4, tmVal u Au cu]) (by simp [results, Tryz.results155, go_sem, r0, r1, r2, r3, tmVal]) rfl ⟨V2.heap.size, u4, M, Au, cu, ?_, HRd.out, HI0.out, ?_⟩
      ·rw [← HT1.out]
       rfl
      ·rw [← HT1.out]
       exact HUd.out
   ·have hs2 := lit_ne hs
    clear hk
    obtain ⟨hi, htl⟩ := isLs_no (t := u) (by unfold isLs; exact decide_eq_false (by simp [hs]))
    have h0 := HI.out
    rw [hi, List.append_nil] at h0
    have h1 := HT.out
    rw [htl] at h1
    have HI0 := Lib.hid h0
    have HT1 := Lib.hid h1
    have z0 : wr.cell? ⟨w.heap.size + 1, 0, none⟩ = some (.int .i64 0) := HZ.out.cell 0
    have z1 : wr.cell? ⟨w.heap.size + 1, 1, none⟩ = some (.int .i64 0) := HZ.out.cell 1
    have z2 : wr.cell? ⟨w.heap.size + 1, 2, none⟩ = some (.string ⟨#[]⟩) := HZ.out.cell 2
    have z3 : wr.cell? ⟨w.heap.size + 1, 3, none⟩ = some (.slice none 0 0) := HZ.out.cell 3
    have g0 := HZ.out.frozen 0
    have g1 := HZ.out.frozen 1
    have g2 := HZ.out.frozen 2
    have g3 := HZ.out.frozen 3
    have HRd := Lib.hid (((((HR.out.set_ (g := w.heap.size + 1) (by omega) hlz 0 (.int .i64 u.k)).set_ (g := w.heap.size + 1) (by omega) hlz 1 (.int .i64 u.n)).set_ (g := w.heap.size + 1) (by omega) hlz 2 (.string u.s)).set_ (g := w.heap.size + 1) (by omega) hlz 3 (.slice Au u.l.length cu)).go ((Ext.refl _).drew))
    have HUd := Lib.hid (tm_drew (tm_set4 (lo := V2.heap.size) (v := u4) (wr := wr) (g := w.heap.size + 1) HU.out (fun k hk => by omega) (.int .i64 u.k) (.int .i64 u.n) (.string u.s) (.slice Au u.l.length cu)))
    have hbf := Lib.hid (((((HZ.out.set_ 0 (.int .i64 u.k)).set_ 1 (.int .i64 u.n)).set_ 2 (.string u.s)).set_ 3 (.slice Au u.l.length cu)).ext ((Ext.refl _).drew))
    clear h0 h1 HB HZ HR HU HI HT
    go_upto_region 8 with fail
    go_region
    all_goals
     go_wp2_with fail
     generalize ((((wr.setCell ⟨w.heap.size + 1, 0, none⟩ (.int .i64 u.k)).setCell ⟨w.heap.size + 1, 1, none⟩ (.int .i64 u.n)).setCell ⟨w.heap.size + 1, 2, none⟩ (.string u.s)).setCell ⟨w.heap.size + 1, 3, none⟩ (.slice Au u.l.length cu)).drew = VF at HRd HUd hbf ⊢
     have r0 : VF.cell? ⟨w.heap.size + 1, 0, none⟩ = some (.int .i64 u.k) := hbf.out.cell 0
     have r1 : VF.cell? ⟨w.heap.size + 1, 1, none⟩ = some (.int .i64 u.n) := hbf.out.cell 1
     have r2 : VF.cell? ⟨w.heap.size + 1, 2, none⟩ = some (.string u.s) := hbf.out.cell 2
     have r3 : VF.cell? ⟨w.heap.size + 1, 3, none⟩ = some (.slice Au u.l.length cu) := hbf.out.cell 3
     refine bodyPost_ret (v := .tuple #[u4, tmVal u Au cu]) (by simp [results, Tryz.results155, go_sem, r0, r1, r2, r3, tmVal]) rfl ⟨V2.heap.size, u4, M, Au, cu, ?_, HRd.out, HI0.out, ?_⟩
     ·rw [← HT1.out]
      rfl
     ·rw [← HT1.out]
      exact HUd.out
  ·have hk2 : (u.k == 4) = false := by simpa using hk
   obtain ⟨hi, htl⟩ := isLs_no (t := u) (by unfold isLs; exact decide_eq_false (by simp [hk]))
   have h0 := HI.out
   rw [hi, List.append_nil] at h0
   have h1 := HT.out
   rw [htl] at h1
   have HI0 := Lib.hid h0
   have HT1 := Lib.hid h1
   have z0 : wr.cell? ⟨w.heap.size + 1, 0, none⟩ = some (.int .i64 0) := HZ.out.cell 0
   have z1 : wr.cell? ⟨w.heap.size + 1, 1, none⟩ = some (.int .i64 0) := HZ.out.cell 1
   have z2 : wr.cell? ⟨w.heap.size + 1, 2, none⟩ = some (.string ⟨#[]⟩) := HZ.out.cell 2
   have z3 : wr.cell? ⟨w.heap.size + 1, 3, none⟩ = some (.slice none 0 0) := HZ.out.cell 3
   have g0 := HZ.out.frozen 0
   have g1 := HZ.out.frozen 1
   have g2 := HZ.out.frozen 2
   have g3 := HZ.out.frozen 3
   have HRd := Lib.hid (((((HR.out.set_ (g := w.heap.size + 1) (by omega) hlz 0 (.int .i64 u.k)).set_ (g := w.heap.size + 1) (by omega) hlz 1 (.int .i64 u.n)).set_ (g := w.heap.size + 1) (by omega) hlz 2 (.string u.s)).set_ (g := w.heap.size + 1) (by omega) hlz 3 (.slice Au u.l.length cu)).go ((Ext.refl _).drew))
   have HUd := Lib.hid (tm_drew (tm_set4 (lo := V2.heap.size) (v := u4) (wr := wr) (g := w.heap.size + 1) HU.out (fun k hk => by omega) (.int .i64 u.k) (.int .i64 u.n) (.string u.s) (.slice Au u.l.length cu)))
   have hbf := Lib.hid (((((HZ.out.set_ 0 (.int .i64 u.k)).set_ 1 (.int .i64 u.n)).set_ 2 (.string u.s)).set_ 3 (.slice Au u.l.length cu)).ext ((Ext.refl _).drew))
   clear h0 h1 HB HZ HR HU HI HT
   go_upto_region 8 with fail
   go_region
   all_goals
    go_wp2_with fail
    generalize ((((wr.setCell ⟨w.heap.size + 1, 0, none⟩ (.int .i64 u.k)).setCell ⟨w.heap.size + 1, 1, none⟩ (.int .i64 u.n)).setCell ⟨w.heap.size + 1, 2, none⟩ (.string u.s)).setCell ⟨w.heap.size + 1, 3, none⟩ (.slice Au u.l.length cu)).drew = VF at HRd HUd hbf ⊢
    have r0 : VF.cell? ⟨w.heap.size + 1, 0, none⟩ = some (.int .i64 u.k) := hbf.out.cell 0
    have r1 : VF.cell? ⟨w.heap.size + 1, 1, none⟩ = some (.int .i64 u.n) := hbf.out.cell 1
    have r2 : VF.cell? ⟨w.heap.size + 1, 2, none⟩ = some (.string u.s) := hbf.out.cell 2
    have r3 : VF.cell? ⟨w.heap.size + 1, 3, none⟩ = some (.slice Au u.l.length cu) := hbf.out.cell 3
    refine bodyPost_ret (v := .tuple #[u4, tmVal u Au cu]) (by simp [results, Tryz.results155, go_sem, r0, r1, r2, r3, tmVal]) rfl ⟨V2.heap.size, u4, M, Au, cu, ?_, HRd.out, HI0.out, ?_⟩
    ·rw [← HT1.out]
     rfl
    ·rw [← HT1.out]
     exact HUd.out
end Go.Proofs.YtgcdhffeacdegaaGreatDoor

/- Layer 8, the library: FormatUint at base 16, of a byte. -/
namespace Go.Proofs.YtgcdhffeacdegaaGreatDoor
open Go.RowKit Go.El
def TzAt (w : World) : Prop := w.cell? ⟨6, 15, none⟩ = some (.int .u8 4)
set_option maxRecDepth 100000 in
theorem pow_16 (w : World) : Calls Tryz.prog 207 #[.int .i64 16] w fun e w' => e = .returned (.bool true) ∧ w' = w := by
 go_enter Tryz.func207, Tryz.ntmps207
 go_wp2_with fail
 go_ret
 exact ⟨rfl, rfl⟩
set_option maxRecDepth 100000 in
theorem tz64_16 (w : World) (h : TzAt w) : Calls Tryz.prog 215 #[.int .u64 16] w fun e w' => e = .returned (.int .i64 4) ∧ w' = w := by
 unfold TzAt at h
 have e1 : bits BinOp.and IntKind.u64 16 (IntKind.u64.wrap (-16)) = 16 := by decide +kernel
 have e2 : IntKind.u64.wrap (16 * 285870213051353865) = 4573923408821661840 := by decide +kernel
 have e3 : (4573923408821661840 / 288230376151711744 : Int) = 15 := by decide +kernel
 have e4 : (15 : Int).toNat = 15 := rfl
 go_enter Tryz.func215, Tryz.ntmps215
 go_wp2_with fail
 go_ret
 exact ⟨rfl, rfl⟩
set_option maxRecDepth 100000 in
theorem tz_16 (w : World) (h : TzAt w) : Calls Tryz.prog 208 #[.int .u64 16] w fun e w' => e = .returned (.int .i64 4) ∧ w' = w := by
 go_enter Tryz.func208, Tryz.ntmps208
 go_wp2_with (go_at_call 215; refine (tz64_16 _ h).mono ?_; rintro e w' ⟨rfl, rfl⟩)
 go_ret
 exact ⟨rfl, rfl⟩
theorem zero91 : Tryz.zeroCells219 = Array.replicate 65 (.int .u8 0) := by kernel_rfl
theorem zero91_at (i : Nat) (h : i < 65) : Tryz.zeroCells219[i]? = some (.int .u8 0) := by
 rw [zero91, Array.getElem?_replicate, if_pos h]
theorem and_15 (n : Nat) (h : n < 256) : bits BinOp.and IntKind.u64 (n : Int) 15 = ((n % 16 : Nat) : Int) := by
 have key : ∀ n : Fin 256, bits BinOp.and IntKind.u64 ((n.val : Nat) : Int) 15 = ((n.val % 16 : Nat) : Int) := by decide +kernel
 exact key ⟨n, h⟩
theorem dig_lit (m : Nat) (hm : m < 16) (h : m < (⟨#[48, 49, 50, 51, 52, 53, 54, 55, 56, 57, 97, 98, 99, 100, 101, 102, 103, 104, 105, 106, 107, 108, 109, 110, 111, 112, 113, 114, 115, 116, 117, 118, 119, 120, 121, 122]⟩ : ByteArray).size) : ((⟨#[48, 49, 50, 51, 52, 53, 54, 55, 56, 57, 97, 98, 99, 100, 101, 102, 103, 104, 105, 106, 107, 108, 109, 110, 111, 112, 113, 114, 115, 116, 117, 118, 119, 120, 121, 122]⟩ : ByteArray)[m]'h).toNat = (hexD m).toNat := by
 have key : ∀ i : Fin 16, ((#[48, 49, 50, 51, 52, 53, 54, 55, 56, 57, 97, 98, 99, 100, 101, 102, 103, 104, 105, 106, 107, 108, 109, 110, 111, 112, 113, 114, 115, 116, 117, 118, 119, 120, 121, 122] : Array UInt8)[i.val]'(Nat.lt_trans i.isLt (by decide))).toNat = (hexD i.val).toNat := by decide +kernel
 exact key ⟨m, hm⟩
theorem conv1 {wr : World} {g : Nat} {cs : Array Value} (hB : Blk wr g 219 cs) (hz : 64 < cs.size) (m : Nat) (hm : m < 16) (h : m < (⟨#[48, 49, 50, 51, 52, 53, 54, 55, 56, 57, 97, 98, 99, 100, 101, 102, 103, 104, 105, 106, 107, 108, 109, 110, 111, 112, 113, 114, 115, 116, 117, 118, 119, 120, 121, 122]⟩ : ByteArray).size) : (convert 23 9 (.slice (some ⟨g, 64, none⟩) 1 1)).run Tryz.prog (wr.setCell ⟨g, 64, none⟩ (.int .u8 (((⟨#[48, 49, 50, 51, 52, 53, 54, 55, 56, 57, 97, 98, 99, 100, 101, 102, 103, 104, 105, 106, 107, 108, 109, 110, 111, 112, 113, 114, 115, 116, 117, 118, 119, 120, 121, 122]⟩ : ByteArray)[m]'h).toNat : Int))) = .ok (.string (strB [hexD m])) (wr.setCell ⟨g, 64, none⟩ (.int .u8 (((⟨#[48, 49, 50, 51, 52, 53, 54, 55, 56, 57, 97, 98, 99, 100, 101, 102, 103, 104, 105, 106, 107, 108, 109, 110, 111, 112, 113, 114, 115, 116, 117, 118, 119, 120, 121, 122]⟩ : ByteArray)[m]'h).toNat : Int))) := by
 refine run_convert_bytes_back _ 23 9 5 ⟨g, 64, none⟩ 1 [hexD m] Tryz.underlying23 Tryz.underlying5 Tryz.underlying9 fun j hj => ?_
 have hj0 : j = 0 := by simp at hj; omega
 subst hj0
 have := (hB.set_ 64 (.int .u8 (((⟨#[48, 49, 50, 51, 52, 53, 54, 55, 56, 57, 97, 98, 99, 100, 101, 102, 103, 104, 105, 106, 107, 108, 109, 110, 111, 112, 113, 114, 115, 116, 117, 118, 119, 120, 121, 122]⟩ : ByteArray)[m]'h).toNat : Int))).cell 64
 rw [Array.getElem?_setIfInBounds, if_pos rfl, if_pos hz, dig_lit m hm h] at this
 rw [dig_lit m hm h]
 simpa [Addr.add] using this
theorem conv2 {wr : World} {g : Nat} {cs : Array Value} {d : Nat} (hB : Blk wr g 219 cs) (hz : 64 < cs.size) (hd : cs[64]? = some (.int .u8 ((hexD d).toNat : Int))) (m : Nat) (hm : m < 16) (h : m < (⟨#[48, 49, 50, 51, 52, 53, 54, 55, 56, 57, 97, 98, 99, 100, 101, 102, 103, 104, 105, 106, 107, 108, 109, 110, 111, 112, 113, 114, 115, 116, 117, 118, 119, 120, 121, 122]⟩ : ByteArray).size) : (convert 23 9 (.slice (some ⟨g, 63, none⟩) 2 2)).run Tryz.prog (wr.setCell ⟨g, 63, none⟩ (.int .u8 (((⟨#[48, 49, 50, 51, 52, 53, 54, 55, 56, 57, 97, 98, 99, 100, 101, 102, 103, 104, 105, 106, 107, 108, 109, 110, 111, 112, 113, 114, 115, 116, 117, 118, 119, 120, 121, 122]⟩ : ByteArray)[m]'h).toNat : Int))) = .ok (.string (strB [hexD m, hexD d])) (wr.setCell ⟨g, 63, none⟩ (.int .u8 (((⟨#[48, 49, 50, 51, 52, 53, 54, 55, 56, 57, 97, 98, 99, 100, 101, 102, 103, 104, 105, 106, 107, 108, 109, 110, 111, 112, 113, 114, 115, 116, 117, 118, 119, 120, 121, 122]⟩ : ByteArray)[m]'h).toNat : Int))) := by
 refine run_convert_bytes_back _ 23 9 5 ⟨g, 63, none⟩ 2 [hexD m, hexD d] Tryz.underlying23 Tryz.underlying5 Tryz.underlying9 fun j hj => ?_
 have hj0 : j = 0 ∨ j = 1 := by simp at hj; omega
 have h3 := (hB.set_ 63 (.int .u8 (((⟨#[48, 49, 50, 51, 52, 53, 54, 55, 56, 57, 97, 98, 99, 100, 101, 102, 103, 104, 105, 106, 107, 108, 109, 110, 111, 112, 113, 114, 115, 116, 117, 118, 119, 120, 121, 122]⟩ : ByteArray)[m]'h).toNat : Int))).cell 63
 have h4 := (hB.set_ 63 (.int .u8 (((⟨#[48, 49, 50, 51, 52, 53, 54, 55, 56, 57, 97, 98, 99, 100, 101, 102, 103, 104, 105, 106, 107, 108, 109, 110, 111, 112, 113, 114, 115, 116, 117, 118, 119, 120, 121, 122]⟩ : ByteArray)[m]'h).toNat : Int))).cell 64
 rw [Array.getElem?_setIfInBounds, if_pos rfl, if_pos (by omega), dig_lit m hm h] at h3
 rw [Array.getElem?_setIfInBounds, if_neg (by omega), hd, dig_lit m hm h] at h4
 rw [dig_lit m hm h]
 rcases hj0 with rfl | rfl
 ·simpa [Addr.add] using h3
 ·simpa [Addr.add] using h4
set_option maxRecDepth 100000 in
set_option maxHeartbeats 4000000 in
theorem bits_any (n : Nat) (hn : n < 256) (w : World) (h : TzAt w) : Calls Tryz.prog 191 #[.slice none 0 0, .int .u64 (n : Int), .int .i64 16, .bool false, .bool false] w fun e w' => e = .returned (.tuple #[.slice none 0 0, .string (strB (if n < 16 then [hexD n] else [hexD (n / 16), hexD (n % 16)]))]) ∧ Ext w w' := by
 have H := Lib.hid h
 clear h
 go_enter Tryz.func191, Tryz.ntmps191
 go_upto_region 4 with fail
 refine wp_abs (fun V => Hid (Blk V w.heap.size 219 Tryz.zeroCells219) ∧ Hid (Ext w V)) ⟨Blk.new w _ _, (Ext.refl w).alloc _⟩ ?_
 rintro V ⟨HB, HX⟩
 go_wp2_with (first | (go_at_call 207; refine (pow_16 _).mono ?_; rintro e w' ⟨rfl, rfl⟩) | (go_at_call 208; refine (tz_16 _ (HX.out.cell H.out)).mono ?_; rintro e w' ⟨rfl, rfl⟩))
 go_loopw [1, 13] (fun u i wr => ∃ m j : Nat, m < 256 ∧ u = .int .u64 m ∧ i = .int .i64 j ∧ ((m = n ∧ j = 65 ∧ Hid (Blk wr w.heap.size 219 Tryz.zeroCells219)) ∨ (16 ≤ n ∧ m = n / 16 ∧ j = 64 ∧ Hid (Blk wr w.heap.size 219 (Tryz.zeroCells219.setIfInBounds 64 (.int .u8 ((hexD (n % 16)).toNat : Int)))))) ∧ Hid (Ext w wr)) (fun _ i _ => (intOf i).toNat)
 case atStart => exact ⟨n, 65, hn, rfl, rfl, .inl ⟨rfl, rfl, HB.out⟩, HX.out⟩
 case round =>
  obtain ⟨m, j, hm, rfl, rfl, hor, HY⟩ := hrel
  rcases hor with ⟨rfl, rfl, HC⟩ | ⟨h16, rfl, rfl, HC⟩
  ·by_cases hlt : m < 16
   ·have hf := HC.out.frozen 64
    have hc := (HC.out.cell 64).trans (zero91_at 64 (by omega))
    have hcv := conv1 HC.out (by rw [zero91]; simp) m hlt
    go_wp2_with fail
    go_ret2
    refine ⟨?_, HY.out.setCell (Nat.le_refl _) _⟩
    (try rw [if_pos hlt])
    rfl
   ·have hf := HC.out.frozen 64
    have hc := (HC.out.cell 64).trans (zero91_at 64 (by omega))
    have ha := and_15 m hm
    go_wp2_with fail
    go_roundw
    case rel =>
     refine ⟨m / 16, 64, by omega, by go_num, rfl, .inr ⟨by omega, rfl, rfl, ?_⟩, HY.out.setCell (Nat.le_refl _) _⟩
     rw [dig_lit (m % 16) (by omega)]
     exact HC.out.set_ 64 _
    case measure => simp [intOf]
  ·have hlt : n / 16 < 16 := by omega
   have hf := HC.out.frozen 63
   have hc : wr.cell? ⟨w.heap.size, 63, none⟩ = some (.int .u8 0) := by
    rw [HC.out.cell 63, Array.getElem?_setIfInBounds, if_neg (by omega)]
    exact zero91_at 63 (by omega)
   have hcv := conv2 HC.out (by rw [Array.size_setIfInBounds, zero91]; simp) (d := n % 16) (by rw [Array.getElem?_setIfInBounds, if_pos rfl, if_pos (by rw [zero91]; simp)]) (n / 16) hlt
   go_wp2_with fail
   go_ret2
   have hn16 : ¬ n < 16 := by omega
   refine ⟨?_, HY.out.setCell (Nat.le_refl _) _⟩
   (try rw [if_neg hn16])
   rfl
set_option maxRecDepth 100000 in
theorem ifmt_any (n : Nat) (hn : n < 256) (w : World) (h : TzAt w) : Calls Tryz.prog 192 #[.int .u64 (n : Int), .int .i64 16] w fun e w' => e = .returned (.string (strB (if n < 16 then [hexD n] else [hexD (n / 16), hexD (n % 16)]))) ∧ Ext w w' := by
 have HF := Lib.hid (bits_any n hn w h)
 generalize (if n < 16 then [hexD n] else [hexD (n / 16), hexD (n % 16)]) = s at *
 go_enter Tryz.func192, Tryz.ntmps192
 go_wp2_with (go_at_call 191; refine HF.out.mono ?_; rintro e w' ⟨rfl, hx⟩; have HX := Lib.hid hx; clear hx)
 go_ret
 exact ⟨rfl, HX.out⟩
set_option maxRecDepth 100000 in
theorem fmt_any (n : Nat) (hn : n < 256) (w : World) (h : TzAt w) : Calls Tryz.prog 174 #[.int .u64 (n : Int), .int .i64 16] w fun e w' => e = .returned (.string (strB (if n < 16 then [hexD n] else [hexD (n / 16), hexD (n % 16)]))) ∧ Ext w w' := by
 have HF := Lib.hid (ifmt_any n hn w h)
 generalize (if n < 16 then [hexD n] else [hexD (n / 16), hexD (n % 16)]) = s at *
 go_enter Tryz.func174, Tryz.ntmps174
 go_wp2_with (go_at_call 192; refine HF.out.mono ?_; rintro e w' ⟨rfl, hx⟩; have HX := Lib.hid hx; clear hx)
 go_ret
 exact ⟨rfl, HX.out⟩
end Go.Proofs.YtgcdhffeacdegaaGreatDoor
