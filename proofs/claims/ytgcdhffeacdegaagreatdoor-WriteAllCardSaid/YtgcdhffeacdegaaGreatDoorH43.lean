/- Layer 11, the program: the walk of renamer.of. -/
import Derived.Test.YtgcdhffeacdegaaGreatDoorH12
import Derived.Test.YtgcdhffeacdegaaGreatDoorH16
import Derived.Test.YtgcdhffeacdegaaGreatDoorH39
namespace Go.Proofs.YtgcdhffeacdegaaGreatDoor
open Go.RowKit Go.El
structure RowM (m : Nat) (X : World) (lo : Nat) (wr : World) (v : Value) (M : List TmP) : Prop where
 own : wr.ownsRow 0 32 4 v M.length (flat tmC M)
 kid : ∀ p ∈ M, TmIn (fun k => lo ≤ k ∧ v.ownBlock ≠ some k ∧ k < wr.heap.size) wr p.1 p.2.1 p.2.2
 far : ∀ k, v.ownBlock = some k → lo ≤ k
 mods : Mods [m] X wr
 xlo : X.heap.size ≤ lo
 low : lo ≤ wr.heap.size
 mlt : m < X.heap.size
theorem RowM.start {m : Nat} {X wr : World} (h : Mods [m] X wr) (hm : m < X.heap.size) : RowM m X wr.heap.size wr (.slice none 0 0) [] :=
 ⟨World.ownsRow_nil _ _ _ _, fun p hp => by simp at hp, fun k hk => by simp [Value.ownBlock] at hk, h, h.size, Nat.le_refl _, hm⟩
theorem RowM.ng {m : Nat} {X wr : World} {lo : Nat} {v : Value} {M : List TmP} (h : RowM m X lo wr v M) {g : Nat} (hg : g < lo) : v.ownBlock ≠ some g := fun e => by have := h.far g e; omega
theorem RowM.no {m : Nat} {X wr : World} {lo : Nat} {v : Value} {M : List TmP} (h : RowM m X lo wr v M) {g : Nat} (hg : g < lo) : g ∉ ownL v := fun e => h.ng hg (by simpa [ownL] using e)
theorem RowM.go {m : Nat} {X wr w' : World} {lo : Nat} {v : Value} {M : List TmP} (h : RowM m X lo wr v M) (x : Mods [m] wr w') : RowM m X lo w' v M := by
 have h1 := h.xlo
 have h2 := h.mlt
 refine ⟨own_mods h.own x (fun b hb => ?_), fun p hp => TmIn.mods x (fun k hk => ?_) (fun k hk => ⟨hk.1, hk.2.1, Nat.lt_of_lt_of_le hk.2.2 x.size⟩) (h.kid p hp), h.far, h.mods.trans x, h.xlo, Nat.le_trans h.low x.size, h.mlt⟩
 ·have := h.far b hb
  simp
  omega
 ·simp
  omega
theorem RowM.set_ {m : Nat} {X wr : World} {lo : Nat} {v : Value} {M : List TmP} (h : RowM m X lo wr v M) {g : Nat} (hx : X.heap.size ≤ g) (hg : g < lo) (i : Nat) (u : Value) : RowM m X lo (wr.setCell ⟨g, i, none⟩ u) v M := by
 refine ⟨ownsRow_setCell_other h.own (h.ng hg) u, fun p hp => ?_, h.far, h.mods.setCell (p := ⟨g, i, none⟩) (.inr hx) u, h.xlo, by simpa using h.low, h.mlt⟩
 exact TmIn.mods (S := [g]) ((Mods.refl [g] wr).setCell (p := ⟨g, i, none⟩) (.inl (by simp)) u) (fun k hk => by simp; omega) (fun k hk => ⟨hk.1, hk.2.1, by simpa using hk.2.2⟩) (h.kid p hp)
theorem RowM.step {m : Nat} {X wr V w' : World} {lo : Nat} {v v' : Value} {M : List TmP} {p : TmP} (h : RowM m X lo wr v M) (x : Mods [m] wr V) (hp : TmIn (fun k => lo ≤ k ∧ v.ownBlock ≠ some k ∧ k < V.heap.size) V p.1 p.2.1 p.2.2)
  (ho : w'.ownsRow 0 32 4 v' (M.length + 1) (flat tmC M ++ tmC p)) (hm : Mods (ownL v) V w') (hb : v'.ownBlock = v.ownBlock ∨ v'.ownBlock = some V.heap.size) : RowM m X lo w' v' (M ++ [p]) := by
 have hV := h.go x
 have hD : ∀ k, (lo ≤ k ∧ v.ownBlock ≠ some k ∧ k < V.heap.size) → k ∉ ownL v := fun k hk hm => hk.2.1 (by simpa [ownL] using hm)
 have hD2 : ∀ k, (lo ≤ k ∧ v.ownBlock ≠ some k ∧ k < V.heap.size) → (lo ≤ k ∧ v'.ownBlock ≠ some k ∧ k < w'.heap.size) := fun k hk => by
  refine ⟨hk.1, fun e => ?_, Nat.lt_of_lt_of_le hk.2.2 hm.size⟩
  rcases hb with hb | hb
  ·exact hk.2.1 (hb.symm.trans e)
  ·have e1 := hb.symm.trans e
   injection e1 with e1
   have := hk.2.2
   omega
 refine ⟨?_, fun q hq => ?_, fun k e => ?_, ?_, h.xlo, Nat.le_trans hV.low hm.size, h.mlt⟩
 ·rw [List.length_append, flat_append]
  simpa [flat] using ho
 ·rcases List.mem_append.1 hq with hq | hq
  ·exact TmIn.mods hm hD hD2 (hV.kid q hq)
  ·simp at hq
   subst hq
   exact TmIn.mods hm hD hD2 hp
 ·rcases hb with hb | hb
  ·exact h.far k (hb.symm.trans e)
  ·have e1 := hb.symm.trans e
   injection e1 with e1
   have := hV.low
   omega
 ·exact Mods.step hV.mods hm (fun k hk => .inr (Nat.le_trans h.xlo (h.far k (by simpa [ownL] using hk))))
theorem RowM.done {m : Nat} {X wr : World} {lo : Nat} {v : Value} {M : List TmP} (h : RowM m X lo wr v M) (k n : Int) (s : ByteArray) : ∃ A c, v = .slice A M.length c ∧ TmIn (fun i => lo ≤ i ∧ i < wr.heap.size) wr (.mk k n s (M.map (·.1))) A c := by
 obtain ⟨A, c, rfl⟩ := own_value h.own
 refine ⟨A, c, rfl, ?_⟩
 have hc : (M.map (·.1)).length ≤ c := by
  rcases h.own.2 with ⟨h1, h2⟩ | ⟨g', cap', cur, hv, _, _, hnc, _⟩
  ·simp only [Value.slice.injEq] at h1
   simp
   omega
  ·injection hv with _ _ hc
   subst hc
   simpa using hnc
 refine .mk k n s _ A c (M.map (·.2)) (by simp) (fun j t q ht hq => ?_) (fun hne => ?_) hc
 ·rw [List.getElem?_map] at ht hq
  cases hp : M[j]? with
  | none => rw [hp] at ht; simp at ht
  | some p =>
   rw [hp] at ht hq
   simp at ht hq
   subst ht hq
   exact (h.kid p (List.mem_of_getElem? hp)).mono (fun i hi => ⟨hi.1, hi.2.2⟩)
 ·have hlen : 0 < M.length := by
   rcases M with _ | ⟨p, M⟩
   ·simp at hne
   ·simp
  obtain ⟨b, off, rfl, hcell⟩ := Src.form (Src.of_own h.own) hlen (by omega)
  have hb0 : (Value.slice (some ⟨b, off, none⟩) M.length c).ownBlock = some b := rfl
  refine ⟨b, off, rfl, ⟨h.far b hb0, (h.own.lt b hb0).2⟩, fun j t q ht hq => ?_⟩
  rw [List.getElem?_map] at ht hq
  cases hp : M[j]? with
  | none => rw [hp] at ht; simp at ht
  | some p =>
   rw [hp] at ht hq
   simp at ht hq
   subst ht hq
   refine ⟨?_, ?_, ?_, ?_⟩
   ·exact hcell (j * 4) _ ((flat_at tmC_len M j 0 p hp (by omega)).trans rfl)
   ·exact hcell (j * 4 + 1) _ ((flat_at tmC_len M j 1 p hp (by omega)).trans rfl)
   ·exact hcell (j * 4 + 2) _ ((flat_at tmC_len M j 2 p hp (by omega)).trans rfl)
   ·exact hcell (j * 4 + 3) _ ((flat_at tmC_len M j 3 p hp (by omega)).trans rfl)
theorem kid_newM {m : Nat} {X wr W W2 : World} {lo : Nat} {v : Value} {M : List TmP} {u : Tm} {A : Option Addr} {c : Nat} {o : Obj} (h : RowM m X lo wr v M) (hE : Ext wr W) (ht : TmIn (fun k => W.drew.heap.size ≤ k ∧ k < W2.heap.size) W2 u A c) : TmIn (fun k => lo ≤ k ∧ v.ownBlock ≠ some k ∧ k < (W2.alloc o).heap.size) (W2.alloc o) u A c := by
 refine (ht.ext (ext_box W2 o)).mono (fun k hk => ?_)
 have h1 : W.heap.size ≤ k := hk.1
 have h2 := hE.size
 have h3 := h.low
 refine ⟨by omega, fun e => ?_, ?_⟩
 ·have := (h.own.lt k e).2
  omega
 ·rw [World.size_alloc]
  have := hk.2
  omega
theorem zeroInt (w : World) : (zeroValue 3).run Tryz.prog w = .ok (.int .i64 0) w := by kernel_rfl
def RenPost (m : Nat) (t : Tm) (acc : List Int) (w : World) (e : Ending) (w' : World) : Prop :=
 ∃ A' c', e = .returned (tmVal (rnT t acc) A' c') ∧ TmIn (fun k => w.heap.size ≤ k ∧ k < w'.heap.size) w' (rnT t acc) A' c' ∧ MapAt (Value.int .i64) w' m (numP (vsT t acc)) ∧ Mods [m] w w'
set_option maxRecDepth 100000 in
set_option maxHeartbeats 4000000 in
theorem renVar_any (n : Int) (acc : List Int) (A : Option Addr) (c : Nat) (w : World) (m : Nat) (hM : MapAt (Value.int .i64) w m (numP acc)) :
  Calls Tryz.prog 79 #[.map (some m), .agg #[.int .i64 1, .int .i64 n, .string ⟨#[]⟩, .slice A 0 c]] w (RenPost m (.mk 1 n ⟨#[]⟩ []) acc w) := by
 have hrn : rnT (.mk 1 n ⟨#[]⟩ []) acc = .mk 1 (plc n (addV n acc)) ⟨#[]⟩ [] := by simp [rnT]
 have hvs : vsT (.mk 1 n ⟨#[]⟩ []) acc = addV n acc := by simp [vsT]
 have hpost : ∀ e w', (e = .returned (.agg #[.int .i64 1, .int .i64 (plc n (addV n acc)), .string ⟨#[]⟩, .slice none 0 0]) ∧ MapAt (Value.int .i64) w' m (numP (addV n acc)) ∧ Mods [m] w w') → RenPost m (.mk 1 n ⟨#[]⟩ []) acc w e w' := fun e w' ⟨h1, h2, h3⟩ => by
  refine ⟨none, 0, ?_, ?_, ?_, h3⟩
  ·rw [hrn]; exact h1
  ·rw [hrn]; exact TmsIn.term (TmsIn.nil _ _ _ _) _ _ _
  ·rw [hvs]; exact h2
 refine Calls.mono ?_ hpost
 clear hpost hrn hvs
 have hmlt := hM.lt
 have hal := addV_len n acc
 have hF := numP_find n acc
 have HM := Lib.hid hM
 clear hM
 by_cases hin : n ∈ acc
 ·rw [if_pos hin] at hF
  have hadd : addV n acc = acc := if_pos hin
  rw [hadd]
  have HF := Lib.hid hF
  clear hF hadd hin hal
  generalize plc n acc = P at *
  go_enter Tryz.func79, Tryz.ntmps79
  go_upto_region 2 with fail
  refine wp_abs (fun V => Hid (Blk V (w.heap.size + 1) 32 #[.int .i64 0, .int .i64 0, .string ⟨#[]⟩, .slice none 0 0]) ∧ Hid (Blk V w.heap.size 32 #[.int .i64 1, .int .i64 n, .string ⟨#[]⟩, .slice A 0 c]) ∧ Hid (Ext w V)) ⟨blk2b, (Blk.new w _ _).alloc _, ((Ext.refl w).alloc _).alloc _⟩ ?_
  rintro V ⟨HZ, HT, HX⟩
  have y1 : V.cell? ⟨w.heap.size, 1, none⟩ = some (.int .i64 n) := HT.out.cell 1
  go_upto_region 6 with (at_lookup; refine wpList_lookup_at (P := Tryz.prog) _ rfl _ _ true rfl (intKind .i64) Tryz.underlying124 Tryz.underlying3 m rfl n rfl _ zeroInt (numP acc) (HM.out.ext HX.out) ?_; rw [HF.out]; simp only [if_true, Option.getD_some, Option.isSome_some])
  go_wp2_with (go_at_call 124; refine (var_any _ _).mono ?_; rintro e W1 ⟨rfl, hx⟩; have z0 := HZ.out.ext hx; have HZ1 := Lib.hid z0; have HX1 := Lib.hid hx; have zc := z0.cell; have zf := z0.frozen; clear hx z0)
  have hbf := (((HZ1.out.set_ 0 (.int .i64 1)).set_ 1 (.int .i64 P)).set_ 2 (.string ⟨#[]⟩)).set_ 3 (.slice none 0 0)
  have hMF := (((((HM.out.ext HX.out).ext HX1.out).setCell ⟨w.heap.size + 1, 0, none⟩ (.int .i64 1)).setCell ⟨w.heap.size + 1, 1, none⟩ (.int .i64 P)).setCell ⟨w.heap.size + 1, 2, none⟩ (.string ⟨#[]⟩)).setCell ⟨w.heap.size + 1, 3, none⟩ (.slice none 0 0)
  have hEF := ((((Mods.ext (S := [m]) (HX.out.trans HX1.out)).setCell (p := ⟨w.heap.size + 1, 0, none⟩) (.inr (by simp)) (.int .i64 1)).setCell (p := ⟨w.heap.size + 1, 1, none⟩) (.inr (by simp)) (.int .i64 P)).setCell (p := ⟨w.heap.size + 1, 2, none⟩) (.inr (by simp)) (.string ⟨#[]⟩)).setCell (p := ⟨w.heap.size + 1, 3, none⟩) (.inr (by simp)) (.slice none 0 0)
  generalize (((W1.setCell ⟨w.heap.size + 1, 0, none⟩ (.int .i64 1)).setCell ⟨w.heap.size + 1, 1, none⟩ (.int .i64 P)).setCell ⟨w.heap.size + 1, 2, none⟩ (.string ⟨#[]⟩)).setCell ⟨w.heap.size + 1, 3, none⟩ (.slice none 0 0) = VF at hbf hMF hEF ⊢
  have r0 : VF.cell? ⟨w.heap.size + 1, 0, none⟩ = some (.int .i64 1) := hbf.cell 0
  have r1 : VF.cell? ⟨w.heap.size + 1, 1, none⟩ = some (.int .i64 P) := hbf.cell 1
  have r2 : VF.cell? ⟨w.heap.size + 1, 2, none⟩ = some (.string ⟨#[]⟩) := hbf.cell 2
  have r3 : VF.cell? ⟨w.heap.size + 1, 3, none⟩ = some (.slice none 0 0) := hbf.cell 3
  refine bodyPost_ret (v := .agg #[.int .i64 1, .int .i64 P, .string ⟨#[]⟩, .slice none 0 0]) (by simp [results, Tryz.results79, go_sem, r0, r1, r2, r3]) rfl ⟨rfl, hMF, hEF⟩
 ·rw [if_neg hin] at hF
  have hadd : addV n acc = acc ++ [n] := if_neg hin
  have hpl : plc n (addV n acc) = acc.length := by rw [hadd]; exact plc_new hin
  rw [hpl, hadd]
  have HF := Lib.hid hF
  have HS := Lib.hid (numP_set hin)
  clear hF hadd hin hal hpl
  go_enter Tryz.func79, Tryz.ntmps79
  go_upto_region 2 with fail
  refine wp_abs (fun V => Hid (Blk V (w.heap.size + 1) 32 #[.int .i64 0, .int .i64 0, .string ⟨#[]⟩, .slice none 0 0]) ∧ Hid (Blk V w.heap.size 32 #[.int .i64 1, .int .i64 n, .string ⟨#[]⟩, .slice A 0 c]) ∧ Hid (Ext w V)) ⟨blk2b, (Blk.new w _ _).alloc _, ((Ext.refl w).alloc _).alloc _⟩ ?_
  rintro V ⟨HZ, HT, HX⟩
  have y1 : V.cell? ⟨w.heap.size, 1, none⟩ = some (.int .i64 n) := HT.out.cell 1
  have q1 : ∀ ty, (Builtin.len_ #[124] ty #[.map (some m)]).run Tryz.prog V = .ok (.int .i64 acc.length) V := fun ty => by
   have := (HM.out.ext HX.out).run_len (P := Tryz.prog) Tryz.underlying124 ty
   rw [show (numP acc).length = acc.length from numF_len acc 0] at this
   exact this
  go_upto_region 6 with (first | (at_lookup; refine wpList_lookup_at (P := Tryz.prog) _ rfl _ _ true rfl (intKind .i64) Tryz.underlying124 Tryz.underlying3 m rfl n rfl _ zeroInt (numP acc) (HM.out.ext HX.out) ?_; rw [HF.out]; simp only [if_true, Option.getD_none, Option.isSome_none]) | (at_mapUpdate; refine wpList_mapUpdate_at (P := Tryz.prog) _ rfl _ _ _ 124 rfl (intKind .i64) Tryz.underlying124 Tryz.underlying3 (m := m) (ps := numP acc) rfl (HM.out.ext HX.out) n (.int .i64 acc.length) rfl rfl ?_; intro w3 hm3 hd3 hs3; rw [HS.out] at hm3; have HM3 := Lib.hid hm3; have HD3 := Lib.hid hd3; clear hm3 hd3 hs3))
  have HZ3 := Lib.hid (HZ.out.mods HD3.out (by simp; omega))
  clear q1
  go_wp2_with (go_at_call 124; refine (var_any _ _).mono ?_; rintro e W1 ⟨rfl, hx⟩; have z0 := HZ3.out.ext hx; have HZ1 := Lib.hid z0; have HX1 := Lib.hid hx; have zc := z0.cell; have zf := z0.frozen; clear hx z0)
  have hbf := (((HZ1.out.set_ 0 (.int .i64 1)).set_ 1 (.int .i64 acc.length)).set_ 2 (.string ⟨#[]⟩)).set_ 3 (.slice none 0 0)
  have hMF := ((((HM3.out.ext HX1.out).setCell ⟨w.heap.size + 1, 0, none⟩ (.int .i64 1)).setCell ⟨w.heap.size + 1, 1, none⟩ (.int .i64 acc.length)).setCell ⟨w.heap.size + 1, 2, none⟩ (.string ⟨#[]⟩)).setCell ⟨w.heap.size + 1, 3, none⟩ (.slice none 0 0)
  have hEF := (((((Mods.ext (S := [m]) HX.out).trans (HD3.out.trans (Mods.ext HX1.out))).setCell (p := ⟨w.heap.size + 1, 0, none⟩) (.inr (by simp)) (.int .i64 1)).setCell (p := ⟨w.heap.size + 1, 1, none⟩) (.inr (by simp)) (.int .i64 acc.length)).setCell (p := ⟨w.heap.size + 1, 2, none⟩) (.inr (by simp)) (.string ⟨#[]⟩)).setCell (p := ⟨w.heap.size + 1, 3, none⟩) (.inr (by simp)) (.slice none 0 0)
  generalize (((W1.setCell ⟨w.heap.size + 1, 0, none⟩ (.int .i64 1)).setCell ⟨w.heap.size + 1, 1, none⟩ (.int .i64 acc.length)).setCell ⟨w.heap.size + 1, 2, none⟩ (.string ⟨#[]⟩)).setCell ⟨w.heap.size + 1, 3, none⟩ (.slice none 0 0) = VF at hbf hMF hEF ⊢
  have r0 : VF.cell? ⟨w.heap.size + 1, 0, none⟩ = some (.int .i64 1) := hbf.cell 0
  have r1 : VF.cell? ⟨w.heap.size + 1, 1, none⟩ = some (.int .i64 acc.length) := hbf.cell 1
  have r2 : VF.cell? ⟨w.heap.size + 1, 2, none⟩ = some (.string ⟨#[]⟩) := hbf.cell 2
  have r3 : VF.cell? ⟨w.heap.size + 1, 3, none⟩ = some (.slice none 0 0) := hbf.cell 3
  refine bodyPost_ret (v := .agg #[.int .i64 1, .int .i64 acc.length, .string ⟨#[]⟩, .slice none 0 0]) (by simp [results, Tryz.results79, go_sem, r0, r1, r2, r3]) rfl ⟨rfl, hMF, hEF⟩
set_option maxRecDepth 100000 in
set_option maxHeartbeats 4000000 in
theorem renOf_any : ∀ (N : Nat) (t : Tm), szT t ≤ N → szT t ≤ 100000000 → okT t = true → ∀ (acc : List Int) (A : Option Addr) (c : Nat) (w : World) (D : Nat → Prop) (m : Nat), acc.length + szT t ≤ 1000000000 → TmIn D w t A c → (∀ k, D k → k ≠ m) → MapAt (Value.int .i64) w m (numP acc) →
  Calls Tryz.prog 79 #[.map (some m), tmVal t A c] w (RenPost m t acc w)
 | 0, t, h => by
  have := szT_pos t
  omega
 | N + 1, .mk k n s l, hN => by
  intro hbig hok acc A c w D m hacc ht hDm hMap
  obtain ⟨i1, hi1, hz0, hz1, hz2⟩ := infoP tmInfo4
  have IH := renOf_any N
  simp only [szT] at hN hbig hacc
  simp only [okT, Bool.and_eq_true] at hok
  obtain ⟨hpk, hokl⟩ := hok
  by_cases hk : k = 1
  ·subst hk
   have hv : s = ⟨#[]⟩ ∧ l = [] := by
    have := part_var hpk
    refine ⟨?_, List.length_eq_zero_iff.1 this.2.2.2⟩
    exact mk_of (List.length_eq_zero_iff.1 (by simpa using this.2.2.1))
   obtain ⟨rfl, rfl⟩ := hv
   exact renVar_any n acc A c w m hMap
  ·have hk2 : (k == 1) = false := by simpa using hk
   have hrn : rnT (.mk k n s l) acc = .mk k n s (rnL l acc) := by simp [rnT, hk]
   have hvs : vsT (.mk k n s l) acc = vsL l acc := by simp [vsT, hk]
   have hpost : ∀ e w', (∃ A' c', e = .returned (.agg #[.int .i64 k, .int .i64 n, .string s, .slice A' l.length c']) ∧ TmIn (fun k => w.heap.size ≤ k ∧ k < w'.heap.size) w' (.mk k n s (rnL l acc)) A' c' ∧ MapAt (Value.int .i64) w' m (numP (vsL l acc)) ∧ Mods [m] w w') → RenPost m (.mk k n s l) acc w e w' := fun e w' ⟨A', c', h1, h2, h3, h4⟩ => by
    refine ⟨A', c', ?_, ?_, ?_, h4⟩
    ·rw [hrn, h1]
     unfold tmVal
     simp only [Tm.k, Tm.n, Tm.s, Tm.l, rnL_len]
    ·rw [hrn]; exact h2
    ·rw [hvs]; exact h3
   refine Calls.mono ?_ hpost
   have hmlt := hMap.lt
   have H := Lib.hid ht
   have HM0 := Lib.hid hMap
   have HDM := Lib.hid hDm
   unfold tmVal
   simp only [Tm.k, Tm.n, Tm.s, Tm.l]
   clear hpk hk hrn hvs hpost ht hMap hDm
   go_enter Tryz.func79, Tryz.ntmps79
   go_upto_region 9 with fail
   refine wp_abs (fun V => Hid (Blk V (w.heap.size + 1 + 1) 32 #[.int .i64 k, .int .i64 n, .string s, .slice none 0 0]) ∧ Hid (Blk V (w.heap.size + 1) 32 #[.int .i64 0, .int .i64 0, .string ⟨#[]⟩, .slice none 0 0]) ∧ Hid (Ext w V)) ⟨blk3, blk2, (((Ext.refl w).alloc _).alloc _).alloc _⟩ ?_
   rintro V ⟨HB0, HZ0, HX0⟩
   have hlw := len_szL l
   go_loopw [40] (fun i wr => ∃ (j : Nat) (v : Value) (M : List TmP), j ≤ l.length ∧ i = .int .i64 j ∧ Hid (M.map (·.1) = rnL (l.take j) acc) ∧ Hid (RowM m w V.heap.size wr v M) ∧ Hid (Blk wr (w.heap.size + 1 + 1) 32 #[.int .i64 k, .int .i64 n, .string s, v]) ∧ Hid (Blk wr (w.heap.size + 1) 32 #[.int .i64 0, .int .i64 0, .string ⟨#[]⟩, .slice none 0 0]) ∧ Hid (MapAt (Value.int .i64) wr m (numP (vsL (l.take j) acc)))) (fun i _ => l.length - (intOf i).toNat)
   case atStart => exact ⟨0, _, [], Nat.zero_le _, rfl, Lib.hid (by simp [rnL]), RowM.start (Mods.ext HX0.out) hmlt, HB0.out, HZ0.out, Lib.hid (by simpa [vsL] using HM0.out.ext HX0.out)⟩
   case round =>
    obtain ⟨j, v, M, hj, rfl, HM, HR, HB, HZ, HP⟩ := hrel
    have hMl : M.length = j := by
     have := congrArg List.length HM.out
     simp only [List.length_map, rnL_len, List.length_take] at this
     omega
    subst hMl
    have hva := (vsL_len (l.take M.length) acc).1
    by_cases hlt : M.length < l.length
    ·have ho : l[M.length]? = some l[M.length] := List.getElem?_eq_getElem hlt
     have hsu := szL_get ho
     have hst := szL_take ho
     have hsl := szL_take_le l (M.length + 1)
     have hou := okL_get hokl ho
     have hvt := Lib.hid (vsL_take acc ho)
     have hMn : Hid (∀ q : TmP, q.1 = rnT l[M.length] (vsL (l.take M.length) acc) → (M ++ [q]).map (·.1) = rnL (l.take (M.length + 1)) acc) := fun q hq => by
      rw [List.map_append, HM.out, rnL_take acc ho]
      simp [hq]
     generalize l[M.length] = u at ho hou hMn hsu hst hvt
     generalize vsL (l.take M.length) acc = vs at *
     obtain ⟨bb, off, A', c', rfl, _, hu, q0, q1, q2, q3⟩ := (TmIn.mods (D' := D) HR.out.mods (fun k hk => by simpa using HDM.out k hk) (fun _ h => h) H.out).child ho
     obtain ⟨Av, cv, rfl⟩ := own_value HR.out.own
     have HC := fun (W : World) (x : Ext wr W) => Lib.hid (IH u (by omega) (by omega) hou vs A' c' W D m (by omega) (TmIn.ext x hu) HDM.out (HP.out.ext x))
     unfold tmVal at HC
     have hglt : w.heap.size + 1 + 1 < V.heap.size := HB0.out.lt
     have hVw := HR.out.low
     clear ho hu
     go_upto_region 11 with fail
     refine wp_abs (fun W => Hid (Ext wr W) ∧ Hid (Blk W wr.heap.size 32 #[.int .i64 u.k, .int .i64 u.n, .string u.s, .slice A' u.l.length c'])) ⟨ext_box _ _, Blk.new _ _ _⟩ ?_
     rintro W ⟨HE, HU⟩
     have hS : W.cell? ⟨w.heap.size + 1 + 1, 3, none⟩ = some (.slice Av M.length cv) ∧ W.cell? ⟨wr.heap.size, 0, none⟩ = some (.int .i64 u.k) ∧ W.cell? ⟨wr.heap.size, 1, none⟩ = some (.int .i64 u.n) ∧ W.cell? ⟨wr.heap.size, 2, none⟩ = some (.string u.s) ∧ W.cell? ⟨wr.heap.size, 3, none⟩ = some (.slice A' u.l.length c') := ⟨(HB.out.ext HE.out).cell 3, HU.out.cell 0, HU.out.cell 1, HU.out.cell 2, HU.out.cell 3⟩
     have hS0 := bu_keep ((Ext.refl W).drew) hS
     clear q0 q1 q2 q3
     obtain ⟨z3, z4, z5, z6, z7⟩ := hS0
     go_region_law ((first | (go_simp; go_at_call 79; refine (HC _ (HE.out.drew)).out.mono ?_; rintro e W2 ⟨A2, c2, rfl, ht2, hp2, hx2⟩; have y3 := hx2.cell z3 (by simp; omega); have y4 := (ext_box W2 (.cells #[.int .i64 (rnT u vs).k, .int .i64 (rnT u vs).n, .string (rnT u vs).s, .slice A2 (rnT u vs).l.length c2] 32)).cell y3; unfold tmVal) | (refine step_append_src (P := Tryz.prog) rfl (.tmp 45) (.tmp 49) 30 rfl 32 i1 _ 4 56 Tryz.underlying30 hi1 hz0 hz1 hz2 rfl (by omega) (.slice Av M.length cv) rfl _ _ _ rfl M.length (flat tmC M) (own_mods HR.out.own (((Mods.ext HE.out.drew).trans hx2).alloc _) (fun b hb => by have := HR.out.far b hb; simp; omega)) (tmC (rnT u vs, A2, c2)) (El.Src.new _ #[.int .i64 (rnT u vs).k, .int .i64 (rnT u vs).n, .string (rnT u vs).s, .slice A2 (rnT u vs).l.length c2] _ 1 4 rfl) (tmC_one _) (by unfold maxLen; omega) (by omega) ?_; intro v3 w3 ho3 hm3 hb3; obtain ⟨A3, c3, rfl⟩ := own_value ho3; have hR3 := RowM.step (p := (rnT u vs, A2, c2)) HR.out (((Mods.ext HE.out.drew).trans hx2).alloc _) (kid_newM HR.out HE.out ht2) ho3 hm3 hb3; have hB3 := (HB.out.mods (((Mods.ext HE.out.drew).trans hx2).alloc _) (by simp; omega)).mods hm3 (HR.out.no hglt); have hZ3 := (HZ.out.mods (((Mods.ext HE.out.drew).trans hx2).alloc _) (by simp; omega)).mods hm3 (HR.out.no (by omega)); have hP3 := (hp2.ext (ext_box W2 (.cells #[.int .i64 (rnT u vs).k, .int .i64 (rnT u vs).n, .string (rnT u vs).s, .slice A2 (rnT u vs).l.length c2] 32))).mods hm3 (HR.out.no (by omega)); have k3 : w3.cell? ⟨w.heap.size + 1 + 1, 3, none⟩ = some (.slice Av M.length cv) := hB3.cell 3; have f3 := hB3.frozen 3; have HR3 := Lib.hid hR3; have HB3 := Lib.hid hB3; have HZ3 := Lib.hid hZ3; have HP3 := Lib.hid hP3; clear hR3 hB3 hZ3 hP3 ho3 hm3 hb3)))
     all_goals
      go_wp2_with fail
      go_roundw
      case rel => exact ⟨M.length + 1, _, M ++ [(rnT u vs, A2, c2)], hlt, by go_num, hMn.out _ rfl, HR3.out.set_ (by omega) hglt 3 _, HB3.out.set_ 3 _, HZ3.out.far (p := ⟨w.heap.size + 1 + 1, 3, none⟩) (by simp) _, Lib.hid (by rw [hvt.out]; exact HP3.out.setCell _ _)⟩
      case measure => simp [intOf]; omega
    ·have hMl : M.length = l.length := by omega
     rw [hMl, List.take_length] at HM HP
     obtain ⟨A2, c2, rfl, ht2⟩ := HR.out.done k n s
     rw [HM.out] at ht2
     rw [hMl] at HB hlt ⊢
     have b0 : wr.cell? ⟨w.heap.size + 1 + 1, 0, none⟩ = some (.int .i64 k) := HB.out.cell 0
     have b1 : wr.cell? ⟨w.heap.size + 1 + 1, 1, none⟩ = some (.int .i64 n) := HB.out.cell 1
     have b2 : wr.cell? ⟨w.heap.size + 1 + 1, 2, none⟩ = some (.string s) := HB.out.cell 2
     have b3 : wr.cell? ⟨w.heap.size + 1 + 1, 3, none⟩ = some (.slice A2 l.length c2) := HB.out.cell 3
     have zc := HZ.out.cell
     have zf := HZ.out.frozen
     have hgl : w.heap.size + 1 + 1 < V.heap.size := HB0.out.lt
     have hbf := (((HZ.out.set_ 0 (.int .i64 k)).set_ 1 (.int .i64 n)).set_ 2 (.string s)).set_ 3 (.slice A2 l.length c2)
     have hEF := (((HR.out.mods.setCell (p := ⟨w.heap.size + 1, 0, none⟩) (.inr (by simp)) (.int .i64 k)).setCell (p := ⟨w.heap.size + 1, 1, none⟩) (.inr (by simp)) (.int .i64 n)).setCell (p := ⟨w.heap.size + 1, 2, none⟩) (.inr (by simp)) (.string s)).setCell (p := ⟨w.heap.size + 1, 3, none⟩) (.inr (by simp)) (.slice A2 l.length c2)
     have hMF := (((HP.out.setCell ⟨w.heap.size + 1, 0, none⟩ (.int .i64 k)).setCell ⟨w.heap.size + 1, 1, none⟩ (.int .i64 n)).setCell ⟨w.heap.size + 1, 2, none⟩ (.string s)).setCell ⟨w.heap.size + 1, 3, none⟩ (.slice A2 l.length c2)
     have hTF := TmIn.mods (S := [w.heap.size + 1]) (D' := fun i => w.heap.size ≤ i ∧ i < ((((wr.setCell ⟨w.heap.size + 1, 0, none⟩ (.int .i64 k)).setCell ⟨w.heap.size + 1, 1, none⟩ (.int .i64 n)).setCell ⟨w.heap.size + 1, 2, none⟩ (.string s)).setCell ⟨w.heap.size + 1, 3, none⟩ (.slice A2 l.length c2)).heap.size) (((((Mods.refl _ wr).setCell (p := ⟨w.heap.size + 1, 0, none⟩) (.inl (by simp)) (.int .i64 k)).setCell (p := ⟨w.heap.size + 1, 1, none⟩) (.inl (by simp)) (.int .i64 n)).setCell (p := ⟨w.heap.size + 1, 2, none⟩) (.inl (by simp)) (.string s)).setCell (p := ⟨w.heap.size + 1, 3, none⟩) (.inl (by simp)) (.slice A2 l.length c2)) (fun i hi => by simp; omega) (fun i hi => ⟨by omega, by simpa using hi.2⟩) ht2
     have HBF := Lib.hid hbf
     have HEF := Lib.hid hEF
     have HTF := Lib.hid hTF
     have HMF := Lib.hid hMF
     clear hbf hEF hTF hMF ht2 HM HR HB HZ HP
     go_wp2_with fail
     generalize (((wr.setCell ⟨w.heap.size + 1, 0, none⟩ (.int .i64 k)).setCell ⟨w.heap.size + 1, 1, none⟩ (.int .i64 n)).setCell ⟨w.heap.size + 1, 2, none⟩ (.string s)).setCell ⟨w.heap.size + 1, 3, none⟩ (.slice A2 l.length c2) = VF at HBF HEF HTF HMF ⊢
     have r0 : VF.cell? ⟨w.heap.size + 1, 0, none⟩ = some (.int .i64 k) := HBF.out.cell 0
     have r1 : VF.cell? ⟨w.heap.size + 1, 1, none⟩ = some (.int .i64 n) := HBF.out.cell 1
     have r2 : VF.cell? ⟨w.heap.size + 1, 2, none⟩ = some (.string s) := HBF.out.cell 2
     have r3 : VF.cell? ⟨w.heap.size + 1, 3, none⟩ = some (.slice A2 l.length c2) := HBF.out.cell 3
     refine bodyPost_ret (v := .agg #[.int .i64 k, .int .i64 n, .string s, .slice A2 l.length c2]) (by simp [results, Tryz.results79, go_sem, r0, r1, r2, r3]) rfl ⟨A2, c2, rfl, HTF.out, HMF.out, HEF.out⟩
end Go.Proofs.YtgcdhffeacdegaaGreatDoor
