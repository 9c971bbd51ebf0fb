/- Layer 6, the program: the walk of namer.of. -/
import Derived.Test.YtmnnhdegoapfcaaGreatDoorP09
import Derived.Test.YtmnnhdegoapfcaaGreatDoorP10
import Derived.Test.YtmnnhdegoapfcaaGreatDoorP08
import Derived.Test.YtmnnhdegoapfcaaGreatDoorP14
namespace Go.Proofs.YtmnnhdegoapfcaaGreatDoor
open Go.RowKit Go.El
structure NmAt (nb rm : Nat) (w : World) (P L : List Int) (v : Value) : Prop where
 blk : Blk w nb 226 #[.map (some rm), v]
 map : MapAt (Value.int .i64) w rm (numP P)
 own : w.ownsRow 0 3 1 v L.length (L.map (Value.int .i64))
 ne : nb ≠ rm
 n1 : v.ownBlock ≠ some nb
 n2 : v.ownBlock ≠ some rm
theorem NmAt.ext {nb rm : Nat} {w w' : World} {P L : List Int} {v : Value} (h : NmAt nb rm w P L v) (x : Ext w w') : NmAt nb rm w' P L v :=
 ⟨h.blk.ext x, h.map.ext x, own_ext h.own x, h.ne, h.n1, h.n2⟩
theorem NmAt.map1 {nb rm : Nat} {w w' : World} {P P' L : List Int} {v : Value} (h : NmAt nb rm w P L v) (hm : MapAt (Value.int .i64) w' rm (numP P')) (hd : Mods [rm] w w') : NmAt nb rm w' P' L v ∧ PStep [nb, rm] v w v w' :=
 ⟨⟨h.blk.mods hd (by simp; exact h.ne), hm, own_mods h.own hd (fun b hb => by simp; rintro rfl; exact h.n2 hb), h.ne, h.n1, h.n2⟩, ⟨hd.mono (fun k hk => by simp at hk; simp [hk]), fun k hk => .inl hk⟩⟩
theorem NmAt.put1 {nb rm : Nat} {w w' : World} {P L : List Int} {v v' : Value} {n : Int} (h : NmAt nb rm w P L v) (ho : w'.ownsRow 0 3 1 v' (L.length + 1) (L.map (Value.int .i64) ++ [Value.int .i64 n])) (hm : Mods (ownL v) w w') (hb : v'.ownBlock = v.ownBlock ∨ v'.ownBlock = some w.heap.size) :
  NmAt nb rm (w'.setCell ⟨nb, 1, none⟩ v') P (L ++ [n]) v' ∧ PStep [nb, rm] v w v' (w'.setCell ⟨nb, 1, none⟩ v') := by
 have hmb := h.blk.lt
 have hrm := h.map.lt
 have hno : ∀ k, k < w.heap.size → v.ownBlock ≠ some k → v'.ownBlock ≠ some k := fun k h1 h2 e => by
  rcases hb with hb | hb
  ·exact h2 (hb.symm.trans e)
  ·have := hb.symm.trans e
   injection this with this
   omega
 have s1 : PStep [nb, rm] v w v' w' := ⟨hm.mono (fun k hk => List.mem_append.2 (.inr hk)), fun k hk => by
  rcases hb with hb | hb
  ·exact .inl (hb.symm.trans hk)
  ·have := hb.symm.trans hk
   injection this with this
   exact .inr (by omega)⟩
 have s2 := PStep.set_ (S := [nb, rm]) (nv := v') (w := w') (g := nb) (i := 1) (by simp) v'
 have hn1 := hno _ hmb h.n1
 have hn2 := hno _ hrm h.n2
 have hS : nb ∉ ownL v := fun e => h.n1 (by simpa [ownL] using e)
 have hR : rm ∉ ownL v := fun e => h.n2 (by simpa [ownL] using e)
 refine ⟨⟨(h.blk.mods hm hS).set_ 1 v', (h.map.mods hm hR).setCell _ _, ?_, h.ne, hn1, hn2⟩, s1.trans s2⟩
 rw [List.length_append, List.map_append]
 exact ownsRow_setCell_other ho hn1 _
theorem NmAt.clr {nb rm : Nat} {w : World} {P L : List Int} {v : Value} (h : NmAt nb rm w P L v) {k : Nat} (hk : w.heap.size ≤ k) {w' : World} (h2 : k < w'.heap.size) : Clr2 [nb, rm] v w' k := by
 have h1 := h.blk.lt
 have h3 := h.map.lt
 exact ⟨by simp; omega, fun e => by have := own_lt h.own e; omega, h2⟩
theorem NmAt.keep {nb rm : Nat} {w w' : World} {P L : List Int} {v : Value} {T : List Nat} (h : NmAt nb rm w P L v) (hd : Mods T w w') (hT : ∀ k ∈ T, k ∉ [nb, rm] ∧ v.ownBlock ≠ some k) : NmAt nb rm w' P L v :=
 ⟨h.blk.mods hd (fun e => (hT _ e).1 (by simp)), h.map.mods hd (fun e => (hT _ e).1 (by simp)), own_mods h.own hd (fun b hb e => (hT b e).2 hb), h.ne, h.n1, h.n2⟩
theorem zeroIn (w : World) : (zeroValue 3).run Tryz.prog w = .ok (.int .i64 0) w := by kernel_rfl
theorem int1Info : (Tryz.prog.info? 3).map (fun i => (i.zero, i.size, i.bytes)) = some (some (.int .i64 0), 1, 8) := by kernel_rfl
def NmPost (nb rm : Nat) (n : Int) (acc : List Int) (v : Value) (w : World) (e : Ending) (w' : World) : Prop :=
 e = .returned (.agg #[.int .i64 1, .int .i64 (plc n (addV n acc)), .string ⟨#[]⟩, .slice none 0 0]) ∧ ∃ v', NmAt nb rm w' (addV n acc) (addV n acc) v' ∧ PStep [nb, rm] v w v' w'
set_option maxRecDepth 100000 in
set_option maxHeartbeats 4000000 in
theorem nmOf (n : Int) {nb rm : Nat} {acc : List Int} {v : Value} {w : World} (h : NmAt nb rm w acc acc v) (hl : acc.length ≤ 1000000000) :
  Calls Tryz.prog 186 #[.pointer (some ⟨nb, 0, none⟩), .int .i64 n] w (NmPost nb rm n acc v w) := by
 obtain ⟨i1, hi1, hz0, hz1, hz2⟩ := infoP int1Info
 have hF := numP_find n acc
 have H0 := Lib.hid h
 by_cases hin : n ∈ acc
 ·rw [if_pos hin] at hF
  have hadd : addV n acc = acc := if_pos hin
  have HPO : Hid (∀ w', NmAt nb rm w' acc acc v → PStep [nb, rm] v w v w' → NmPost nb rm n acc v w (.returned (.agg #[.int .i64 1, .int .i64 (plc n acc), .string ⟨#[]⟩, .slice none 0 0])) w') := Lib.hid (fun w' g1 g2 => by unfold NmPost; rw [hadd]; exact ⟨rfl, v, g1, g2⟩)
  have HF := Lib.hid hF
  clear hF hadd hin h
  generalize plc n acc = P at *
  go_enter Tryz.func186, Tryz.ntmps186
  go_upto_region 1 with fail
  refine wp_abs (fun V => Hid (Blk V w.heap.size 30 #[.int .i64 0, .int .i64 0, .string ⟨#[]⟩, .slice none 0 0]) ∧ Hid (Ext w V)) ⟨Blk.new _ _ _, ext_box _ _⟩ ?_
  rintro V ⟨HZ, HX⟩
  have H1 := Lib.hid (H0.out.ext HX.out)
  have y0 : V.cell? ⟨nb, 0, none⟩ = some (.map (some rm)) := H1.out.blk.cell 0
  go_upto_region 6 with (at_lookup; refine wpList_lookup_at (P := Tryz.prog) _ rfl _ _ true rfl (intKind .i64) Tryz.underlying87 Tryz.underlying3 rm rfl n rfl _ zeroIn (numP acc) H1.out.map ?_; rw [HF.out]; simp only [if_true, Option.getD_some, Option.isSome_some])
  go_wp2_with (go_at_call 220; refine (var_any _ _).mono ?_; rintro e W1 ⟨rfl, hx⟩; have z0 := HZ.out.ext hx; have HZ1 := Lib.hid z0; have H2 := Lib.hid (H1.out.ext hx); have HX1 := Lib.hid (HX.out.trans hx); have zc := z0.cell; have zf := z0.frozen; clear hx z0)
  have hbf := (((HZ1.out.set_ 0 (.int .i64 1)).set_ 1 (.int .i64 P)).set_ 2 (.string ⟨#[]⟩)).set_ 3 (.slice none 0 0)
  have hEF := (((HX1.out.setCell (p := ⟨w.heap.size, 0, none⟩) (by simp) (.int .i64 1)).setCell (p := ⟨w.heap.size, 1, none⟩) (by simp) (.int .i64 P)).setCell (p := ⟨w.heap.size, 2, none⟩) (by simp) (.string ⟨#[]⟩)).setCell (p := ⟨w.heap.size, 3, none⟩) (by simp) (.slice none 0 0)
  generalize (((W1.setCell ⟨w.heap.size, 0, none⟩ (.int .i64 1)).setCell ⟨w.heap.size, 1, none⟩ (.int .i64 P)).setCell ⟨w.heap.size, 2, none⟩ (.string ⟨#[]⟩)).setCell ⟨w.heap.size, 3, none⟩ (.slice none 0 0) = VF at hbf hEF ⊢
  have r0 : VF.cell? ⟨w.heap.size, 0, none⟩ = some (.int .i64 1) := hbf.cell 0
  have r1 : VF.cell? ⟨w.heap.size, 1, none⟩ = some (.int .i64 P) := hbf.cell 1
  have r2 : VF.cell? ⟨w.heap.size, 2, none⟩ = some (.string ⟨#[]⟩) := hbf.cell 2
  have r3 : VF.cell? ⟨w.heap.size, 3, none⟩ = some (.slice none 0 0) := hbf.cell 3
  refine bodyPost_ret (v := .agg #[.int .i64 1, .int .i64 P, .string ⟨#[]⟩, .slice none 0 0]) (by simp [results, Tryz.results186, go_sem, r0, r1, r2, r3]) rfl (HPO.out _ (H0.out.ext hEF) (PStep.ext hEF))
 ·rw [if_neg hin] at hF
  have hadd : addV n acc = acc ++ [n] := if_neg hin
  have hpl : plc n (addV n acc) = acc.length := by rw [hadd]; exact plc_new hin
  have HPO : Hid (∀ w' v', NmAt nb rm w' (acc ++ [n]) (acc ++ [n]) v' → PStep [nb, rm] v w v' w' → NmPost nb rm n acc v w (.returned (.agg #[.int .i64 1, .int .i64 acc.length, .string ⟨#[]⟩, .slice none 0 0])) w') := Lib.hid (fun w' v' g1 g2 => by unfold NmPost; rw [hpl, hadd]; exact ⟨rfl, v', g1, g2⟩)
  have HF := Lib.hid hF
  have HS := Lib.hid (numP_set hin)
  obtain ⟨Av, cv, rfl⟩ := own_value h.own
  clear hF hadd hin hpl h
  go_enter Tryz.func186, Tryz.ntmps186
  go_upto_region 1 with fail
  refine wp_abs (fun V => Hid (Blk V w.heap.size 30 #[.int .i64 0, .int .i64 0, .string ⟨#[]⟩, .slice none 0 0]) ∧ Hid (Ext w V)) ⟨Blk.new _ _ _, ext_box _ _⟩ ?_
  rintro V ⟨HZ, HX⟩
  have H1 := Lib.hid (H0.out.ext HX.out)
  have y0 : V.cell? ⟨nb, 0, none⟩ = some (.map (some rm)) := H1.out.blk.cell 0
  have y1 : V.cell? ⟨nb, 1, none⟩ = some (.slice Av acc.length cv) := H1.out.blk.cell 1
  go_upto_region 4 with (at_lookup; refine wpList_lookup_at (P := Tryz.prog) _ rfl _ _ true rfl (intKind .i64) Tryz.underlying87 Tryz.underlying3 rm rfl n rfl _ zeroIn (numP acc) H1.out.map ?_; rw [HF.out]; simp only [if_true, Option.getD_none, Option.isSome_none])
  go_upto_region 5 with (at_mapUpdate; refine wpList_mapUpdate_at (P := Tryz.prog) _ rfl _ _ _ 87 rfl (intKind .i64) Tryz.underlying87 Tryz.underlying3 (m := rm) (ps := numP acc) rfl H1.out.map n (.int .i64 acc.length) rfl rfl ?_; intro w3 hm3 hd3 hs3; rw [HS.out] at hm3; have N3 := Lib.hid (H1.out.map1 hm3 hd3); have y1 : w3.cell? ⟨nb, 1, none⟩ = some (.slice Av acc.length cv) := N3.out.1.blk.cell 1; clear hm3 hd3 hs3)
  have C1 : Clr2 [nb, rm] (.slice Av acc.length cv) V w.heap.size := H0.out.clr (Nat.le_refl _) HZ.out.lt
  have HZ3 := Lib.hid (HZ.out.mods N3.out.2.mods C1.no)
  have C3 := Lib.hid (N3.out.2.clr C1)
  have HN := fun (o : Obj) => Lib.hid (N3.out.1.ext ((Ext.refl w3).alloc o))
  have HZN := fun (o : Obj) => Lib.hid (HZ3.out.ext ((Ext.refl w3).alloc o))
  have HPS := fun (o : Obj) => Lib.hid (((PStep.ext HX.out).trans N3.out.2).trans (PStep.ext ((Ext.refl w3).alloc o)))
  have HC := fun (o : Obj) => Lib.hid ((PStep.ext (S := [nb, rm]) (nv := .slice Av acc.length cv) ((Ext.refl w3).alloc o)).clr C3.out)
  have yf := N3.out.1.blk.frozen 1
  clear C1 y0
  go_upto_region 6 with (at_builtin; refine wpList_append_src (P := Tryz.prog) rfl (.tmp 33) (.tmp 35) 81 rfl 3 i1 _ 1 8 Tryz.underlying81 hi1 hz0 hz1 hz2 rfl (by omega) (.slice Av acc.length cv) rfl _ _ _ rfl acc.length (acc.map (Value.int .i64)) (HN _).out.own [Value.int .i64 n] (El.Src.new _ #[.int .i64 n] _ 1 1 rfl) (by intro u hu; simp at hu; subst hu; rfl) (by unfold maxLen; omega) (by omega) ?_; intro v5 w5 ho5 hm5 hb5; obtain ⟨A5, c5, rfl⟩ := own_value ho5; have yf5 := (((HN _).out.blk).mods hm5 (fun e => N3.out.1.n1 (by simpa [ownL] using e))).frozen 1; have yc5 : w5.cell? ⟨nb, 1, none⟩ = some (.slice Av acc.length cv) := (((HN _).out.blk).mods hm5 (fun e => N3.out.1.n1 (by simpa [ownL] using e))).cell 1; have P5 := Lib.hid ((HN _).out.put1 ho5 hm5 hb5); have S5 := Lib.hid ((HPS _).out.trans P5.out.2); have Z5 := Lib.hid (((HZN _).out.mods (hm5.mono (fun k hk => List.mem_append.2 (.inr hk))) C3.out.no).far (p := ⟨nb, 1, none⟩) (fun e => C3.out.1 (by simp [e])) (.slice A5 (acc.length + 1) c5)); have C5 := Lib.hid (P5.out.2.clr (HC _).out); clear ho5 hm5 hb5)
  generalize w5.setCell ⟨nb, 1, none⟩ (.slice A5 (acc.length + 1) c5) = V5 at P5 S5 Z5 C5 ⊢
  go_wp2_with (go_at_call 220; refine (var_any _ _).mono ?_; rintro e W1 ⟨rfl, hx⟩; have z0 := Z5.out.ext hx; have HZ1 := Lib.hid z0; have H2 := Lib.hid (P5.out.1.ext hx); have S6 := Lib.hid (S5.out.trans (PStep.ext hx)); have S7 := Lib.hid (PStep.ext (S := [nb, rm]) (nv := .slice A5 (acc.length + 1) c5) hx); have zc := z0.cell; have zf := z0.frozen; clear hx z0)
  have hbf := (((HZ1.out.set_ 0 (.int .i64 1)).set_ 1 (.int .i64 acc.length)).set_ 2 (.string ⟨#[]⟩)).set_ 3 (.slice none 0 0)
  have hc : ∀ (W : World) (i : Nat) (u : Value), Clr2 [nb, rm] (.slice A5 (acc.length + 1) c5) W w.heap.size → NmAt nb rm W (acc ++ [n]) (acc ++ [n]) (.slice A5 (acc.length + 1) c5) → Clr2 [nb, rm] (.slice A5 (acc.length + 1) c5) (W.setCell ⟨w.heap.size, i, none⟩ u) w.heap.size ∧ NmAt nb rm (W.setCell ⟨w.heap.size, i, none⟩ u) (acc ++ [n]) (acc ++ [n]) (.slice A5 (acc.length + 1) c5) := fun W i u g1 g2 =>
   ⟨⟨g1.1, g1.2.1, by simpa using g1.2.2⟩, g2.keep (T := [w.heap.size]) ((Mods.refl _ W).setCell (p := ⟨w.heap.size, i, none⟩) (.inl (by simp)) u) (fun k hk => by simp at hk; subst hk; exact ⟨g1.1, g1.2.1⟩)⟩
  have k0 := hc W1 0 (.int .i64 1) (S7.out.clr C5.out) H2.out
  have k1 := hc _ 1 (.int .i64 acc.length) k0.1 k0.2
  have k2 := hc _ 2 (.string ⟨#[]⟩) k1.1 k1.2
  have k3 := hc _ 3 (.slice none 0 0) k2.1 k2.2
  have hEF := (((S6.out.new1 (k := w.heap.size) (Nat.le_refl _) 0 (.int .i64 1)).new1 (k := w.heap.size) (Nat.le_refl _) 1 (.int .i64 acc.length)).new1 (k := w.heap.size) (Nat.le_refl _) 2 (.string ⟨#[]⟩)).new1 (k := w.heap.size) (Nat.le_refl _) 3 (.slice none 0 0)
  have hNF := k3.2
  clear k0 k1 k2 k3 hc
  generalize (((W1.setCell ⟨w.heap.size, 0, none⟩ (.int .i64 1)).setCell ⟨w.heap.size, 1, none⟩ (.int .i64 acc.length)).setCell ⟨w.heap.size, 2, none⟩ (.string ⟨#[]⟩)).setCell ⟨w.heap.size, 3, none⟩ (.slice none 0 0) = VF at hbf hNF hEF ⊢
  have r0 : VF.cell? ⟨w.heap.size, 0, none⟩ = some (.int .i64 1) := hbf.cell 0
  have r1 : VF.cell? ⟨w.heap.size, 1, none⟩ = some (.int .i64 acc.length) := hbf.cell 1
  have r2 : VF.cell? ⟨w.heap.size, 2, none⟩ = some (.string ⟨#[]⟩) := hbf.cell 2
  have r3 : VF.cell? ⟨w.heap.size, 3, none⟩ = some (.slice none 0 0) := hbf.cell 3
  refine bodyPost_ret (v := .agg #[.int .i64 1, .int .i64 acc.length, .string ⟨#[]⟩, .slice none 0 0]) (by simp [results, Tryz.results186, go_sem, r0, r1, r2, r3]) rfl (HPO.out _ _ hNF hEF)
end Go.Proofs.YtmnnhdegoapfcaaGreatDoor
