/- Layer 6, the reference: the walks of place, renamed and Rename. -/
import Derived.Test.YtgcdhffeacdegaaGreatDoorH44
import Derived.Test.YtgcdhffeacdegaaGreatDoorH13
import Derived.Test.YtgcdhffeacdegaaGreatDoorH16
namespace Go.Proofs.YtgcdhffeacdegaaGreatDoor
open Go.RowKit Go.El
set_option maxRecDepth 100000 in
set_option maxHeartbeats 4000000 in
theorem place_any (n : Int) (V : List Int) (AV : Option Addr) (cV : Nat) (w : World) (hV : El.Src w AV V.length 1 (V.map iV)) (hn : n ∈ V) (hl : V.length ≤ 1000000000) :
  Calls Tryz.prog 83 #[.slice AV V.length cV, .int .i64 n] w fun e w' => e = .returned (.int .i64 (plc n V)) ∧ w' = w := by
 have HV := Lib.hid hV
 have HI := Lib.hid hn
 generalize hP : plc n V = P
 have HP := Lib.hid hP
 clear hV hn hP
 go_enter Tryz.func83, Tryz.ntmps83
 go_wp2_with fail
 go_loopw [5] (fun i wr => ∃ j : Nat, j ≤ V.length ∧ i = .int .i64 j ∧ wr = w ∧ Hid (∀ (q : Nat) (x : Int), q < j → V[q]? = some x → ¬ x = n)) (fun i _ => V.length - (intOf i).toNat)
 case atStart => exact ⟨0, Nat.zero_le _, rfl, rfl, Lib.hid (fun q x h => by omega)⟩
 case round =>
  obtain ⟨j, hj, rfl, rfl, HN⟩ := hrel
  by_cases hlt : j < V.length
  ·obtain ⟨b, off, rfl, e0⟩ := src_int HV.out hlt
   have HJ := Lib.hid (List.getElem?_eq_getElem hlt)
   generalize V[j] = x at e0 HJ
   by_cases hq : x = n
   ·have hpl : P = j := by
     rw [← HP.out]
     exact plc_first HN.out (by rw [HJ.out, hq])
    have q1 : (x == n) = true := by simpa using hq
    subst hpl
    clear hq
    go_wp2_with fail
    go_ret
    exact ⟨rfl, rfl⟩
   ·have q1 : (x == n) = false := by simpa using hq
    have HQ := Lib.hid hq
    clear hq
    go_wp2_with fail
    go_roundw
    case rel =>
     exact ⟨j + 1, hlt, by go_num, trivial, Lib.hid (fun q z hq hz => by
      rcases Nat.lt_succ_iff_lt_or_eq.1 hq with h | rfl
      ·exact HN.out q z h hz
      ·obtain rfl := Option.some.inj (hz.symm.trans HJ.out)
       exact HQ.out)⟩
    case measure => simp [intOf]; omega
  ·obtain rfl : j = V.length := by omega
   exact absurd HI.out (not_mem_first HN.out)
def NumPost (t : Tm) (w : World) (e : Ending) (w' : World) : Prop :=
 ∃ A' c', e = .returned (tmVal t A' c') ∧ TmIn (fun k => w.heap.size ≤ k ∧ k < w'.heap.size) w' t A' c' ∧ Ext w w'
set_option maxRecDepth 100000 in
set_option maxHeartbeats 4000000 in
theorem refRenVar_any (n : Int) (s : ByteArray) (A : Option Addr) (m c : Nat) (V : List Int) (AV : Option Addr) (cV : Nat) (w : World) (hV : El.Src w AV V.length 1 (V.map iV)) (hn : n ∈ V) (hl : V.length ≤ 1000000000) :
  Calls Tryz.prog 53 #[.agg #[.int .i64 1, .int .i64 n, .string s, .slice A m c], .slice AV V.length cV] w fun e w' => e = .returned (.agg #[.int .i64 1, .int .i64 (plc n V), .string ⟨#[]⟩, .slice none 0 0]) ∧ Ext w w' := by
 have HPL := fun (W : World) (x : Ext w W) => Lib.hid (place_any n V AV cV W (hV.ext x) hn hl)
 generalize (plc n V : Int) = P at *
 clear hV hn
 go_enter Tryz.func53, Tryz.ntmps53
 go_upto_region 2 with fail
 refine wp_abs (fun W => Hid (Blk W (w.heap.size + 1) 32 #[.int .i64 0, .int .i64 0, .string ⟨#[]⟩, .slice none 0 0]) ∧ Hid (Blk W w.heap.size 32 #[.int .i64 1, .int .i64 n, .string s, .slice A m c]) ∧ Hid (Ext w W)) ⟨blk2b, (Blk.new w _ _).alloc _, ((Ext.refl w).alloc _).alloc _⟩ ?_
 rintro W ⟨HZ, HB0, HX0⟩
 have y1 : W.cell? ⟨w.heap.size, 1, none⟩ = some (.int .i64 n) := HB0.out.cell 1
 have HP1 := HPL W HX0.out
 go_wp2_with (first | (go_at_call 83; refine HP1.out.mono ?_; rintro e W0 ⟨rfl, rfl⟩) | (go_at_call 34; refine (refVar_any _ _).mono ?_; rintro e W1 ⟨rfl, hx1⟩; have z0 := HZ.out.ext hx1; have HZ1 := Lib.hid z0; have HX1 := Lib.hid (HX0.out.trans hx1); have zc := z0.cell; have zf := z0.frozen; clear hx1 z0))
 have hbf := (((HZ1.out.set_ 0 (.int .i64 1)).set_ 1 (.int .i64 P)).set_ 2 (.string ⟨#[]⟩)).set_ 3 (.slice none 0 0)
 have hEF := (((HX1.out.setCell (p := ⟨w.heap.size + 1, 0, none⟩) (by simp) (.int .i64 1)).setCell (p := ⟨w.heap.size + 1, 1, none⟩) (by simp) (.int .i64 P)).setCell (p := ⟨w.heap.size + 1, 2, none⟩) (by simp) (.string ⟨#[]⟩)).setCell (p := ⟨w.heap.size + 1, 3, none⟩) (by simp) (.slice none 0 0)
 generalize (((W1.setCell ⟨w.heap.size + 1, 0, none⟩ (.int .i64 1)).setCell ⟨w.heap.size + 1, 1, none⟩ (.int .i64 P)).setCell ⟨w.heap.size + 1, 2, none⟩ (.string ⟨#[]⟩)).setCell ⟨w.heap.size + 1, 3, none⟩ (.slice none 0 0) = VF at hbf hEF ⊢
 have r0 : VF.cell? ⟨w.heap.size + 1, 0, none⟩ = some (.int .i64 1) := hbf.cell 0
 have r1 : VF.cell? ⟨w.heap.size + 1, 1, none⟩ = some (.int .i64 P) := hbf.cell 1
 have r2 : VF.cell? ⟨w.heap.size + 1, 2, none⟩ = some (.string ⟨#[]⟩) := hbf.cell 2
 have r3 : VF.cell? ⟨w.heap.size + 1, 3, none⟩ = some (.slice none 0 0) := hbf.cell 3
 refine bodyPost_ret (v := .agg #[.int .i64 1, .int .i64 P, .string ⟨#[]⟩, .slice none 0 0]) (by simp [results, Tryz.results53, go_sem, r0, r1, r2, r3]) rfl ⟨rfl, hEF⟩
set_option maxRecDepth 100000 in
set_option maxHeartbeats 4000000 in
theorem refRenamed_any : ∀ (N : Nat) (t : Tm), szT t ≤ N → szT t ≤ 100000000 → ∀ (V : List Int) (AV : Option Addr) (cV : Nat) (A : Option Addr) (c : Nat) (w : World) (D : Nat → Prop), V.length ≤ 1000000000 → TmIn D w t A c → El.Src w AV V.length 1 (V.map iV) → hvT t V = true →
  Calls Tryz.prog 53 #[tmVal t A c, .slice AV V.length cV] w (NumPost (nuT t V) w)
 | 0, t, h => by
  have := szT_pos t
  omega
 | N + 1, .mk k n s l, hN => by
  intro hbig V AV cV A c w D hVl ht hV hhv
  obtain ⟨i1, hi1, hz0, hz1, hz2⟩ := infoP tmInfo4
  have IH := refRenamed_any N
  simp only [szT] at hN hbig
  simp only [hvT] at hhv
  by_cases hk : k = 1
  ·subst hk
   rw [if_pos rfl] at hhv
   have hm := of_decide_eq_true hhv
   rw [show nuT (.mk 1 n s l) V = .mk 1 (plc n V) ⟨#[]⟩ [] by simp [nuT, hm]]
   exact (refRenVar_any n s A l.length c V AV cV w hV hm hVl).mono fun e w' ⟨h1, h2⟩ => ⟨none, 0, h1, TmsIn.term (TmsIn.nil _ _ _ _) _ _ _, h2⟩
  ·have hk2 : (k == 1) = false := by simpa using hk
   rw [if_neg hk] at hhv
   have hpost : ∀ e w', (∃ A' c', e = .returned (.agg #[.int .i64 k, .int .i64 n, .string s, .slice A' l.length c']) ∧ TmIn (fun k => w.heap.size ≤ k ∧ k < w'.heap.size) w' (.mk k n s (nuL l V)) A' c' ∧ Ext w w') → NumPost (nuT (.mk k n s l) V) w e w' := fun e w' ⟨A', c', h1, h2, h3⟩ => by
    rw [show nuT (.mk k n s l) V = .mk k n s (nuL l V) by simp [nuT, hk]]
    refine ⟨A', c', ?_, h2, h3⟩
    rw [h1]
    unfold tmVal
    simp only [Tm.k, Tm.n, Tm.s, Tm.l, nuL_len]
   refine Calls.mono ?_ hpost
   have H := Lib.hid ht
   have HV := Lib.hid hV
   have HHV := Lib.hid hhv
   unfold tmVal
   simp only [Tm.k, Tm.n, Tm.s, Tm.l]
   clear hk hpost ht hV hhv
   go_enter Tryz.func53, Tryz.ntmps53
   go_upto_region 4 with fail
   refine wp_abs (fun W => Hid (Blk W (w.heap.size + 1 + 1) 32 #[.int .i64 k, .int .i64 n, .string s, .slice none 0 0]) ∧ Hid (Blk W (w.heap.size + 1) 32 #[.int .i64 0, .int .i64 0, .string ⟨#[]⟩, .slice none 0 0]) ∧ Hid (Blk W w.heap.size 32 #[.int .i64 k, .int .i64 n, .string s, .slice A l.length c]) ∧ Hid (Ext w W)) ⟨blk3, blk2, ((Blk.new w _ _).alloc _).alloc _, (((Ext.refl w).alloc _).alloc _).alloc _⟩ ?_
   rintro W ⟨HB0, HZ0, HT0, HX0⟩
   have hlw := len_szL l
   go_wp2_with fail
   go_loopw [6] (fun i wr => ∃ (j : Nat) (v : Value) (M : List TmP), j ≤ l.length ∧ i = .int .i64 j ∧ Hid (M.map (·.1) = nuL (l.take j) V) ∧ Hid (RowT w W.heap.size wr v M) ∧ Hid (Blk wr (w.heap.size + 1 + 1) 32 #[.int .i64 k, .int .i64 n, .string s, v]) ∧ Hid (Blk wr (w.heap.size + 1) 32 #[.int .i64 0, .int .i64 0, .string ⟨#[]⟩, .slice none 0 0]) ∧ Hid (Blk wr w.heap.size 32 #[.int .i64 k, .int .i64 n, .string s, .slice A l.length c])) (fun i _ => l.length - (intOf i).toNat)
   case atStart => exact ⟨0, _, [], Nat.zero_le _, rfl, Lib.hid (by simp [nuL]), RowT.start HX0.out, HB0.out, HZ0.out, HT0⟩
   case round =>
    obtain ⟨j, v, M, hj, rfl, HM, HR, HB, HZ, HT⟩ := hrel
    have hMl : M.length = j := by
     have := congrArg List.length HM.out
     simp only [List.length_map, nuL_len, List.length_take] at this
     omega
    subst hMl
    have y0 : wr.cell? ⟨w.heap.size, 0, none⟩ = some (.int .i64 k) := HT.out.cell 0
    have y3 : wr.cell? ⟨w.heap.size, 3, none⟩ = some (.slice A l.length c) := HT.out.cell 3
    by_cases hlt : M.length < l.length
    ·have ho : l[M.length]? = some l[M.length] := List.getElem?_eq_getElem hlt
     have hsu := szL_get ho
     have hst := szL_take ho
     have hsl := szL_take_le l (M.length + 1)
     have hou := hvL_get HHV.out ho
     have hMn : Hid (∀ q : TmP, q.1 = nuT l[M.length] V → (M ++ [q]).map (·.1) = nuL (l.take (M.length + 1)) V) := fun q hq => by
      rw [List.map_append, HM.out, nuL_take V ho]
      simp [hq]
     generalize l[M.length] = u at ho hou hMn hsu hst
     obtain ⟨bb, off, A', c', rfl, _, hu, q0, q1, q2, q3⟩ := (TmIn.ext HR.out.ext H.out).child ho
     obtain ⟨Av, cv, rfl⟩ := own_value HR.out.own
     have HC := fun (W : World) (x : Ext wr W) => Lib.hid (IH u (by omega) (by omega) V AV cV A' c' W D hVl (TmIn.ext x hu) ((HV.out.ext HR.out.ext).ext x) hou)
     unfold tmVal at HC
     have hglt : w.heap.size + 1 + 1 < W.heap.size := HB0.out.lt
     have hVw := HR.out.low
     have z3 : wr.drew.cell? ⟨w.heap.size + 1 + 1, 3, none⟩ = some (.slice Av M.length cv) := HB.out.cell 3
     have y3' : wr.drew.cell? ⟨w.heap.size, 3, none⟩ = some (.slice (some ⟨bb, off, none⟩) l.length c) := y3
     have z4 := ((Ext.refl wr).drew).cell q0
     have z5 := ((Ext.refl wr).drew).cell q1
     have z6 := ((Ext.refl wr).drew).cell q2
     have z7 := ((Ext.refl wr).drew).cell q3
     generalize hnu : nuT u V = nu at *
     have HNU := Lib.hid hnu
     clear ho hu hou hnu
     go_upto_region 7 with fail
     clear q0 q1 q2 q3 y3 y0
     go_region_law ((first | (go_simp; go_at_call 53; refine (HC _ ((Ext.refl wr).drew)).out.mono ?_; rintro e W2 ⟨A2, c2, rfl, ht2, hx2⟩; have y3 := hx2.cell z3; have y4 := (ext_box W2 (.cells #[.int .i64 nu.k, .int .i64 nu.n, .string nu.s, .slice A2 nu.l.length c2] 32)).cell y3; unfold tmVal) | (refine step_append_src (P := Tryz.prog) rfl (.tmp 30) (.tmp 38) 30 rfl 32 i1 _ 4 56 Tryz.underlying30 hi1 hz0 hz1 hz2 rfl (by omega) (.slice Av M.length cv) rfl _ _ _ rfl M.length (flat tmC M) (own_ext HR.out.own (((Ext.refl wr).drew.trans hx2).alloc _)) (tmC (nu, A2, c2)) (El.Src.new _ #[.int .i64 nu.k, .int .i64 nu.n, .string nu.s, .slice A2 nu.l.length c2] _ 1 4 rfl) (tmC_one _) (by unfold maxLen; omega) (by omega) ?_; intro v3 w3 ho3 hm3 hb3; obtain ⟨A3, c3, rfl⟩ := own_value ho3; have hR3 := RowT.step (p := (nu, A2, c2)) HR.out (((Ext.refl wr).drew.trans hx2).alloc _) (kid_new HR.out (Ext.refl wr) ht2) ho3 hm3 hb3; have hB3 := (HB.out.ext (((Ext.refl wr).drew.trans hx2).alloc _)).mods hm3 (HR.out.no hglt); have hZ3 := (HZ.out.ext (((Ext.refl wr).drew.trans hx2).alloc _)).mods hm3 (HR.out.no (by omega)); have hT3 := (HT.out.ext (((Ext.refl wr).drew.trans hx2).alloc _)).mods hm3 (HR.out.no (by omega)); have k3 : w3.cell? ⟨w.heap.size + 1 + 1, 3, none⟩ = some (.slice Av M.length cv) := hB3.cell 3; have f3 := hB3.frozen 3; have HR3 := Lib.hid hR3; have HB3 := Lib.hid hB3; have HZ3 := Lib.hid hZ3; have HT3 := Lib.hid hT3; clear hR3 hB3 hZ3 hT3 ho3 hm3 hb3)))
     all_goals
      go_wp2_with fail
      go_roundw
      case rel => exact ⟨M.length + 1, _, M ++ [(nu, A2, c2)], hlt, by go_num, hMn.out _ rfl, HR3.out.set_ (by omega) hglt 3 _, HB3.out.set_ 3 _, HZ3.out.far (p := ⟨w.heap.size + 1 + 1, 3, none⟩) (by simp) _, HT3.out.far (p := ⟨w.heap.size + 1 + 1, 3, none⟩) (by simp; omega) _⟩
      case measure => simp [intOf]; omega
    ·have hMl : M.length = l.length := by omega
     rw [hMl, List.take_length] at HM
     obtain ⟨A2, c2, rfl, ht2⟩ := HR.out.done k n s
     rw [HM.out] at ht2
     rw [hMl] at HB hlt ⊢
     have b0 : wr.cell? ⟨w.heap.size + 1 + 1, 0, none⟩ = some (.int .i64 k) := HB.out.cell 0
     have b1 : wr.cell? ⟨w.heap.size + 1 + 1, 1, none⟩ = some (.int .i64 n) := HB.out.cell 1
     have b2 : wr.cell? ⟨w.heap.size + 1 + 1, 2, none⟩ = some (.string s) := HB.out.cell 2
     have b3 : wr.cell? ⟨w.heap.size + 1 + 1, 3, none⟩ = some (.slice A2 l.length c2) := HB.out.cell 3
     have zc := HZ.out.cell
     have zf := HZ.out.frozen
     have hgl : w.heap.size + 1 + 1 < W.heap.size := HB0.out.lt
     have hbf := (((HZ.out.set_ 0 (.int .i64 k)).set_ 1 (.int .i64 n)).set_ 2 (.string s)).set_ 3 (.slice A2 l.length c2)
     have hEF := (((HR.out.ext.setCell (p := ⟨w.heap.size + 1, 0, none⟩) (by simp) (.int .i64 k)).setCell (p := ⟨w.heap.size + 1, 1, none⟩) (by simp) (.int .i64 n)).setCell (p := ⟨w.heap.size + 1, 2, none⟩) (by simp) (.string s)).setCell (p := ⟨w.heap.size + 1, 3, none⟩) (by simp) (.slice A2 l.length c2)
     have hTF := TmIn.mods (S := [w.heap.size + 1]) (D' := fun i => w.heap.size ≤ i ∧ i < ((((wr.setCell ⟨w.heap.size + 1, 0, none⟩ (.int .i64 k)).setCell ⟨w.heap.size + 1, 1, none⟩ (.int .i64 n)).setCell ⟨w.heap.size + 1, 2, none⟩ (.string s)).setCell ⟨w.heap.size + 1, 3, none⟩ (.slice A2 l.length c2)).heap.size) (((((Mods.refl _ wr).setCell (p := ⟨w.heap.size + 1, 0, none⟩) (.inl (by simp)) (.int .i64 k)).setCell (p := ⟨w.heap.size + 1, 1, none⟩) (.inl (by simp)) (.int .i64 n)).setCell (p := ⟨w.heap.size + 1, 2, none⟩) (.inl (by simp)) (.string s)).setCell (p := ⟨w.heap.size + 1, 3, none⟩) (.inl (by simp)) (.slice A2 l.length c2)) (fun i hi => by simp; omega) (fun i hi => ⟨by omega, by simpa using hi.2⟩) ht2
     have HBF := Lib.hid hbf
     have HEF := Lib.hid hEF
     have HTF := Lib.hid hTF
     clear hbf hEF hTF ht2 HM HR HB HZ HT
     go_wp2_with fail
     generalize (((wr.setCell ⟨w.heap.size + 1, 0, none⟩ (.int .i64 k)).setCell ⟨w.heap.size + 1, 1, none⟩ (.int .i64 n)).setCell ⟨w.heap.size + 1, 2, none⟩ (.string s)).setCell ⟨w.heap.size + 1, 3, none⟩ (.slice A2 l.length c2) = VF at HBF HEF HTF ⊢
     have r0 : VF.cell? ⟨w.heap.size + 1, 0, none⟩ = some (.int .i64 k) := HBF.out.cell 0
     have r1 : VF.cell? ⟨w.heap.size + 1, 1, none⟩ = some (.int .i64 n) := HBF.out.cell 1
     have r2 : VF.cell? ⟨w.heap.size + 1, 2, none⟩ = some (.string s) := HBF.out.cell 2
     have r3 : VF.cell? ⟨w.heap.size + 1, 3, none⟩ = some (.slice A2 l.length c2) := HBF.out.cell 3
     refine bodyPost_ret (v := .agg #[.int .i64 k, .int .i64 n, .string s, .slice A2 l.length c2]) (by simp [results, Tryz.results53, go_sem, r0, r1, r2, r3]) rfl ⟨A2, c2, rfl, HTF.out, HEF.out⟩
set_option maxRecDepth 100000 in
set_option maxHeartbeats 4000000 in
theorem refRename_any (t : Tm) (A : Option Addr) (c : Nat) (w : World) (D : Nat → Prop) (hbig : szT t ≤ 100000000) (ht : TmIn D w t A c) :
  Calls Tryz.prog 30 #[tmVal t A c] w fun e w' => ∃ A' c', e = .returned (.tuple #[tmVal (rnT t []) A' c', .int .i64 (vsT t []).length]) ∧ TmIn (fun k => w.heap.size ≤ k ∧ k < w'.heap.size) w' (rnT t []) A' c' ∧ Ext w w' := by
 have hlen := (vsT_len t []).1
 simp only [List.length_nil, Nat.zero_add] at hlen
 have hhv := hvT_pre t [] _ (List.prefix_refl (vsT t []))
 have HV := fun (W : World) (x : Ext w W) => Lib.hid (refVars_any t A c W D hbig (ht.ext x))
 have HN := fun (W : World) (x : Ext w W) AV cV (hs : El.Src W AV (vsT t []).length 1 ((vsT t []).map iV)) => Lib.hid (refRenamed_any _ t (Nat.le_refl _) hbig (vsT t []) AV cV A c W D (by omega) (ht.ext x) hs hhv)
 rw [nu_rn] at HN
 generalize vsT t [] = V at *
 generalize rnT t [] = u at *
 obtain ⟨k, n, s, l⟩ := t
 obtain ⟨uk, un, us, ul⟩ := u
 unfold tmVal NumPost at *
 simp only [Tm.k, Tm.n, Tm.s, Tm.l] at *
 unfold tmVal at HN
 simp only [Tm.k, Tm.n, Tm.s, Tm.l] at HN
 clear ht
 go_enter Tryz.func30, Tryz.ntmps30
 go_upto_region 1 with fail
 refine wp_abs (fun W => Hid (Blk W (w.heap.size + 1) 32 #[.int .i64 0, .int .i64 0, .string ⟨#[]⟩, .slice none 0 0]) ∧ Hid (Blk W w.heap.size 32 #[.int .i64 k, .int .i64 n, .string s, .slice A l.length c]) ∧ Hid (Ext w W)) ⟨blk2b, (Blk.new w _ _).alloc _, ((Ext.refl w).alloc _).alloc _⟩ ?_
 rintro W ⟨HZ, HB0, HX0⟩
 have y0 : W.cell? ⟨w.heap.size, 0, none⟩ = some (.int .i64 k) := HB0.out.cell 0
 have y1 : W.cell? ⟨w.heap.size, 1, none⟩ = some (.int .i64 n) := HB0.out.cell 1
 have y2 : W.cell? ⟨w.heap.size, 2, none⟩ = some (.string s) := HB0.out.cell 2
 have y3 : W.cell? ⟨w.heap.size, 3, none⟩ = some (.slice A l.length c) := HB0.out.cell 3
 have HV0 := HV W HX0.out
 clear HV
 go_upto_region 2 with (go_at_call 52; refine HV0.out.mono ?_; rintro e W1 ⟨v, rfl, hi, hx1, _⟩; obtain ⟨AV, cV, rfl⟩ := own_value hi.own; have HI := Lib.hid hi; have HX1 := Lib.hid hx1; clear hi hx1)
 have y0 := HX1.out.cell y0
 have y1 := HX1.out.cell y1
 have y2 := HX1.out.cell y2
 have y3 := HX1.out.cell y3
 have HN1 := HN W1 (HX0.out.trans HX1.out) AV cV (own_src HI.out)
 clear HN
 go_wp2_with (go_at_call 53; refine HN1.out.mono ?_; rintro e W2 ⟨A2, c2, rfl, ht2, hx2⟩; have z0 := HZ.out.ext (HX1.out.trans hx2); have HZ2 := Lib.hid z0; have HX2 := Lib.hid ((HX0.out.trans HX1.out).trans hx2); have HL2 := Lib.hid (Nat.le_trans (HX0.out.trans HX1.out).size (Nat.le_refl _)); have HT2 := Lib.hid ht2; have zc := z0.cell; have zf := z0.frozen; clear hx2 z0 ht2)
 have hgl : w.heap.size + 1 < W1.heap.size := Nat.lt_of_lt_of_le HZ.out.lt HX1.out.size
 have hbf := (((HZ2.out.set_ 0 (.int .i64 uk)).set_ 1 (.int .i64 un)).set_ 2 (.string us)).set_ 3 (.slice A2 ul.length c2)
 have hEF := (((HX2.out.setCell (p := ⟨w.heap.size + 1, 0, none⟩) (by simp) (.int .i64 uk)).setCell (p := ⟨w.heap.size + 1, 1, none⟩) (by simp) (.int .i64 un)).setCell (p := ⟨w.heap.size + 1, 2, none⟩) (by simp) (.string us)).setCell (p := ⟨w.heap.size + 1, 3, none⟩) (by simp) (.slice A2 ul.length c2)
 have hTF := TmIn.mods (S := [w.heap.size + 1]) (D' := fun i => w.heap.size ≤ i ∧ i < ((((W2.setCell ⟨w.heap.size + 1, 0, none⟩ (.int .i64 uk)).setCell ⟨w.heap.size + 1, 1, none⟩ (.int .i64 un)).setCell ⟨w.heap.size + 1, 2, none⟩ (.string us)).setCell ⟨w.heap.size + 1, 3, none⟩ (.slice A2 ul.length c2)).heap.size) (((((Mods.refl _ W2).setCell (p := ⟨w.heap.size + 1, 0, none⟩) (.inl (by simp)) (.int .i64 uk)).setCell (p := ⟨w.heap.size + 1, 1, none⟩) (.inl (by simp)) (.int .i64 un)).setCell (p := ⟨w.heap.size + 1, 2, none⟩) (.inl (by simp)) (.string us)).setCell (p := ⟨w.heap.size + 1, 3, none⟩) (.inl (by simp)) (.slice A2 ul.length c2)) (fun i hi => by simp; omega) (fun i hi => ⟨by omega, by simpa using hi.2⟩) HT2.out
 generalize (((W2.setCell ⟨w.heap.size + 1, 0, none⟩ (.int .i64 uk)).setCell ⟨w.heap.size + 1, 1, none⟩ (.int .i64 un)).setCell ⟨w.heap.size + 1, 2, none⟩ (.string us)).setCell ⟨w.heap.size + 1, 3, none⟩ (.slice A2 ul.length c2) = VF at hbf hEF hTF ⊢
 have r0 : VF.cell? ⟨w.heap.size + 1, 0, none⟩ = some (.int .i64 uk) := hbf.cell 0
 have r1 : VF.cell? ⟨w.heap.size + 1, 1, none⟩ = some (.int .i64 un) := hbf.cell 1
 have r2 : VF.cell? ⟨w.heap.size + 1, 2, none⟩ = some (.string us) := hbf.cell 2
 have r3 : VF.cell? ⟨w.heap.size + 1, 3, none⟩ = some (.slice A2 ul.length c2) := hbf.cell 3
 exact bodyPost_ret (v := .tuple #[.agg #[.int .i64 uk, .int .i64 un, .string us, .slice A2 ul.length c2], .int .i64 V.length]) (by simp [results, Tryz.results30, go_sem, r0, r1, r2, r3]) rfl ⟨A2, c2, rfl, hTF, hEF⟩
end Go.Proofs.YtgcdhffeacdegaaGreatDoor

/- Layer 11: what lives writes. -/
namespace Go.Proofs.YtgcdhffeacdegaaGreatDoor
open Go.RowKit Go.El
def tL : Tm := .mk 4 0 ⟨#[45]⟩ [.mk 2 1 ⟨#[]⟩ [], .mk 4 0 ⟨#[45]⟩ [.mk 2 2 ⟨#[]⟩ [], .mk 1 3 ⟨#[]⟩ []]]
theorem lv_chk : chkT tL = 0 := by decide +kernel
theorem lv_canon : txT none tL 1200 = [45, 40, 49, 44, 45, 40, 50, 44, 95, 51, 41, 41] := by decide +kernel
theorem lv_ren : txT none (rnT tL []) 1200 = [45, 40, 49, 44, 45, 40, 50, 44, 95, 48, 41, 41] := by decide +kernel
theorem lv_text : txT (some (initI, initQ)) tL 1200 = [49, 32, 45, 32, 40, 50, 32, 45, 32, 95, 51, 41] := by decide +kernel
theorem lv_1 : wrtS none tL [] = ⟨#[45, 40, 49, 44, 45, 40, 50, 44, 95, 51, 41, 41]⟩ ∧ wrtE none tL [] = 0 := by
 unfold wrtS wrtE
 rw [if_pos lv_chk, if_pos lv_chk, lv_canon]
 decide +kernel
theorem lv_2 : wrtS (some (initI, initQ)) tL [] = ⟨#[49, 32, 45, 32, 40, 50, 32, 45, 32, 95, 51, 41]⟩ ∧ wrtE (some (initI, initQ)) tL [] = 0 := by
 unfold wrtS wrtE
 rw [if_pos lv_chk, if_pos lv_chk, lv_text]
 decide +kernel
theorem lv_3 : wrtS (some (initI, initQ)) tL [32, 46, 10] = ⟨#[49, 32, 45, 32, 40, 50, 32, 45, 32, 95, 51, 41, 32, 46, 10]⟩ ∧ wrtE (some (initI, initQ)) tL [32, 46, 10] = 0 := by
 unfold wrtS wrtE
 rw [if_pos lv_chk, if_pos lv_chk, lv_text]
 decide +kernel
theorem lv_bdL : (bdL ([⟨#[88]⟩, ⟨#[95]⟩].zip [tL, tL])).1 = [88, 32, 61, 32] ++ txT none (rnT tL []) 1200 := rfl
theorem lv_4 : bndS [⟨#[88]⟩, ⟨#[95]⟩] [tL, tL] = ⟨#[88, 32, 61, 32, 45, 40, 49, 44, 45, 40, 50, 44, 95, 48, 41, 41]⟩ ∧ bndE [⟨#[88]⟩, ⟨#[95]⟩] [tL, tL] = 0 := by
 have h0 : ¬ fstBad [tL, tL] ≠ 0 := by decide +kernel
 have h1 : ¬ ([⟨#[88]⟩, ⟨#[95]⟩] : List ByteArray).length ≠ [tL, tL].length := by decide
 have hb : bndF [⟨#[88]⟩, ⟨#[95]⟩] [tL, tL] = [88, 32, 61, 32, 45, 40, 49, 44, 45, 40, 50, 44, 95, 48, 41, 41] := by
  unfold bndF
  rw [lv_bdL, lv_ren]
  rfl
 unfold bndS bndE
 rw [if_neg h1, if_neg h1, if_neg h0, if_neg h0, hb]
 decide +kernel
theorem lv_6 : wrtE none (.mk 0 0 ⟨#[]⟩ []) [] = 60 := by
 unfold wrtE
 rw [if_neg (by decide +kernel)]
 decide +kernel
theorem init_bd : ∀ p : OpV, p ∈ initI ∨ p ∈ initQ → -1000000 ≤ p.p ∧ p.p ≤ 1000000 := by
 have key : (initI ++ initQ).all (fun p => decide (-1000000 ≤ p.p ∧ p.p ≤ 1000000)) = true := by decide +kernel
 intro p hp
 have := List.all_eq_true.1 key p (by simpa using hp)
 exact of_decide_eq_true this
end Go.Proofs.YtgcdhffeacdegaaGreatDoor
/- Layer 11: the walk of lives. -/
namespace Go.Proofs.YtgcdhffeacdegaaGreatDoor
open Go.RowKit Go.El
theorem blk_src {w : World} {g : Nat} {t : TypeId} {cs : Array Value} {m k : Nat} (h : Blk w g t cs) (hs : cs.size = m * k) : El.Src w (some ⟨g, 0, none⟩) m k cs.toList :=
 ⟨by simpa using hs, fun _ => ⟨_, rfl, fun j u hu => by
  rw [Addr.add_lit, Nat.zero_add, h.cell]
  simpa using hu⟩⟩
theorem comp2 (p q : TmP) (W : World) (D : Nat → Prop) (hp : TmIn D W p.1 p.2.1 p.2.2) (hq : TmIn D W q.1 q.2.1 q.2.2) (hD : ∀ k, D k → k < W.heap.size) (s : ByteArray) :
  Calls Tryz.prog 33 #[.string s, .slice (some ⟨W.heap.size, 0, none⟩) 2 2] (W.alloc (.cells (tmC p ++ tmC q).toArray 32)) fun e w' => ∃ A' c', e = .returned (.agg #[.int .i64 4, .int .i64 0, .string s, .slice A' 2 c']) ∧ TmIn (fun k => k < w'.heap.size) w' (.mk 4 0 s [p.1, q.1]) A' c' ∧ Ext W w' := by
 have hx := ext_box W (.cells (tmC p ++ tmC q).toArray 32)
 have hs := blk_src (m := 2) (k := 4) (Blk.new W 32 (tmC p ++ tmC q).toArray) rfl
 refine (refComp_any s [p, q] _ 2 _ D (by simpa [flat] using hs) (fun r hr => ?_) (by simp) (by simp) (fun k hk => by rw [World.size_alloc]; have := hD k hk; omega)).mono ?_
 ·simp at hr
  rcases hr with rfl | rfl
  ·exact hp.ext hx
  ·exact hq.ext hx
 ·rintro e w' ⟨A', c', h1, h2, h3⟩
  refine ⟨A', c', h1, h2.mono (fun k hk => ?_), hx.trans h3⟩
  rcases hk with hk | hk
  ·have := hD k hk
   have := (hx.trans h3).size
   omega
  ·exact hk.2
def t1L : Tm := .mk 4 0 ⟨#[45]⟩ [.mk 2 2 ⟨#[]⟩ [], .mk 1 3 ⟨#[]⟩ []]
theorem lvComp1 (W : World) : Calls Tryz.prog 33 #[.string ⟨#[45]⟩, .slice (some ⟨W.heap.size, 0, none⟩) 2 2] (W.alloc (.cells #[.int .i64 2, .int .i64 2, .string ⟨#[]⟩, .slice none 0 0, .int .i64 1, .int .i64 3, .string ⟨#[]⟩, .slice none 0 0] 32)) fun e w' => ∃ A' c', e = .returned (.agg #[.int .i64 4, .int .i64 0, .string ⟨#[45]⟩, .slice A' 2 c']) ∧ TmIn (fun k => k < w'.heap.size) w' t1L A' c' ∧ Ext W w' :=
 comp2 (.mk 2 2 ⟨#[]⟩ [], none, 0) (.mk 1 3 ⟨#[]⟩ [], none, 0) W (fun _ => False) (TmsIn.term (TmsIn.nil _ _ _ _) _ _ _) (TmsIn.term (TmsIn.nil _ _ _ _) _ _ _) (fun _ hk => hk.elim) ⟨#[45]⟩
theorem lvComp2 (W : World) (A : Option Addr) (c : Nat) (ht : TmIn (fun k => k < W.heap.size) W t1L A c) : Calls Tryz.prog 33 #[.string ⟨#[45]⟩, .slice (some ⟨W.heap.size, 0, none⟩) 2 2] (W.alloc (.cells #[.int .i64 2, .int .i64 1, .string ⟨#[]⟩, .slice none 0 0, .int .i64 4, .int .i64 0, .string ⟨#[45]⟩, .slice A 2 c] 32)) fun e w' => ∃ A' c', e = .returned (.agg #[.int .i64 4, .int .i64 0, .string ⟨#[45]⟩, .slice A' 2 c']) ∧ TmIn (fun k => k < w'.heap.size) w' tL A' c' ∧ Ext W w' :=
 comp2 (.mk 2 1 ⟨#[]⟩ [], none, 0) (t1L, A, c) W (fun k => k < W.heap.size) (TmsIn.term (TmsIn.nil _ _ _ _) _ _ _) ht (fun _ hk => hk) ⟨#[45]⟩
theorem lvCanon (A : Option Addr) (c : Nat) (W : World) (D : Nat → Prop) (ht : TmIn D W tL A c) (he : Env W) : Calls Tryz.prog 31 #[.agg #[.int .i64 4, .int .i64 0, .string ⟨#[45]⟩, .slice A 2 c]] W fun e w' => e = .returned (.tuple #[.string ⟨#[45, 40, 49, 44, 45, 40, 50, 44, 95, 51, 41, 41]⟩, .int .i64 0]) ∧ Ext W w' := by
 have := canon_any tL A c W D ht he (by decide)
 rw [lv_1.1, lv_1.2] at this
 exact this
theorem lvOps {W : World} {tb m1 m2 : Nat} (h : TabAt W tb m1 m2 initI initQ) : OpsAt W (some (initI, initQ)) (.pointer (some ⟨tb, 0, none⟩)) := ⟨tb, m1, m2, rfl, h, init_bd⟩
theorem lvText (A : Option Addr) (c : Nat) (W : World) (D : Nat → Prop) (ht : TmIn D W tL A c) (he : Env W) {tb m1 m2 : Nat} (h : TabAt W tb m1 m2 initI initQ) : Calls Tryz.prog 46 #[.agg #[.int .i64 4, .int .i64 0, .string ⟨#[45]⟩, .slice A 2 c], .pointer (some ⟨tb, 0, none⟩)] W fun e w' => e = .returned (.tuple #[.string ⟨#[49, 32, 45, 32, 40, 50, 32, 45, 32, 95, 51, 41]⟩, .int .i64 0]) ∧ Ext W w' := by
 have := text_any tL A c W D initI initQ tb ht he (lvOps h) (by decide)
 rw [lv_2.1, lv_2.2] at this
 exact this
theorem lvClause (A : Option Addr) (c : Nat) (W : World) (D : Nat → Prop) (ht : TmIn D W tL A c) (he : Env W) {tb m1 m2 : Nat} (h : TabAt W tb m1 m2 initI initQ) : Calls Tryz.prog 29 #[.agg #[.int .i64 4, .int .i64 0, .string ⟨#[45]⟩, .slice A 2 c], .pointer (some ⟨tb, 0, none⟩)] W fun e w' => e = .returned (.tuple #[.string ⟨#[49, 32, 45, 32, 40, 50, 32, 45, 32, 95, 51, 41, 32, 46, 10]⟩, .int .i64 0]) ∧ Ext W w' := by
 have := clause_any tL A c W D initI initQ tb ht he (lvOps h) (by decide)
 rw [lv_3.1, lv_3.2] at this
 exact this
theorem lvNil (A : Option Addr) (c : Nat) (W : World) : Calls Tryz.prog 46 #[.agg #[.int .i64 4, .int .i64 0, .string ⟨#[45]⟩, .slice A 2 c], .pointer none] W fun e w' => e = .returned (.tuple #[.string ⟨#[]⟩, .int .i64 1]) ∧ Ext W w' := text_nil tL A c W
theorem lvZero (W : World) (he : Env W) : Calls Tryz.prog 31 #[.agg #[.int .i64 0, .int .i64 0, .string ⟨#[]⟩, .slice none 0 0]] W fun e w' => (∃ s, e = .returned (.tuple #[.string s, .int .i64 60])) ∧ Ext W w' := by
 have := canon_any (.mk 0 0 ⟨#[]⟩ []) none 0 W (fun _ => False) (TmsIn.term (TmsIn.nil _ _ _ _) _ _ _) he (by decide)
 rw [lv_6] at this
 exact this.mono fun e w' h => ⟨⟨_, h.1⟩, h.2⟩
theorem lvBind (A : Option Addr) (c : Nat) (W : World) (D : Nat → Prop) (ht : TmIn D W tL A c) (hD : ∀ k, D k → k < W.heap.size) (he : Env W) :
  Calls Tryz.prog 47 #[.slice (some ⟨W.heap.size, 0, none⟩) 2 2, .slice (some ⟨W.heap.size + 1, 0, none⟩) 2 2] ((W.alloc (.cells #[.string ⟨#[88]⟩, .string ⟨#[95]⟩] 9)).alloc (.cells #[.int .i64 4, .int .i64 0, .string ⟨#[45]⟩, .slice A 2 c, .int .i64 4, .int .i64 0, .string ⟨#[45]⟩, .slice A 2 c] 32)) fun e w' => e = .returned (.tuple #[.string ⟨#[88, 32, 61, 32, 45, 40, 49, 44, 45, 40, 50, 44, 95, 48, 41, 41]⟩, .int .i64 0]) ∧ Ext W w' := by
 have hx := ((Ext.refl W).alloc (.cells #[.string ⟨#[88]⟩, .string ⟨#[95]⟩] 9)).alloc (.cells #[.int .i64 4, .int .i64 0, .string ⟨#[45]⟩, .slice A 2 c, .int .i64 4, .int .i64 0, .string ⟨#[45]⟩, .slice A 2 c] 32)
 have h1 := blk_src (m := 2) (k := 1) ((Blk.new W 9 #[.string ⟨#[88]⟩, .string ⟨#[95]⟩]).alloc (.cells #[.int .i64 4, .int .i64 0, .string ⟨#[45]⟩, .slice A 2 c, .int .i64 4, .int .i64 0, .string ⟨#[45]⟩, .slice A 2 c] 32)) rfl
 have h2 := blk_src (m := 2) (k := 4) (Blk.new (W.alloc (.cells #[.string ⟨#[88]⟩, .string ⟨#[95]⟩] 9)) 32 #[.int .i64 4, .int .i64 0, .string ⟨#[45]⟩, .slice A 2 c, .int .i64 4, .int .i64 0, .string ⟨#[45]⟩, .slice A 2 c]) rfl
 rw [World.size_alloc] at h2
 have ht2 := src_tm (c := 2) (M := [(tL, A, c), (tL, A, c)]) (D := fun k => k < W.heap.size + 2) h2 (fun p hp => by
  simp at hp
  subst hp
  exact (ht.ext hx).mono (fun k hk => by have := hD k hk; omega)) (fun b off e => by injection e with e; injection e with e _ _; omega) (by simp) 0 0 ⟨#[]⟩
 have := bindings_even [⟨#[88]⟩, ⟨#[95]⟩] [tL, tL] _ _ 2 2 _ _ rfl h1 ht2 (he.ext hx) (by decide) (by decide) (by decide)
 rw [lv_4.1, lv_4.2] at this
 exact this.mono fun e w' h => ⟨h.1, hx.trans h.2⟩
set_option maxRecDepth 100000 in
set_option maxHeartbeats 8000000 in
theorem lives_any (w : World) (he : Env w) : Calls Tryz.prog 25 #[] w fun e w' => e = .returned (.bool true) ∧ Ext w w' := by
 have HE := Lib.hid he
 have HX := Lib.hid (Ext.refl w)
 have tok1 : True := trivial
 clear he
 go_enter Tryz.func25, Tryz.ntmps25
 go_upto_region 2 with (first | (go_at_call 35; refine (refInt_any _ _).mono ?_; rintro e W1 ⟨rfl, x1⟩; have HX := Lib.hid (HX.out.trans x1); clear x1) | (go_at_call 34; refine (refVar_any _ _).mono ?_; rintro e W3 ⟨rfl, x1⟩; have HX := Lib.hid (HX.out.trans x1); clear x1) | (go_at_call 33; have _t := tok1; refine (lvComp1 W3).mono ?_; rintro e W4 ⟨A1, c1, rfl, ht1, x1⟩; have HT1 := Lib.hid ht1; have HX := Lib.hid (HX.out.trans x1); clear x1 ht1 tok1) | (go_at_call 33; refine (lvComp2 W4 A1 c1 HT1.out).mono ?_; rintro e W5 ⟨A2, c2, rfl, ht2, x2⟩; have HT2 := Lib.hid ht2; have HX := Lib.hid (HX.out.trans x2); clear x2 ht2))
 refine wp_abs (fun V => Hid (Blk V W5.heap.size 32 #[.int .i64 4, .int .i64 0, .string ⟨#[45]⟩, .slice A2 2 c2]) ∧ Hid (TmIn (fun k => k < V.heap.size) V tL A2 c2) ∧ Hid (Ext w V)) ⟨Blk.new W5 _ _, Lib.hid ((HT2.out.ext (ext_box _ _)).mono (fun k hk => by rw [World.size_alloc]; omega)), HX.out.alloc _⟩ ?_
 clear HT1 HT2 HX
 rintro V ⟨HB, HT, HX⟩
 generalize W5.heap.size = g at *
 have HE := Lib.hid (HE.out.ext HX.out)
 have HR := Lib.hid (Ext.refl V)
 have key := fun (W : World) (x : Ext V W) => (show Hid (W.cell? ⟨g, 0, none⟩ = some (.int .i64 4) ∧ W.cell? ⟨g, 1, none⟩ = some (.int .i64 0) ∧ W.cell? ⟨g, 2, none⟩ = some (.string ⟨#[45]⟩) ∧ W.cell? ⟨g, 3, none⟩ = some (.slice A2 2 c2)) from Lib.hid ⟨(HB.out.ext x).cell 0, (HB.out.ext x).cell 1, (HB.out.ext x).cell 2, (HB.out.ext x).cell 3⟩)
 go_upto_region 3 with (go_at_call 32; refine (pNew_any _).mono ?_; rintro e V1 ⟨tb, m1, m2, rfl, _, _, _, hT, hx⟩; have HO := Lib.hid hT; have X1 := Lib.hid hx; clear hT hx)
 obtain ⟨y0, y1, y2, y3⟩ := (key _ X1.out).out
 go_upto_region 4 with (go_at_call 31; refine (lvCanon A2 c2 V1 _ (HT.out.ext X1.out) (HE.out.ext X1.out)).mono ?_; rintro e V2 ⟨rfl, hx⟩; have X2 := Lib.hid (X1.out.trans hx); have HO2 := Lib.hid (HO.out.ext hx); clear hx)
 clear y0 y1 y2 y3 X1 HO
 obtain ⟨y0, y1, y2, y3⟩ := (key _ X2.out).out
 go_upto_region 5 with (go_at_call 46; refine (lvText A2 c2 V2 _ (HT.out.ext X2.out) (HE.out.ext X2.out) HO2.out).mono ?_; rintro e V3 ⟨rfl, hx⟩; have X3 := Lib.hid (X2.out.trans hx); have HO3 := Lib.hid (HO2.out.ext hx); clear hx)
 clear y0 y1 y2 y3 X2 HO2
 obtain ⟨y0, y1, y2, y3⟩ := (key _ X3.out).out
 go_upto_region 6 with (go_at_call 29; refine (lvClause A2 c2 V3 _ (HT.out.ext X3.out) (HE.out.ext X3.out) HO3.out).mono ?_; rintro e V4 ⟨rfl, hx⟩; have X4 := Lib.hid (X3.out.trans hx); clear hx)
 clear y0 y1 y2 y3 X3 HO3
 obtain ⟨y0, y1, y2, y3⟩ := (key _ X4.out).out
 have n0 := (ext_box V4 (.cells #[.string ⟨#[88]⟩, .string ⟨#[95]⟩] 9)).cell y0
 have n1 := (ext_box V4 (.cells #[.string ⟨#[88]⟩, .string ⟨#[95]⟩] 9)).cell y1
 have n2 := (ext_box V4 (.cells #[.string ⟨#[88]⟩, .string ⟨#[95]⟩] 9)).cell y2
 have n3 := (ext_box V4 (.cells #[.string ⟨#[88]⟩, .string ⟨#[95]⟩] 9)).cell y3
 go_upto_region 7 with (go_at_call 47; refine (lvBind A2 c2 V4 (fun k => k < V.heap.size) (HT.out.ext X4.out) (fun k hk => Nat.lt_of_lt_of_le hk X4.out.size) (HE.out.ext X4.out)).mono ?_; rintro e V5 ⟨rfl, hx⟩; have X5 := Lib.hid (X4.out.trans hx); clear hx)
 clear y0 y1 y2 y3 n0 n1 n2 n3 X4
 obtain ⟨y0, y1, y2, y3⟩ := (key _ X5.out).out
 go_upto_region 8 with (go_at_call 46; refine (lvNil A2 c2 V5).mono ?_; rintro e V6 ⟨rfl, hx⟩; have X6 := Lib.hid (X5.out.trans hx); clear hx)
 clear y0 y1 y2 y3 X5
 have hcat : ((⟨#[49, 32, 45, 32, 40, 50, 32, 45, 32, 95, 51, 41]⟩ : ByteArray) ++ (⟨#[32, 46, 10]⟩ : ByteArray)).toList = [49, 32, 45, 32, 40, 50, 32, 45, 32, 95, 51, 41, 32, 46, 10] := by decide +kernel
 go_wp2_with (go_at_call 31; refine (lvZero V6 (HE.out.ext X6.out)).mono ?_; rintro e V7 ⟨⟨sz, rfl⟩, hx⟩; have X7 := Lib.hid (X6.out.trans hx); clear hx)
 go_ret
 exact ⟨rfl, HX.out.trans X7.out⟩
end Go.Proofs.YtgcdhffeacdegaaGreatDoor
