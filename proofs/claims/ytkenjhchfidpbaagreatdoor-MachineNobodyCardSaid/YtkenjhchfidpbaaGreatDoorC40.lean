/- Layer 6, the program: the walks of Var, build (of Var), Clone. -/
import Derived.Test.YtkenjhchfidpbaaGreatDoorC39
import Derived.Deep.RegionHeld3
namespace Go.Proofs.YtkenjhchfidpbaaGreatDoor
open Go.RowKit Go.El

set_option maxRecDepth 100000 in
theorem var_any (n : Int) (w : World) :
    Calls Tryz.prog 30 #[.int .i64 n] w fun e w' => e = .returned (.agg #[.int .i64 1, .int .i64 n, .string ⟨#[]⟩, .slice none 0 0]) ∧ Ext w w' := by
  go_enter Tryz.func30, Tryz.ntmps30
  go_wp2_with fail
  have hE := (Ext.refl w).alloc (.cells #[.int .i64 1, .int .i64 n, .string ⟨#[]⟩, .slice none 0 0] 24)
  have hB := Blk.new w 24 #[.int .i64 1, .int .i64 n, .string ⟨#[]⟩, .slice none 0 0]
  generalize w.alloc (.cells #[.int .i64 1, .int .i64 n, .string ⟨#[]⟩, .slice none 0 0] 24) = V at hE hB ⊢
  have r0 : V.cell? ⟨w.heap.size, 0, none⟩ = some (.int .i64 1) := hB.cell 0
  have r1 : V.cell? ⟨w.heap.size, 1, none⟩ = some (.int .i64 n) := hB.cell 1
  have r2 : V.cell? ⟨w.heap.size, 2, none⟩ = some (.string ⟨#[]⟩) := hB.cell 2
  have r3 : V.cell? ⟨w.heap.size, 3, none⟩ = some (.slice none 0 0) := hB.cell 3
  refine bodyPost_ret (v := .agg #[.int .i64 1, .int .i64 n, .string ⟨#[]⟩, .slice none 0 0]) (by simp [results, Tryz.results30, go_sem, r0, r1, r2, r3]) rfl ⟨rfl, hE⟩

theorem blk3 {w : World} {t : TypeId} {cs cs2 cs3 : Array Value} : Blk (((w.alloc (.cells cs t)).alloc (.cells cs2 t)).alloc (.cells cs3 t)) (w.heap.size + 1 + 1) t cs3 := by
  have := Blk.new ((w.alloc (.cells cs t)).alloc (.cells cs2 t)) t cs3
  rw [World.size_alloc, World.size_alloc] at this
  exact this
theorem blk2 {w : World} {t : TypeId} {cs cs2 cs3 : Array Value} : Blk (((w.alloc (.cells cs t)).alloc (.cells cs2 t)).alloc (.cells cs3 t)) (w.heap.size + 1) t cs2 := by
  have := (Blk.new (w.alloc (.cells cs t)) t cs2).alloc (.cells cs3 t)
  rw [World.size_alloc] at this
  exact this
theorem bu_keep {a b : World} {g x : Nat} {v c0 c1 c2 c3 : Value} (k : Ext a b) (h : a.cell? ⟨g, 3, none⟩ = some v ∧ a.cell? ⟨x, 0, none⟩ = some c0 ∧ a.cell? ⟨x, 1, none⟩ = some c1 ∧ a.cell? ⟨x, 2, none⟩ = some c2 ∧ a.cell? ⟨x, 3, none⟩ = some c3) : b.cell? ⟨g, 3, none⟩ = some v ∧ b.cell? ⟨x, 0, none⟩ = some c0 ∧ b.cell? ⟨x, 1, none⟩ = some c1 ∧ b.cell? ⟨x, 2, none⟩ = some c2 ∧ b.cell? ⟨x, 3, none⟩ = some c3 :=
  ⟨k.cell h.1, k.cell h.2.1, k.cell h.2.2.1, k.cell h.2.2.2.1, k.cell h.2.2.2.2⟩
theorem tmInfo4 : (Tryz.prog.info? 24).map (fun i => (i.zero, i.size, i.bytes)) = some (some (.agg #[.int .i64 0, .int .i64 0, .string ⟨#[]⟩, .slice none 0 0]), 4, 56) := by kernel_rfl

/-- A new child. -/
theorem kid_new {X wr W W2 : World} {lo : Nat} {v : Value} {M : List TmP} {u : Tm} {A : Option Addr} {c : Nat} {o : Obj} (h : RowT X lo wr v M) (hE : Ext wr W) (ht : TmIn (fun k => W.drew.heap.size ≤ k ∧ k < W2.heap.size) W2 u A c) : TmIn (fun k => lo ≤ k ∧ v.ownBlock ≠ some k ∧ k < (W2.alloc o).heap.size) (W2.alloc o) u A c := by
  refine (ht.ext (ext_box W2 o)).mono (fun k hk => ?_)
  have h1 : W.heap.size ≤ k := hk.1
  have h2 := hE.size
  have h3 := h.low
  refine ⟨by omega, fun e => ?_, ?_⟩
  · have := (h.own.lt k e).2
    omega
  · rw [World.size_alloc]
    have := hk.2
    omega

set_option maxRecDepth 100000 in
set_option maxHeartbeats 4000000 in
theorem buildVar_any : ∀ (N : Nat) (t : Tm), szT t ≤ N → szT t ≤ 1000000000 → okT t = true → ∀ (A : Option Addr) (c : Nat) (w : World) (D : Nat → Prop), TmIn D w t A c →
    Calls Tryz.prog 235 #[tmVal t A c, .func (.func 30) #[] #[]] w fun e w' => ∃ A' c', e = .returned (tmVal t A' c') ∧ TmIn (fun k => w.heap.size ≤ k ∧ k < w'.heap.size) w' t A' c' ∧ Ext w w'
  | 0, t, h => by
    have := szT_pos t
    omega
  | N + 1, .mk k n s l, hN => by
    intro hbig hok A c w D ht
    obtain ⟨i1, hi1, hz0, hz1, hz2⟩ := infoP tmInfo4
    have IH := buildVar_any N
    simp only [szT] at hN hbig
    simp only [okT, Bool.and_eq_true] at hok
    obtain ⟨hpk, hokl⟩ := hok
    have H := Lib.hid ht
    clear ht
    unfold tmVal
    simp only [Tm.k, Tm.n, Tm.s, Tm.l]
    by_cases hk : k = 1
    · subst hk
      have hv : s = ⟨#[]⟩ ∧ l = [] := by
        simp only [partK, if_true, decide_eq_true_eq] at hpk
        refine ⟨?_, List.length_eq_zero_iff.1 hpk.2.2.2⟩
        exact mk_of (List.length_eq_zero_iff.1 (by simpa using hpk.2.2.1))
      obtain ⟨rfl, rfl⟩ := hv
      go_enter Tryz.func235, Tryz.ntmps235
      go_wp2_with (go_at_call 30; refine (var_any n _).mono ?_; rintro e W1 ⟨rfl, hx⟩; have z0 := (Blk.new (w.alloc (.cells #[.int .i64 1, .int .i64 n, .string ⟨#[]⟩, .slice A 0 c] 24)) 24 #[.int .i64 0, .int .i64 0, .string ⟨#[]⟩, .slice none 0 0]).ext hx; rw [World.size_alloc] at z0; have HZ := Lib.hid z0; have HX := Lib.hid ((((Ext.refl w).alloc _).alloc _).trans hx); have zc := z0.cell; have zf := z0.frozen; clear hx z0)
      have hbf := (((HZ.out.set_ 0 (.int .i64 1)).set_ 1 (.int .i64 n)).set_ 2 (.string ⟨#[]⟩)).set_ 3 (.slice none 0 0)
      have hEF := (((HX.out.setCell (p := ⟨w.heap.size + 1, 0, none⟩) (by simp) (.int .i64 1)).setCell (p := ⟨w.heap.size + 1, 1, none⟩) (by simp) (.int .i64 n)).setCell (p := ⟨w.heap.size + 1, 2, none⟩) (by simp) (.string ⟨#[]⟩)).setCell (p := ⟨w.heap.size + 1, 3, none⟩) (by simp) (.slice none 0 0)
      generalize (((W1.setCell ⟨w.heap.size + 1, 0, none⟩ (.int .i64 1)).setCell ⟨w.heap.size + 1, 1, none⟩ (.int .i64 n)).setCell ⟨w.heap.size + 1, 2, none⟩ (.string ⟨#[]⟩)).setCell ⟨w.heap.size + 1, 3, none⟩ (.slice none 0 0) = V at hbf hEF ⊢
      have r0 : V.cell? ⟨w.heap.size + 1, 0, none⟩ = some (.int .i64 1) := hbf.cell 0
      have r1 : V.cell? ⟨w.heap.size + 1, 1, none⟩ = some (.int .i64 n) := hbf.cell 1
      have r2 : V.cell? ⟨w.heap.size + 1, 2, none⟩ = some (.string ⟨#[]⟩) := hbf.cell 2
      have r3 : V.cell? ⟨w.heap.size + 1, 3, none⟩ = some (.slice none 0 0) := hbf.cell 3
      refine bodyPost_ret (v := .agg #[.int .i64 1, .int .i64 n, .string ⟨#[]⟩, .slice none 0 0]) (by simp [results, Tryz.results235, go_sem, r0, r1, r2, r3]) rfl ⟨none, 0, rfl, TmsIn.term (TmsIn.nil _ _ _ _) _ _ _, hEF⟩
    · have hk2 : (k == 1) = false := by simpa using hk
      clear hpk
      go_enter Tryz.func235, Tryz.ntmps235
      go_upto_region 5 with fail
      refine wp_abs (fun V => Hid (Blk V (w.heap.size + 1 + 1) 24 #[.int .i64 k, .int .i64 n, .string s, .slice none 0 0]) ∧ Hid (Blk V (w.heap.size + 1) 24 #[.int .i64 0, .int .i64 0, .string ⟨#[]⟩, .slice none 0 0]) ∧ Hid (Ext w V)) ⟨blk3, blk2, (((Ext.refl w).alloc _).alloc _).alloc _⟩ ?_
      rintro V ⟨HB0, HZ0, HX0⟩
      have hlw := len_szL l
      go_loopw [25] (fun i wr => ∃ (j : Nat) (v : Value) (M : List TmP), j ≤ l.length ∧ i = .int .i64 j ∧ Hid (M.map (·.1) = l.take j) ∧ Hid (RowT w V.heap.size wr v M) ∧ Hid (Blk wr (w.heap.size + 1 + 1) 24 #[.int .i64 k, .int .i64 n, .string s, v]) ∧ Hid (Blk wr (w.heap.size + 1) 24 #[.int .i64 0, .int .i64 0, .string ⟨#[]⟩, .slice none 0 0])) (fun i _ => l.length - (intOf i).toNat)
      case atStart => exact ⟨0, _, [], Nat.zero_le _, rfl, rfl, RowT.start HX0.out, HB0.out, HZ0.out⟩
      case round =>
        obtain ⟨j, v, M, hj, rfl, HM, HR, HB, HZ⟩ := hrel
        have hMl : M.length = j := by
          have := congrArg List.length HM.out
          simp at this
          omega
        subst hMl
        by_cases hlt : M.length < l.length
        · have ho : l[M.length]? = some l[M.length] := List.getElem?_eq_getElem hlt
          have hsu := szL_get ho
          have hou := okL_get hokl ho
          have hMn : Hid (∀ q : TmP, q.1 = l[M.length] → (M ++ [q]).map (·.1) = l.take (M.length + 1)) := fun q hq => by
            rw [List.map_append, HM.out, List.take_succ_eq_append_getElem hlt]
            simp [hq]
          generalize l[M.length] = u at ho hou hMn hsu
          obtain ⟨bb, off, A', c', rfl, _, hu, q0, q1, q2, q3⟩ := (TmIn.ext HR.out.ext H.out).child ho
          obtain ⟨Av, cv, rfl⟩ := own_value HR.out.own
          have HC := fun (W : World) (x : Ext wr W) => Lib.hid (IH u (by omega) (by omega) hou A' c' W D (TmIn.ext x hu))
          unfold tmVal at HC
          have hglt : w.heap.size + 1 + 1 < V.heap.size := HB0.out.lt
          have hVw := HR.out.low
          clear ho hu
          go_upto_region 7 with fail
          refine wp_abs (fun W => Hid (Ext wr W) ∧ Hid (Blk W wr.heap.size 24 #[.int .i64 u.k, .int .i64 u.n, .string u.s, .slice A' u.l.length c'])) ⟨ext_box _ _, Blk.new _ _ _⟩ ?_
          rintro W ⟨HE, HU⟩
          have hS : W.cell? ⟨w.heap.size + 1 + 1, 3, none⟩ = some (.slice Av M.length cv) ∧ W.cell? ⟨wr.heap.size, 0, none⟩ = some (.int .i64 u.k) ∧ W.cell? ⟨wr.heap.size, 1, none⟩ = some (.int .i64 u.n) ∧ W.cell? ⟨wr.heap.size, 2, none⟩ = some (.string u.s) ∧ W.cell? ⟨wr.heap.size, 3, none⟩ = some (.slice A' u.l.length c') := ⟨(HB.out.ext HE.out).cell 3, HU.out.cell 0, HU.out.cell 1, HU.out.cell 2, HU.out.cell 3⟩
          have hS0 := bu_keep ((Ext.refl W).drew) hS
          clear q0 q1 q2 q3
          obtain ⟨z3, z4, z5, z6, z7⟩ := hS0
          go_region_law ((first | (go_simp; go_at_call 235; refine (HC _ (HE.out.drew)).out.mono ?_; rintro e W2 ⟨A2, c2, rfl, ht2, hx2⟩; have y3 := hx2.cell z3; have y4 := (ext_box W2 (.cells #[.int .i64 u.k, .int .i64 u.n, .string u.s, .slice A2 u.l.length c2] 24)).cell y3) | (refine step_append_src (P := Tryz.prog) rfl (.tmp 30) (.tmp 34) 22 rfl 24 i1 _ 4 56 Tryz.underlying22 hi1 hz0 hz1 hz2 rfl (by omega) (.slice Av M.length cv) rfl _ _ _ rfl M.length (flat tmC M) (own_ext HR.out.own ((HE.out.drew.trans hx2).alloc _)) (tmC (u, A2, c2)) (El.Src.new _ #[.int .i64 u.k, .int .i64 u.n, .string u.s, .slice A2 u.l.length c2] _ 1 4 rfl) (tmC_one _) (by unfold maxLen; omega) (by omega) ?_; intro v3 w3 ho3 hm3 hb3; obtain ⟨A3, c3, rfl⟩ := own_value ho3; have hR3 := RowT.step (p := (u, A2, c2)) HR.out ((HE.out.drew.trans hx2).alloc _) (kid_new HR.out HE.out ht2) ho3 hm3 hb3; have hB3 := (HB.out.ext ((HE.out.drew.trans hx2).alloc _)).mods hm3 (HR.out.no hglt); have hZ3 := (HZ.out.ext ((HE.out.drew.trans hx2).alloc _)).mods hm3 (HR.out.no (by omega)); have k3 : w3.cell? ⟨w.heap.size + 1 + 1, 3, none⟩ = some (.slice Av M.length cv) := hB3.cell 3; have f3 := hB3.frozen 3; have hU3 := (HU.out.ext ((((Ext.refl W).drew).trans hx2).alloc _)).mods hm3 (fun e => by have := (HR.out.own.lt _ (by simpa [ownL] using e)).2; omega); have hS3 : w3.cell? ⟨w.heap.size + 1 + 1, 3, none⟩ = some (.slice Av M.length cv) ∧ w3.cell? ⟨wr.heap.size, 0, none⟩ = some (.int .i64 u.k) ∧ w3.cell? ⟨wr.heap.size, 1, none⟩ = some (.int .i64 u.n) ∧ w3.cell? ⟨wr.heap.size, 2, none⟩ = some (.string u.s) ∧ w3.cell? ⟨wr.heap.size, 3, none⟩ = some (.slice A' u.l.length c') := ⟨k3, hU3.cell 0, hU3.cell 1, hU3.cell 2, hU3.cell 3⟩; have HR3 := Lib.hid hR3; have HB3 := Lib.hid hB3; have HZ3 := Lib.hid hZ3; clear hR3 hB3 hZ3 ho3 hm3 hb3)))
          all_goals
            go_wp2_with fail
            go_roundw
            case rel => exact ⟨M.length + 1, _, M ++ [(u, A2, c2)], hlt, by go_num, hMn.out _ rfl, HR3.out.set_ (by omega) hglt 3 _, HB3.out.set_ 3 _, HZ3.out.far (p := ⟨w.heap.size + 1 + 1, 3, none⟩) (by simp) _⟩
            case measure => simp [intOf]; omega
        · have hMl : M.length = l.length := by omega
          have hM1 : M.map (·.1) = l := by rw [HM.out, hMl, List.take_length]
          obtain ⟨A2, c2, rfl, ht2⟩ := HR.out.done k n s
          rw [hM1] at ht2
          rw [hMl] at HB hlt ⊢
          have b0 : wr.cell? ⟨w.heap.size + 1 + 1, 0, none⟩ = some (.int .i64 k) := HB.out.cell 0
          have b1 : wr.cell? ⟨w.heap.size + 1 + 1, 1, none⟩ = some (.int .i64 n) := HB.out.cell 1
          have b2 : wr.cell? ⟨w.heap.size + 1 + 1, 2, none⟩ = some (.string s) := HB.out.cell 2
          have b3 : wr.cell? ⟨w.heap.size + 1 + 1, 3, none⟩ = some (.slice A2 l.length c2) := HB.out.cell 3
          have zc := HZ.out.cell
          have zf := HZ.out.frozen
          have hgl : w.heap.size + 1 + 1 < V.heap.size := HB0.out.lt
          have hbf := (((HZ.out.set_ 0 (.int .i64 k)).set_ 1 (.int .i64 n)).set_ 2 (.string s)).set_ 3 (.slice A2 l.length c2)
          have hEF := (((HR.out.ext.setCell (p := ⟨w.heap.size + 1, 0, none⟩) (by simp) (.int .i64 k)).setCell (p := ⟨w.heap.size + 1, 1, none⟩) (by simp) (.int .i64 n)).setCell (p := ⟨w.heap.size + 1, 2, none⟩) (by simp) (.string s)).setCell (p := ⟨w.heap.size + 1, 3, none⟩) (by simp) (.slice A2 l.length c2)
          have hTF := TmIn.mods (S := [w.heap.size + 1]) (D' := fun i => w.heap.size ≤ i ∧ i < ((((wr.setCell ⟨w.heap.size + 1, 0, none⟩ (.int .i64 k)).setCell ⟨w.heap.size + 1, 1, none⟩ (.int .i64 n)).setCell ⟨w.heap.size + 1, 2, none⟩ (.string s)).setCell ⟨w.heap.size + 1, 3, none⟩ (.slice A2 l.length c2)).heap.size) (((((Mods.refl _ wr).setCell (p := ⟨w.heap.size + 1, 0, none⟩) (.inl (by simp)) (.int .i64 k)).setCell (p := ⟨w.heap.size + 1, 1, none⟩) (.inl (by simp)) (.int .i64 n)).setCell (p := ⟨w.heap.size + 1, 2, none⟩) (.inl (by simp)) (.string s)).setCell (p := ⟨w.heap.size + 1, 3, none⟩) (.inl (by simp)) (.slice A2 l.length c2)) (fun i hi => by simp; omega) (fun i hi => ⟨by omega, by simpa using hi.2⟩) ht2
          have HBF := Lib.hid hbf
          have HEF := Lib.hid hEF
          have HTF := Lib.hid hTF
          clear hbf hEF hTF ht2 HM HR HB HZ
          go_wp2_with fail
          generalize (((wr.setCell ⟨w.heap.size + 1, 0, none⟩ (.int .i64 k)).setCell ⟨w.heap.size + 1, 1, none⟩ (.int .i64 n)).setCell ⟨w.heap.size + 1, 2, none⟩ (.string s)).setCell ⟨w.heap.size + 1, 3, none⟩ (.slice A2 l.length c2) = VF at HBF HEF HTF ⊢
          have r0 : VF.cell? ⟨w.heap.size + 1, 0, none⟩ = some (.int .i64 k) := HBF.out.cell 0
          have r1 : VF.cell? ⟨w.heap.size + 1, 1, none⟩ = some (.int .i64 n) := HBF.out.cell 1
          have r2 : VF.cell? ⟨w.heap.size + 1, 2, none⟩ = some (.string s) := HBF.out.cell 2
          have r3 : VF.cell? ⟨w.heap.size + 1, 3, none⟩ = some (.slice A2 l.length c2) := HBF.out.cell 3
          refine bodyPost_ret (v := .agg #[.int .i64 k, .int .i64 n, .string s, .slice A2 l.length c2]) (by simp [results, Tryz.results235, go_sem, r0, r1, r2, r3]) rfl ⟨A2, c2, rfl, HTF.out, HEF.out⟩

end Go.Proofs.YtkenjhchfidpbaaGreatDoor

/- Layer 6, the reference: rows of terms that are there; Int, Var, Atom, Comp. -/
namespace Go.Proofs.YtkenjhchfidpbaaGreatDoor
open Go.RowKit Go.El

/-- Terms that lie in a row. -/
theorem src_tm {w : World} {A : Option Addr} {c : Nat} {M : List TmP} {D : Nat → Prop} (hs : El.Src w A M.length 4 (flat tmC M)) (hk : ∀ p ∈ M, TmIn D w p.1 p.2.1 p.2.2) (hD : ∀ b off, A = some ⟨b, off, none⟩ → D b) (hc : M.length ≤ c) (k n : Int) (s : ByteArray) : TmIn D w (.mk k n s (M.map (·.1))) A c := by
  refine .mk k n s _ A c (M.map (·.2)) (by simp) (fun j t q ht hq => ?_) (fun hne => ?_) (by simpa using hc)
  · rw [List.getElem?_map] at ht hq
    cases hp : M[j]? with
    | none => rw [hp] at ht; simp at ht
    | some p =>
      rw [hp] at ht hq
      simp at ht hq
      subst ht hq
      exact hk p (List.mem_of_getElem? hp)
  · have hlen : 0 < M.length := by
      rcases M with _ | ⟨p, M⟩
      · simp at hne
      · simp
    obtain ⟨b, off, rfl, hcell⟩ := Src.form hs hlen (by omega)
    refine ⟨b, off, rfl, hD b off rfl, fun j t q ht hq => ?_⟩
    rw [List.getElem?_map] at ht hq
    cases hp : M[j]? with
    | none => rw [hp] at ht; simp at ht
    | some p =>
      rw [hp] at ht hq
      simp at ht hq
      subst ht hq
      refine ⟨?_, ?_, ?_, ?_⟩
      · exact hcell (j * 4) _ ((flat_at tmC_len M j 0 p hp (by omega)).trans rfl)
      · exact hcell (j * 4 + 1) _ ((flat_at tmC_len M j 1 p hp (by omega)).trans rfl)
      · exact hcell (j * 4 + 2) _ ((flat_at tmC_len M j 2 p hp (by omega)).trans rfl)
      · exact hcell (j * 4 + 3) _ ((flat_at tmC_len M j 3 p hp (by omega)).trans rfl)
theorem own_empty (X : World) (t : TypeId) (k : Nat) : (X.alloc (.cells #[] t)).ownsRow 0 t k (.slice (some ⟨X.heap.size, 0, none⟩) 0 0) 0 [] := World.ownsRow_lit X #[] 0 (Nat.zero_le _) (by unfold maxLen; omega) (by simp)
theorem own_cap {w : World} {A : Option Addr} {n c : Nat} {t : TypeId} {k : Nat} {xs : List Value} (h : w.ownsRow 0 t k (.slice A n c) n xs) : n ≤ c := by
  rcases h.2 with ⟨h1, h2⟩ | ⟨g', cap', cur, hv, _, _, hnc, _⟩
  · simp only [Value.slice.injEq] at h1
    omega
  · injection hv with _ _ hc
    subst hc
    simpa using hnc

set_option maxRecDepth 100000 in
theorem refVar_any (n : Int) (w : World) :
    Calls Tryz.prog 24 #[.int .i64 n] w fun e w' => e = .returned (.agg #[.int .i64 1, .int .i64 n, .string ⟨#[]⟩, .slice none 0 0]) ∧ Ext w w' := by
  go_enter Tryz.func24, Tryz.ntmps24
  go_wp2_with fail
  have hE := (Ext.refl w).alloc (.cells #[.int .i64 1, .int .i64 n, .string ⟨#[]⟩, .slice none 0 0] 24)
  have hB := Blk.new w 24 #[.int .i64 1, .int .i64 n, .string ⟨#[]⟩, .slice none 0 0]
  generalize w.alloc (.cells #[.int .i64 1, .int .i64 n, .string ⟨#[]⟩, .slice none 0 0] 24) = V at hE hB ⊢
  have r0 : V.cell? ⟨w.heap.size, 0, none⟩ = some (.int .i64 1) := hB.cell 0
  have r1 : V.cell? ⟨w.heap.size, 1, none⟩ = some (.int .i64 n) := hB.cell 1
  have r2 : V.cell? ⟨w.heap.size, 2, none⟩ = some (.string ⟨#[]⟩) := hB.cell 2
  have r3 : V.cell? ⟨w.heap.size, 3, none⟩ = some (.slice none 0 0) := hB.cell 3
  refine bodyPost_ret (v := .agg #[.int .i64 1, .int .i64 n, .string ⟨#[]⟩, .slice none 0 0]) (by simp [results, Tryz.results24, go_sem, r0, r1, r2, r3]) rfl ⟨rfl, hE⟩
set_option maxRecDepth 100000 in
theorem refInt_any (n : Int) (w : World) :
    Calls Tryz.prog 23 #[.int .i64 n] w fun e w' => e = .returned (.agg #[.int .i64 2, .int .i64 n, .string ⟨#[]⟩, .slice none 0 0]) ∧ Ext w w' := by
  go_enter Tryz.func23, Tryz.ntmps23
  go_wp2_with fail
  have hE := (Ext.refl w).alloc (.cells #[.int .i64 2, .int .i64 n, .string ⟨#[]⟩, .slice none 0 0] 24)
  have hB := Blk.new w 24 #[.int .i64 2, .int .i64 n, .string ⟨#[]⟩, .slice none 0 0]
  generalize w.alloc (.cells #[.int .i64 2, .int .i64 n, .string ⟨#[]⟩, .slice none 0 0] 24) = V at hE hB ⊢
  have r0 : V.cell? ⟨w.heap.size, 0, none⟩ = some (.int .i64 2) := hB.cell 0
  have r1 : V.cell? ⟨w.heap.size, 1, none⟩ = some (.int .i64 n) := hB.cell 1
  have r2 : V.cell? ⟨w.heap.size, 2, none⟩ = some (.string ⟨#[]⟩) := hB.cell 2
  have r3 : V.cell? ⟨w.heap.size, 3, none⟩ = some (.slice none 0 0) := hB.cell 3
  refine bodyPost_ret (v := .agg #[.int .i64 2, .int .i64 n, .string ⟨#[]⟩, .slice none 0 0]) (by simp [results, Tryz.results23, go_sem, r0, r1, r2, r3]) rfl ⟨rfl, hE⟩
set_option maxRecDepth 100000 in
theorem refAtom_any (s : ByteArray) (w : World) :
    Calls Tryz.prog 43 #[.string s] w fun e w' => e = .returned (.agg #[.int .i64 3, .int .i64 0, .string s, .slice none 0 0]) ∧ Ext w w' := by
  go_enter Tryz.func43, Tryz.ntmps43
  go_wp2_with fail
  have hE := (Ext.refl w).alloc (.cells #[.int .i64 3, .int .i64 0, .string s, .slice none 0 0] 24)
  have hB := Blk.new w 24 #[.int .i64 3, .int .i64 0, .string s, .slice none 0 0]
  generalize w.alloc (.cells #[.int .i64 3, .int .i64 0, .string s, .slice none 0 0] 24) = V at hE hB ⊢
  have r0 : V.cell? ⟨w.heap.size, 0, none⟩ = some (.int .i64 3) := hB.cell 0
  have r1 : V.cell? ⟨w.heap.size, 1, none⟩ = some (.int .i64 0) := hB.cell 1
  have r2 : V.cell? ⟨w.heap.size, 2, none⟩ = some (.string s) := hB.cell 2
  have r3 : V.cell? ⟨w.heap.size, 3, none⟩ = some (.slice none 0 0) := hB.cell 3
  refine bodyPost_ret (v := .agg #[.int .i64 3, .int .i64 0, .string s, .slice none 0 0]) (by simp [results, Tryz.results43, go_sem, r0, r1, r2, r3]) rfl ⟨rfl, hE⟩

set_option maxRecDepth 100000 in
set_option maxHeartbeats 4000000 in
theorem refComp_any (s : ByteArray) (M : List TmP) (A : Option Addr) (c : Nat) (w : World) (D : Nat → Prop) (hs : El.Src w A M.length 4 (flat tmC M)) (hk : ∀ p ∈ M, TmIn D w p.1 p.2.1 p.2.2) (hn : M ≠ []) (hl : M.length ≤ 1000) (hD : ∀ k, D k → k < w.heap.size) :
    Calls Tryz.prog 22 #[.string s, .slice A M.length c] w fun e w' => ∃ A' c', e = .returned (.agg #[.int .i64 4, .int .i64 0, .string s, .slice A' M.length c']) ∧ TmIn (fun k => D k ∨ (w.heap.size ≤ k ∧ k < w'.heap.size)) w' (.mk 4 0 s (M.map (·.1))) A' c' ∧ Ext w w' := by
  obtain ⟨i1, hi1, hz0, hz1, hz2⟩ := infoP tmInfo4
  have q1 : ((M.length : Int) == 0) = false := by
    have : M.length ≠ 0 := fun e => hn (List.eq_nil_of_length_eq_zero e)
    simpa using this
  have HO := Lib.hid (own_empty (w.alloc (.cells #[.int .i64 0, .int .i64 0, .string ⟨#[]⟩, .slice none 0 0] 24)) 24 4)
  rw [World.size_alloc] at HO
  have HS := Lib.hid (hs.ext (((Ext.refl w).alloc (.cells #[.int .i64 0, .int .i64 0, .string ⟨#[]⟩, .slice none 0 0] 24)).alloc (.cells #[] 24)))
  have hone : ∀ u ∈ flat tmC M, u.oneCell' = true := fun u hu => by
    obtain ⟨p, _, h⟩ := List.mem_flatMap.1 hu
    exact tmC_one p u h
  have HONE := Lib.hid hone
  have HK := Lib.hid hk
  have HD := Lib.hid hD
  clear hs hn hone hk hD
  go_enter Tryz.func22, Tryz.ntmps22
  go_wp2_with (at_builtin; refine wpList_append_src (P := Tryz.prog) rfl (.tmp 11) (.tmp 12) 22 rfl 24 i1 _ 4 56 Tryz.underlying22 hi1 hz0 hz1 hz2 rfl (by omega) (.slice (some ⟨w.heap.size + 1, 0, none⟩) 0 0) rfl _ _ _ rfl 0 [] HO.out (flat tmC M) HS.out HONE.out (by unfold maxLen; omega) (by omega) ?_; intro v3 w3 ho3 hm3 hb3; rw [Nat.zero_add, List.nil_append] at ho3; obtain ⟨A3, c3, rfl⟩ := own_value ho3; have hB3 := ((Blk.new w 24 #[.int .i64 0, .int .i64 0, .string ⟨#[]⟩, .slice none 0 0]).alloc (.cells #[] 24)).mods hm3 (by simp [ownL, Value.ownBlock]); have zc := hB3.cell; have zf := hB3.frozen; have HO3 := Lib.hid ho3; have HM3 := Lib.hid hm3; have HB3 := Lib.hid hB3; have HV3 := Lib.hid hb3; clear ho3 hm3 hB3 hb3)
  have hbf := (((HB3.out.set_ 0 (.int .i64 4)).set_ 1 (.int .i64 0)).set_ 2 (.string s)).set_ 3 (.slice A3 M.length c3)
  have hlt := HB3.out.lt
  have hown : ∀ k, (Value.slice A3 M.length c3).ownBlock = some k → w.heap.size + 1 ≤ k ∧ k < w3.heap.size := fun k e => by
    refine ⟨?_, (HO3.out.lt k e).2⟩
    rcases HV3.out with h | h
    · rw [h] at e
      simp [Value.ownBlock] at e
      omega
    · rw [h] at e
      simp [World.size_alloc] at e
      omega
  have hE3 : Ext w w3 := ext_mods (((Ext.refl w).alloc _).alloc _) HM3.out (fun k hk => by simp [ownL, Value.ownBlock] at hk; omega)
  have hno : (Value.slice A3 M.length c3).ownBlock ≠ some w.heap.size := fun e => by have := (hown _ e).1; omega
  have hO := ownsRow_setCell_other (ownsRow_setCell_other (ownsRow_setCell_other (ownsRow_setCell_other HO3.out (a := ⟨w.heap.size, 0, none⟩) hno (.int .i64 4)) (a := ⟨w.heap.size, 1, none⟩) hno (.int .i64 0)) (a := ⟨w.heap.size, 2, none⟩) hno (.string s)) (a := ⟨w.heap.size, 3, none⟩) hno (.slice A3 M.length c3)
  have hEF := (((hE3.setCell (p := ⟨w.heap.size, 0, none⟩) (by simp) (.int .i64 4)).setCell (p := ⟨w.heap.size, 1, none⟩) (by simp) (.int .i64 0)).setCell (p := ⟨w.heap.size, 2, none⟩) (by simp) (.string s)).setCell (p := ⟨w.heap.size, 3, none⟩) (by simp) (.slice A3 M.length c3)
  have hsz : ((((w3.setCell ⟨w.heap.size, 0, none⟩ (.int .i64 4)).setCell ⟨w.heap.size, 1, none⟩ (.int .i64 0)).setCell ⟨w.heap.size, 2, none⟩ (.string s)).setCell ⟨w.heap.size, 3, none⟩ (.slice A3 M.length c3)).heap.size = w3.heap.size := by simp
  generalize (((w3.setCell ⟨w.heap.size, 0, none⟩ (.int .i64 4)).setCell ⟨w.heap.size, 1, none⟩ (.int .i64 0)).setCell ⟨w.heap.size, 2, none⟩ (.string s)).setCell ⟨w.heap.size, 3, none⟩ (.slice A3 M.length c3) = VF at hbf hO hEF hsz ⊢
  have r0 : VF.cell? ⟨w.heap.size, 0, none⟩ = some (.int .i64 4) := hbf.cell 0
  have r1 : VF.cell? ⟨w.heap.size, 1, none⟩ = some (.int .i64 0) := hbf.cell 1
  have r2 : VF.cell? ⟨w.heap.size, 2, none⟩ = some (.string s) := hbf.cell 2
  have r3 : VF.cell? ⟨w.heap.size, 3, none⟩ = some (.slice A3 M.length c3) := hbf.cell 3
  refine bodyPost_ret (v := .agg #[.int .i64 4, .int .i64 0, .string s, .slice A3 M.length c3]) (by simp [results, Tryz.results22, go_sem, r0, r1, r2, r3]) rfl ⟨A3, c3, rfl, ?_, hEF⟩
  refine src_tm (Src.of_own hO) (fun p hp => ((HK.out p hp).ext hEF).mono (fun k hk => .inl hk)) (fun b off e => ?_) (own_cap hO) 4 0 s
  subst e
  have := hown b rfl
  exact .inr ⟨by omega, by omega⟩

end Go.Proofs.YtkenjhchfidpbaaGreatDoor
