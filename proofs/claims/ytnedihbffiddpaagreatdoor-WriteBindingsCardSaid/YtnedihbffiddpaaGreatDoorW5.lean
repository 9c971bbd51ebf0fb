/- Layer 6, the program: the walks of measure, Check, may. -/
import Derived.Test.YtnedihbffiddpaaGreatDoorW4
namespace Go.El
open Go.RowKit
theorem TmIn.lt {D : Nat → Prop} {w : World} {t : Tm} {A : Option Addr} {c : Nat} (h : TmIn D w t A c) : TmIn (fun k => k < w.heap.size) w t A c := by
  induction h with
  | mk k n s l A cap ch hl hr hs hc ih =>
    refine .mk k n s l A cap ch hl ih (fun hne => ?_) hc
    obtain ⟨b, off, hA, hb, hcell⟩ := hs hne
    refine ⟨b, off, hA, ?_, hcell⟩
    have h0 : 0 < l.length := List.length_pos_iff.2 hne
    exact cell_lt (hcell 0 _ _ (List.getElem?_eq_getElem h0) (List.getElem?_eq_getElem (by omega))).1
mutual
theorem dpT_le : ∀ t : Tm, dpT t ≤ szT t
  | .mk _ _ _ l => by
    have := dpL_le l
    simp only [dpT, szT]
    omega
theorem dpL_le : ∀ l : List Tm, dpL l ≤ szL l
  | [] => Nat.le_refl _
  | t :: r => by
    have := dpT_le t
    have := dpL_le r
    simp only [dpL, szL]
    omega
end
end Go.El
namespace Go.Proofs.YtnedihbffiddpaaGreatDoor
open Go.RowKit Go.El

set_option maxRecDepth 100000 in
set_option maxHeartbeats 2000000 in
theorem measure_any (t : Tm) (A : Option Addr) (c : Nat) (w : World) (D : Nat → Prop) (ht : TmIn D w t A c) (hsz : szT t ≤ 1000000000) :
    Calls Tryz.prog 41 #[tmVal t A c] w fun e w' => e = .returned (.agg (cntV (szT t) (dpT t) (!okT t))) ∧ Ext w w' := by
  have hd := dpT_le t
  have hdp := dpT_pos t
  have H := Lib.hid ht.lt
  have HC := fun W g hb hT hD => Lib.hid (countOf_any (szT t) t (Nat.le_refl _) A c W g (fun k => k < w.heap.size) 0 0 1 false hb hT hD (by omega) (by omega) (by omega) (by omega))
  unfold tmVal at HC ⊢
  generalize t.k = k at HC ⊢
  generalize t.n = n at HC ⊢
  generalize t.s = s at HC ⊢
  generalize t.l.length = m at HC ⊢
  clear ht
  go_enter Tryz.func41, Tryz.ntmps41
  go_upto_region 2 with fail
  refine wp_abs (fun V => Hid (Blk V (w.heap.size + 1 + 1) 83 (cntV 0 0 false)) ∧ Hid (Blk V (w.heap.size + 1) 83 (cntV 0 0 false)) ∧ Hid (Blk V w.heap.size 27 #[.int .i64 k, .int .i64 n, .string s, .slice A m c]) ∧ Hid (Ext w V)) ⟨?_, ?_, ((Blk.new w _ _).alloc _).alloc _, (((Ext.refl w).alloc _).alloc _).alloc _⟩ ?_
  · have := Blk.new ((w.alloc (.cells #[.int .i64 k, .int .i64 n, .string s, .slice A m c] 27)).alloc (.cells (cntV 0 0 false) 83)) 83 (cntV 0 0 false)
    rw [World.size_alloc, World.size_alloc] at this
    exact this
  · have := (Blk.new (w.alloc (.cells #[.int .i64 k, .int .i64 n, .string s, .slice A m c] 27)) 83 (cntV 0 0 false)).alloc (.cells (cntV 0 0 false) 83)
    rw [World.size_alloc] at this
    exact this
  rintro V ⟨HG, HZ, HX, HE⟩
  have x0 : V.cell? ⟨w.heap.size, 0, none⟩ = some (.int .i64 k) := HX.out.cell 0
  have x1 : V.cell? ⟨w.heap.size, 1, none⟩ = some (.int .i64 n) := HX.out.cell 1
  have x2 : V.cell? ⟨w.heap.size, 2, none⟩ = some (.string s) := HX.out.cell 2
  have x3 : V.cell? ⟨w.heap.size, 3, none⟩ = some (.slice A m c) := HX.out.cell 3
  go_upto_region 3 with (go_at_call 68; refine (HC V _ HG.out (H.out.ext HE.out) (fun k hk => by omega)).out.mono ?_; rintro e W3 ⟨rfl, h1, h2⟩; have HB := Lib.hid h1; have HM := Lib.hid h2; have HZ3 := Lib.hid (HZ.out.mods h2 (by simp)); clear h1 h2)
  generalize hP : (0 : Int) + (szT t : Int) = P0 at HB
  generalize hQ : max (0 : Int) (1 + (dpT t : Int) - 1) = Q0 at HB
  generalize hR : (false || !okT t) = R0 at HB
  have g0 : W3.cell? ⟨w.heap.size + 1 + 1, 0, none⟩ = some (.int .i64 P0) := HB.out.cell 0
  have g1 : W3.cell? ⟨w.heap.size + 1 + 1, 1, none⟩ = some (.int .i64 Q0) := HB.out.cell 1
  have g2 : W3.cell? ⟨w.heap.size + 1 + 1, 2, none⟩ = some (.bool R0) := HB.out.cell 2
  have z0 : W3.cell? ⟨w.heap.size + 1, 0, none⟩ = some (.int .i64 0) := HZ3.out.cell 0
  have z1 : W3.cell? ⟨w.heap.size + 1, 1, none⟩ = some (.int .i64 0) := HZ3.out.cell 1
  have z2 : W3.cell? ⟨w.heap.size + 1, 2, none⟩ = some (.bool false) := HZ3.out.cell 2
  have f0 := HZ3.out.frozen 0
  have f1 := HZ3.out.frozen 1
  have f2 := HZ3.out.frozen 2
  have hP2 : P0 = (szT t : Int) := by omega
  have hQ2 : Q0 = (dpT t : Int) := by omega
  have hR2 : R0 = !okT t := by rw [← hR]; rfl
  clear hP hQ hR
  have hbf := ((HZ3.out.set_ 0 (.int .i64 (szT t : Int))).set_ 1 (.int .i64 (dpT t : Int))).set_ 2 (.bool (!okT t))
  have hlt := HB.out.lt
  have hE3 : Ext w W3 := ext_mods HE.out HM.out (fun k hk => by simp at hk; omega)
  have hEF : Ext w (((W3.setCell ⟨w.heap.size + 1, 0, none⟩ (.int .i64 (szT t : Int))).setCell ⟨w.heap.size + 1, 1, none⟩ (.int .i64 (dpT t : Int))).setCell ⟨w.heap.size + 1, 2, none⟩ (.bool (!okT t))) := ((hE3.setCell (p := ⟨w.heap.size + 1, 0, none⟩) (by simp) _).setCell (p := ⟨w.heap.size + 1, 1, none⟩) (by simp) _).setCell (p := ⟨w.heap.size + 1, 2, none⟩) (by simp) _
  have HF := Lib.hid hEF
  have HBF := Lib.hid hbf
  clear hbf hE3 hEF hlt
  go_wp2_with fail
  generalize ((W3.setCell ⟨w.heap.size + 1, 0, none⟩ (.int .i64 (szT t : Int))).setCell ⟨w.heap.size + 1, 1, none⟩ (.int .i64 (dpT t : Int))).setCell ⟨w.heap.size + 1, 2, none⟩ (.bool (!okT t)) = V5 at HF HBF ⊢
  have r0 : V5.cell? ⟨w.heap.size + 1, 0, none⟩ = some (.int .i64 (szT t : Int)) := HBF.out.cell 0
  have r1 : V5.cell? ⟨w.heap.size + 1, 1, none⟩ = some (.int .i64 (dpT t : Int)) := HBF.out.cell 1
  have r2 : V5.cell? ⟨w.heap.size + 1, 2, none⟩ = some (.bool (!okT t)) := HBF.out.cell 2
  refine bodyPost_ret (v := .agg (cntV (szT t) (dpT t) (!okT t))) (by simp [results, Tryz.results41, go_sem, r0, r1, r2, cntV]) rfl ⟨rfl, HF.out⟩

set_option maxRecDepth 100000 in
set_option maxHeartbeats 2000000 in
theorem check_any (t : Tm) (A : Option Addr) (c : Nat) (w : World) (D : Nat → Prop) (ht : TmIn D w t A c) (hsz : szT t ≤ 1000000000) :
    Calls Tryz.prog 23 #[tmVal t A c] w fun e w' => e = .returned (.int .i64 (chkT t)) ∧ Ext w w' := by
  have HM := Lib.hid (measure_any t A c _ D (ht.ext (ext_box w (.cells #[.int .i64 t.k, .int .i64 t.n, .string t.s, .slice A t.l.length c] 27))) hsz)
  have HN := Lib.hid (show chkT t = (if okT t = false then 60 else if 200 < dpT t then 61 else if 4096 < szT t then 62 else 0) from rfl)
  generalize chkT t = r at HN ⊢
  unfold tmVal cntV at HM
  unfold tmVal
  generalize t.k = k at HM ⊢
  generalize t.n = n at HM ⊢
  generalize t.s = s at HM ⊢
  generalize t.l.length = m at HM ⊢
  generalize hok : okT t = ok at HM HN
  clear ht hok
  cases ok
  · rw [if_pos rfl] at HN
    simp only [Bool.not_false] at HM
    go_enter Tryz.func23, Tryz.ntmps23
    go_wp2_with (go_at_call 41; refine HM.out.mono ?_; rintro e W1 ⟨rfl, hx⟩; have HX := Lib.hid ((ext_box w _).trans hx); clear hx)
    go_ret
    exact ⟨by rw [HN.out]; rfl, HX.out.trans (ext_box _ _)⟩
  · rw [if_neg (by decide)] at HN
    simp only [Bool.not_true] at HM
    by_cases h1 : 200 < dpT t
    · rw [if_pos h1] at HN
      have q1 : 200 < (dpT t : Int) := by omega
      go_enter Tryz.func23, Tryz.ntmps23
      go_wp2_with (go_at_call 41; refine HM.out.mono ?_; rintro e W1 ⟨rfl, hx⟩; have HX := Lib.hid ((ext_box w _).trans hx); clear hx)
      go_ret
      exact ⟨by rw [HN.out]; rfl, HX.out.trans (ext_box _ _)⟩
    · rw [if_neg h1] at HN
      have q1 : ¬ 200 < (dpT t : Int) := by omega
      by_cases h2 : 4096 < szT t
      · rw [if_pos h2] at HN
        have q2 : 4096 < (szT t : Int) := by omega
        go_enter Tryz.func23, Tryz.ntmps23
        go_wp2_with (go_at_call 41; refine HM.out.mono ?_; rintro e W1 ⟨rfl, hx⟩; have HX := Lib.hid ((ext_box w _).trans hx); clear hx)
        go_ret
        exact ⟨by rw [HN.out]; rfl, HX.out.trans (ext_box _ _)⟩
      · rw [if_neg h2] at HN
        have q2 : ¬ 4096 < (szT t : Int) := by omega
        go_enter Tryz.func23, Tryz.ntmps23
        go_wp2_with (go_at_call 41; refine HM.out.mono ?_; rintro e W1 ⟨rfl, hx⟩; have HX := Lib.hid ((ext_box w _).trans hx); clear hx)
        go_ret
        exact ⟨by rw [HN.out]; rfl, HX.out.trans (ext_box _ _)⟩

set_option maxRecDepth 100000 in
set_option maxHeartbeats 2000000 in
theorem may_any (t : Tm) (A : Option Addr) (c : Nat) (w : World) (D : Nat → Prop) (ht : TmIn D w t A c) (hsz : szT t ≤ 1000000000) :
    Calls Tryz.prog 95 #[tmVal t A c] w fun e w' => e = .returned (.bool (mayT t)) ∧ Ext w w' := by
  have HM := Lib.hid (check_any t A c _ D (ht.ext (ext_box w (.cells #[.int .i64 t.k, .int .i64 t.n, .string t.s, .slice A t.l.length c] 27))) hsz)
  have hm : mayT t = (chkT t == 0) := rfl
  rw [hm]
  generalize chkT t = r at HM ⊢
  unfold tmVal at HM ⊢
  clear ht hm
  go_enter Tryz.func95, Tryz.ntmps95
  go_wp2_with (go_at_call 23; refine HM.out.mono ?_; rintro e W1 ⟨rfl, hx⟩; have HX := Lib.hid ((ext_box w _).trans hx); clear hx)
  go_ret
  exact ⟨rfl, HX.out⟩

end Go.Proofs.YtnedihbffiddpaaGreatDoor
