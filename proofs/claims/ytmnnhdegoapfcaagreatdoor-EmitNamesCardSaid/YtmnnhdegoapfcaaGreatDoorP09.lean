/- Layer 6, the program: the walks of of, measure, Check, may. -/
import Derived.Test.YtmnnhdegoapfcaaGreatDoorP08
import Derived.Test.YtmnnhdegoapfcaaGreatDoorP03
import Derived.Test.YtmnnhdegoapfcaaGreatDoorP07
import Derived.Test.YtmnnhdegoapfcaaGreatDoorP02
import Derived.Test.YtmnnhdegoapfcaaGreatDoorP01
import Derived.Laws.BytesArg
import Derived.Laws.IdiomStrings
import Derived.Lib.ConvBytes
import Derived.OwnWalk
import Derived.Deep.RegionLaw
import Derived.Lib.Hide
import Derived.Deep.RegionHeld3
namespace Go.Proofs.YtmnnhdegoapfcaaGreatDoor
open Go.RowKit Go.El
def cntV (p d : Int) (b : Bool) : Array Value := #[.int .i64 p, .int .i64 d, .bool b]
set_option maxRecDepth 100000 in
set_option maxHeartbeats 4000000 in
theorem countOf_any : ∀ (N : Nat) (t : Tm), szT t ≤ N → ∀ (A : Option Addr) (c : Nat) (w : World) (g : Nat) (D : Nat → Prop) (p d depth : Int) (b : Bool), Blk w g 196 (cntV p d b) → TmIn D w t A c → (∀ k, D k → k ≠ g) → 0 ≤ p → p + (szT t : Int) ≤ 1000000000000 → 0 ≤ depth → depth + (dpT t : Int) ≤ 1000000000000 →
  Calls Tryz.prog 184 #[.pointer (some ⟨g, 0, none⟩), tmVal t A c, .int .i64 depth] w fun e w' => e = .returned (.tuple #[]) ∧ Blk w' g 196 (cntV (p + (szT t : Int)) (max d (depth + (dpT t : Int) - 1)) (b || !okT t)) ∧ Mods [g] w w'
 | 0, t, h => by
  have := szT_pos t
  omega
 | N + 1, .mk k n s l, hN => by
  intro A c w g D p d depth b hb ht hD hp0 hp1 hd0 hd1
  have IH := countOf_any N
  simp only [szT, dpT] at hN hp1 hd1
  have b0 : w.cell? ⟨g, 0, none⟩ = some (.int .i64 p) := hb.cell 0
  have b1 : w.cell? ⟨g, 1, none⟩ = some (.int .i64 d) := hb.cell 1
  have b2 : w.cell? ⟨g, 2, none⟩ = some (.bool b) := hb.cell 2
  have f0 := hb.frozen 0
  have f1 := hb.frozen 1
  have f2 := hb.frozen 2
  have hglt : g < w.heap.size := hb.lt
  have hw1 : IntKind.i64.wrap (p + 1) = p + 1 := IntWalk.i64_in _ (by omega)
  have hw2 : IntKind.i64.wrap (depth + 1) = depth + 1 := IntWalk.i64_in _ (by omega)
  have HP := fun W => Lib.hid (part_any (.mk k n s l) A c W)
  unfold tmVal at HP ⊢
  simp only [Tm.k, Tm.n, Tm.s, Tm.l] at HP ⊢
  have H := Lib.hid ht
  have HB := Lib.hid hb
  clear hb ht
  go_enter Tryz.func184, Tryz.ntmps184
  go_upto_region 3 with fail
  have hmax : (if d < depth then depth else d) = max d depth := by rw [Int.max_def]; split <;> split <;> omega
  (try rw [hmax])
  clear hmax
  refine wp_abs (fun V => Hid (Blk V g 196 (cntV (p + 1) (max d depth) b)) ∧ Hid (Blk V w.heap.size 30 #[.int .i64 k, .int .i64 n, .string s, .slice A l.length c]) ∧ Hid (Mods [g] w V)) ⟨((HB.out.set_ 0 _).set_ 1 _).alloc _, ?_, (((Mods.refl [g] w).setCell (p := ⟨g, 0, none⟩) (.inl (by simp)) _).setCell (p := ⟨g, 1, none⟩) (.inl (by simp)) _).alloc _⟩ ?_
  ·have := Blk.new ((w.setCell ⟨g, 0, none⟩ (.int .i64 (p + 1))).setCell ⟨g, 1, none⟩ (.int .i64 (max d depth))) 30 #[.int .i64 k, .int .i64 n, .string s, .slice A l.length c]
   rw [World.size_setCell, World.size_setCell] at this
   exact this
  rintro V ⟨HB1, HX1, HM1⟩
  clear b0 b1 b2 f0 f1 f2 HB
  have x0 : V.cell? ⟨w.heap.size, 0, none⟩ = some (.int .i64 k) := HX1.out.cell 0
  have x1 : V.cell? ⟨w.heap.size, 1, none⟩ = some (.int .i64 n) := HX1.out.cell 1
  have x2 : V.cell? ⟨w.heap.size, 2, none⟩ = some (.string s) := HX1.out.cell 2
  have x3 : V.cell? ⟨w.heap.size, 3, none⟩ = some (.slice A l.length c) := HX1.out.cell 3
  have b2 : V.cell? ⟨g, 2, none⟩ = some (.bool b) := HB1.out.cell 2
  have f2 := HB1.out.frozen 2
  generalize hpk : partK k n s l.length = pk at HP
  have HPK := Lib.hid hpk
  clear hpk
  cases hb : b
  ·subst hb
   cases hpk : pk
   ·subst hpk
    go_upto_region 4 with (go_at_call 219; refine (HP _).out.mono ?_; rintro e W1 ⟨rfl, hx⟩; have g2 := HB1.out.ext hx; have f2 := g2.frozen 2; have d2 : W1.cell? ⟨g, 2, none⟩ = some (.bool false) := g2.cell 2; have HXX := Lib.hid hx; have HB2 := Lib.hid g2; clear hx g2)
    refine wp_abs (fun V2 => Hid (Blk V2 g 196 (cntV (p + 1) (max d depth) true)) ∧ Hid (Blk V2 w.heap.size 30 #[.int .i64 k, .int .i64 n, .string s, .slice A l.length c]) ∧ Hid (Mods [g] w V2)) ⟨HB2.out.set_ 2 _, (HX1.out.ext HXX.out).far (p := ⟨g, 2, none⟩) (by simp; omega) _, ((HM1.out.trans (Mods.ext HXX.out)).setCell (p := ⟨g, 2, none⟩) (.inl (by simp)) _)⟩ ?_
    rintro V2 ⟨HB3, HX3, HM3⟩
    have y3 : V2.cell? ⟨w.heap.size, 3, none⟩ = some (.slice A l.length c) := HX3.out.cell 3
    clear HP HB1 HX1 HM1 HB2 HXX f2 x0 x1 x2 x3
    go_upto_region 5 with fail
    go_loopw [39] (fun i wr => ∃ j : Nat, j ≤ l.length ∧ i = .int .i64 j ∧ Hid (Blk wr g 196 (cntV (p + 1 + (szL (l.take j) : Int)) (max d (depth + (dpL (l.take j) : Int))) true)) ∧ Hid (Mods [g] w wr)) (fun i _ => l.length - (intOf i).toNat)
    case atStart => exact ⟨0, Nat.zero_le _, rfl, Lib.hid (by simpa [szL, dpL, okL] using HB3.out), HM3.out⟩
    case round =>
     obtain ⟨j, hj, rfl, HC, HM⟩ := hrel
     by_cases hlt : j < l.length
     ·have ho : l[j]? = some l[j] := List.getElem?_eq_getElem hlt
      generalize l[j] = u at ho
      have hsz := szL_take ho
      have hdp := dpL_take ho
      have hok := okL_take ho
      have hs1 := szL_take_le l (j + 1)
      have hdl := dpL_get ho
      have hup := szT_pos u
      have hll := len_szL l
      obtain ⟨bb, off, A', c', rfl, _, hu, q0, q1, q2, q3⟩ := (TmIn.mods (D' := D) HM.out (fun k hk => by simpa using hD k hk) (fun _ h => h) H.out).child ho
      have HU := Lib.hid hu
      clear ho hu
      go_wp2_with (go_at_call 184; refine (IH u (by omega) A' c' _ g D _ _ (depth + 1) _ (HC.out.alloc _) (HU.out.ext (ext_box _ _)) hD (by omega) (by omega) (by omega) (by omega)).mono ?_; rintro e W3 ⟨rfl, h1, h2⟩; have HC3 := Lib.hid h1; have HM3' := Lib.hid h2; clear h1 h2)
      go_roundw
      case rel =>
       refine ⟨j + 1, hlt, by go_num, ?_, (HM.out.alloc _).trans HM3'.out⟩
       have h1 := HC3.out
       rw [hsz, hdp]
       (try rw [hok])
       have e1 : p + 1 + ((szL (l.take j) + szT u : Nat) : Int) = p + 1 + (szL (l.take j) : Int) + (szT u : Int) := by omega
       have e2 : max d (depth + ((max (dpL (l.take j)) (dpT u) : Nat) : Int)) = max (max d (depth + (dpL (l.take j) : Int))) (depth + 1 + (dpT u : Int) - 1) := by omega
       rw [e1, e2]
       exact Lib.hid (by simpa using h1)
      case measure => simp [intOf]; omega
     ·obtain rfl : j = l.length := by omega
      rw [List.take_length] at HC
      go_wp2_with fail
      go_end0
      refine ⟨rfl, ?_, HM.out⟩
      have h1 := HC.out
      have e1 : p + ((1 + szL l : Nat) : Int) = p + 1 + (szL l : Int) := by omega
      have e2 : depth + ((1 + dpL l : Nat) : Int) - 1 = depth + (dpL l : Int) := by omega
      simp only [szT, dpT, okT]
      rw [e1, e2, HPK.out]
      simpa using h1
   ·subst hpk
    go_upto_region 4 with (go_at_call 219; refine (HP _).out.mono ?_; rintro e W1 ⟨rfl, hx⟩; have g2 := HB1.out.ext hx; have f2 := g2.frozen 2; have d2 : W1.cell? ⟨g, 2, none⟩ = some (.bool false) := g2.cell 2; have HXX := Lib.hid hx; have HB2 := Lib.hid g2; clear hx g2)
    refine wp_abs (fun V2 => Hid (Blk V2 g 196 (cntV (p + 1) (max d depth) false)) ∧ Hid (Blk V2 w.heap.size 30 #[.int .i64 k, .int .i64 n, .string s, .slice A l.length c]) ∧ Hid (Mods [g] w V2)) ⟨HB2.out.set_ 2 _, (HX1.out.ext HXX.out).far (p := ⟨g, 2, none⟩) (by simp; omega) _, ((HM1.out.trans (Mods.ext HXX.out)).setCell (p := ⟨g, 2, none⟩) (.inl (by simp)) _)⟩ ?_
    rintro V2 ⟨HB3, HX3, HM3⟩
    have y3 : V2.cell? ⟨w.heap.size, 3, none⟩ = some (.slice A l.length c) := HX3.out.cell 3
    clear HP HB1 HX1 HM1 HB2 HXX f2 x0 x1 x2 x3
    go_upto_region 5 with fail
    go_loopw [39] (fun i wr => ∃ j : Nat, j ≤ l.length ∧ i = .int .i64 j ∧ Hid (Blk wr g 196 (cntV (p + 1 + (szL (l.take j) : Int)) (max d (depth + (dpL (l.take j) : Int))) (!okL (l.take j)))) ∧ Hid (Mods [g] w wr)) (fun i _ => l.length - (intOf i).toNat)
    case atStart => exact ⟨0, Nat.zero_le _, rfl, Lib.hid (by simpa [szL, dpL, okL] using HB3.out), HM3.out⟩
    case round =>
     obtain ⟨j, hj, rfl, HC, HM⟩ := hrel
     by_cases hlt : j < l.length
     ·have ho : l[j]? = some l[j] := List.getElem?_eq_getElem hlt
      generalize l[j] = u at ho
      have hsz := szL_take ho
      have hdp := dpL_take ho
      have hok := okL_take ho
      have hs1 := szL_take_le l (j + 1)
      have hdl := dpL_get ho
      have hup := szT_pos u
      have hll := len_szL l
      obtain ⟨bb, off, A', c', rfl, _, hu, q0, q1, q2, q3⟩ := (TmIn.mods (D' := D) HM.out (fun k hk => by simpa using hD k hk) (fun _ h => h) H.out).child ho
      have HU := Lib.hid hu
      clear ho hu
      go_wp2_with (go_at_call 184; refine (IH u (by omega) A' c' _ g D _ _ (depth + 1) _ (HC.out.alloc _) (HU.out.ext (ext_box _ _)) hD (by omega) (by omega) (by omega) (by omega)).mono ?_; rintro e W3 ⟨rfl, h1, h2⟩; have HC3 := Lib.hid h1; have HM3' := Lib.hid h2; clear h1 h2)
      go_roundw
      case rel =>
       refine ⟨j + 1, hlt, by go_num, ?_, (HM.out.alloc _).trans HM3'.out⟩
       have h1 := HC3.out
       rw [hsz, hdp]
       (try rw [hok])
       have e1 : p + 1 + ((szL (l.take j) + szT u : Nat) : Int) = p + 1 + (szL (l.take j) : Int) + (szT u : Int) := by omega
       have e2 : max d (depth + ((max (dpL (l.take j)) (dpT u) : Nat) : Int)) = max (max d (depth + (dpL (l.take j) : Int))) (depth + 1 + (dpT u : Int) - 1) := by omega
       rw [e1, e2]
       exact Lib.hid (by simpa using h1)
      case measure => simp [intOf]; omega
     ·obtain rfl : j = l.length := by omega
      rw [List.take_length] at HC
      go_wp2_with fail
      go_end0
      refine ⟨rfl, ?_, HM.out⟩
      have h1 := HC.out
      have e1 : p + ((1 + szL l : Nat) : Int) = p + 1 + (szL l : Int) := by omega
      have e2 : depth + ((1 + dpL l : Nat) : Int) - 1 = depth + (dpL l : Int) := by omega
      simp only [szT, dpT, okT]
      rw [e1, e2, HPK.out]
      simpa using h1
  ·subst hb
   go_upto_region 4 with fail
   have HXX := Lib.hid (Ext.refl V)
   have HB2 := HB1
   refine wp_abs (fun V2 => Hid (Blk V2 g 196 (cntV (p + 1) (max d depth) true)) ∧ Hid (Blk V2 w.heap.size 30 #[.int .i64 k, .int .i64 n, .string s, .slice A l.length c]) ∧ Hid (Mods [g] w V2)) ⟨HB2.out.set_ 2 _, (HX1.out.ext HXX.out).far (p := ⟨g, 2, none⟩) (by simp; omega) _, ((HM1.out.trans (Mods.ext HXX.out)).setCell (p := ⟨g, 2, none⟩) (.inl (by simp)) _)⟩ ?_
   rintro V2 ⟨HB3, HX3, HM3⟩
   have y3 : V2.cell? ⟨w.heap.size, 3, none⟩ = some (.slice A l.length c) := HX3.out.cell 3
   clear HP HB1 HX1 HM1 HB2 HXX f2 x0 x1 x2 x3
   go_upto_region 5 with fail
   go_loopw [39] (fun i wr => ∃ j : Nat, j ≤ l.length ∧ i = .int .i64 j ∧ Hid (Blk wr g 196 (cntV (p + 1 + (szL (l.take j) : Int)) (max d (depth + (dpL (l.take j) : Int))) true)) ∧ Hid (Mods [g] w wr)) (fun i _ => l.length - (intOf i).toNat)
   case atStart => exact ⟨0, Nat.zero_le _, rfl, Lib.hid (by simpa [szL, dpL, okL] using HB3.out), HM3.out⟩
   case round =>
    obtain ⟨j, hj, rfl, HC, HM⟩ := hrel
    by_cases hlt : j < l.length
    ·have ho : l[j]? = some l[j] := List.getElem?_eq_getElem hlt
     generalize l[j] = u at ho
     have hsz := szL_take ho
     have hdp := dpL_take ho
     have hok := okL_take ho
     have hs1 := szL_take_le l (j + 1)
     have hdl := dpL_get ho
     have hup := szT_pos u
     have hll := len_szL l
     obtain ⟨bb, off, A', c', rfl, _, hu, q0, q1, q2, q3⟩ := (TmIn.mods (D' := D) HM.out (fun k hk => by simpa using hD k hk) (fun _ h => h) H.out).child ho
     have HU := Lib.hid hu
     clear ho hu
     go_wp2_with (go_at_call 184; refine (IH u (by omega) A' c' _ g D _ _ (depth + 1) _ (HC.out.alloc _) (HU.out.ext (ext_box _ _)) hD (by omega) (by omega) (by omega) (by omega)).mono ?_; rintro e W3 ⟨rfl, h1, h2⟩; have HC3 := Lib.hid h1; have HM3' := Lib.hid h2; clear h1 h2)
     go_roundw
     case rel =>
      refine ⟨j + 1, hlt, by go_num, ?_, (HM.out.alloc _).trans HM3'.out⟩
      have h1 := HC3.out
      rw [hsz, hdp]
      (try rw [hok])
      have e1 : p + 1 + ((szL (l.take j) + szT u : Nat) : Int) = p + 1 + (szL (l.take j) : Int) + (szT u : Int) := by omega
      have e2 : max d (depth + ((max (dpL (l.take j)) (dpT u) : Nat) : Int)) = max (max d (depth + (dpL (l.take j) : Int))) (depth + 1 + (dpT u : Int) - 1) := by omega
      rw [e1, e2]
      exact Lib.hid (by simpa using h1)
     case measure => simp [intOf]; omega
    ·obtain rfl : j = l.length := by omega
     rw [List.take_length] at HC
     go_wp2_with fail
     go_end0
     refine ⟨rfl, ?_, HM.out⟩
     have h1 := HC.out
     have e1 : p + ((1 + szL l : Nat) : Int) = p + 1 + (szL l : Int) := by omega
     have e2 : depth + ((1 + dpL l : Nat) : Int) - 1 = depth + (dpL l : Int) := by omega
     simp only [szT, dpT, okT]
     rw [e1, e2]
     simpa using h1
end Go.Proofs.YtmnnhdegoapfcaaGreatDoor

/- Layer 6, the program: the walks of measure, Check, may. -/
namespace Go.El
open Go.RowKit
theorem TmIn.lt {D : Nat → Prop} {w : World} {t : Tm} {A : Option Addr} {c : Nat} (h : TmIn D w t A c) : TmIn (fun k => k < w.heap.size) w t A c := by
 induction h with
 | mk k n s l A cap ch hl hr hs hc ih =>
  refine .mk k n s l A cap ch hl ih (fun hne => ?_) hc
  obtain ⟨b, off, hA, hb, hcell⟩ := hs hne
  refine ⟨b, off, hA, ?_, hcell⟩
  have h0 : 0 < l.length := List.length_pos_iff.2 hne
  exact cell_lt (hcell 0 _ _ (List.getElem?_eq_getElem h0) (List.getElem?_eq_getElem (by omega))).1
mutual
theorem dpT_le : ∀ t : Tm, dpT t ≤ szT t
 | .mk _ _ _ l => by
  have := dpL_le l
  simp only [dpT, szT]
  omega
theorem dpL_le : ∀ l : List Tm, dpL l ≤ szL l
 | [] => Nat.le_refl _
 | t :: r => by
  have := dpT_le t
  have := dpL_le r
  simp only [dpL, szL]
  omega
end
end Go.El
namespace Go.Proofs.YtmnnhdegoapfcaaGreatDoor
open Go.RowKit Go.El
set_option maxRecDepth 100000 in
set_option maxHeartbeats 2000000 in
theorem measure_any (t : Tm) (A : Option Addr) (c : Nat) (w : World) (D : Nat → Prop) (ht : TmIn D w t A c) (hsz : szT t ≤ 1000000000) :
  Calls Tryz.prog 154 #[tmVal t A c] w fun e w' => e = .returned (.agg (cntV (szT t) (dpT t) (!okT t))) ∧ Ext w w' := by
 have hd := dpT_le t
 have hdp := dpT_pos t
 have H := Lib.hid ht.lt
 have HC := fun W g hb hT hD => Lib.hid (countOf_any (szT t) t (Nat.le_refl _) A c W g (fun k => k < w.heap.size) 0 0 1 false hb hT hD (by omega) (by omega) (by omega) (by omega))
 unfold tmVal at HC ⊢
 generalize t.k = k at HC ⊢
 generalize t.n = n at HC ⊢
 generalize t.s = s at HC ⊢
 generalize t.l.length = m at HC ⊢
 clear ht
 go_enter Tryz.func154, Tryz.ntmps154
 go_upto_region 2 with fail
 refine wp_abs (fun V => Hid (Blk V (w.heap.size + 1 + 1) 196 (cntV 0 0 false)) ∧ Hid (Blk V (w.heap.size + 1) 196 (cntV 0 0 false)) ∧ Hid (Blk V w.heap.size 30 #[.int .i64 k, .int .i64 n, .string s, .slice A m c]) ∧ Hid (Ext w V)) ⟨?_, ?_, ((Blk.new w _ _).alloc _).alloc _, (((Ext.refl w).alloc _).alloc _).alloc _⟩ ?_
 ·have := Blk.new ((w.alloc (.cells #[.int .i64 k, .int .i64 n, .string s, .slice A m c] 30)).alloc (.cells (cntV 0 0 false) 196)) 196 (cntV 0 0 false)
  rw [World.size_alloc, World.size_alloc] at this
  exact this
 ·have := (Blk.new (w.alloc (.cells #[.int .i64 k, .int .i64 n, .string s, .slice A m c] 30)) 196 (cntV 0 0 false)).alloc (.cells (cntV 0 0 false) 196)
  rw [World.size_alloc] at this
  exact this
 rintro V ⟨HG, HZ, HX, HE⟩
 have x0 : V.cell? ⟨w.heap.size, 0, none⟩ = some (.int .i64 k) := HX.out.cell 0
 have x1 : V.cell? ⟨w.heap.size, 1, none⟩ = some (.int .i64 n) := HX.out.cell 1
 have x2 : V.cell? ⟨w.heap.size, 2, none⟩ = some (.string s) := HX.out.cell 2
 have x3 : V.cell? ⟨w.heap.size, 3, none⟩ = some (.slice A m c) := HX.out.cell 3
 go_upto_region 3 with (go_at_call 184; refine (HC V _ HG.out (H.out.ext HE.out) (fun k hk => by omega)).out.mono ?_; rintro e W3 ⟨rfl, h1, h2⟩; have HB := Lib.hid h1; have HM := Lib.hid h2; have HZ3 := Lib.hid (HZ.out.mods h2 (by simp)); clear h1 h2)
 generalize hP : (0 : Int) + (szT t : Int) = P0 at HB
 generalize hQ : max (0 : Int) (1 + (dpT t : Int) - 1) = Q0 at HB
 generalize hR : (false || !okT t) = R0 at HB
 have g0 : W3.cell? ⟨w.heap.size + 1 + 1, 0, none⟩ = some (.int .i64 P0) := HB.out.cell 0
 have g1 : W3.cell? ⟨w.heap.size + 1 + 1, 1, none⟩ = some (.int .i64 Q0) := HB.out.cell 1
 have g2 : W3.cell? ⟨w.heap.size + 1 + 1, 2, none⟩ = some (.bool R0) := HB.out.cell 2
 have z0 : W3.cell? ⟨w.heap.size + 1, 0, none⟩ = some (.int .i64 0) := HZ3.out.cell 0
 have z1 : W3.cell? ⟨w.heap.size + 1, 1, none⟩ = some (.int .i64 0) := HZ3.out.cell 1
 have z2 : W3.cell? ⟨w.heap.size + 1, 2, none⟩ = some (.bool false) := HZ3.out.cell 2
 have f0 := HZ3.out.frozen 0
 have f1 := HZ3.out.frozen 1
 have f2 := HZ3.out.frozen 2
 have hP2 : P0 = (szT t : Int) := by omega
 have hQ2 : Q0 = (dpT t : Int) := by omega
 have hR2 : R0 = !okT t := by rw [← hR]; rfl
 clear hP hQ hR
 have hbf := ((HZ3.out.set_ 0 (.int .i64 (szT t : Int))).set_ 1 (.int .i64 (dpT t : Int))).set_ 2 (.bool (!okT t))
 have hlt := HB.out.lt
 have hE3 : Ext w W3 := ext_mods HE.out HM.out (fun k hk => by simp at hk; omega)
 have hEF : Ext w (((W3.setCell ⟨w.heap.size + 1, 0, none⟩ (.int .i64 (szT t : Int))).setCell ⟨w.heap.size + 1, 1, none⟩ (.int .i64 (dpT t : Int))).setCell ⟨w.heap.size + 1, 2, none⟩ (.bool (!okT t))) := ((hE3.setCell (p := ⟨w.heap.size + 1, 0, none⟩) (by simp) _).setCell (p := ⟨w.heap.size + 1, 1, none⟩) (by simp) _).setCell (p := ⟨w.heap.size + 1, 2, none⟩) (by simp) _
 have HF := Lib.hid hEF
 have HBF := Lib.hid hbf
 clear hbf hE3 hEF hlt
 go_wp2_with fail
 generalize ((W3.setCell ⟨w.heap.size + 1, 0, none⟩ (.int .i64 (szT t : Int))).setCell ⟨w.heap.size + 1, 1, none⟩ (.int .i64 (dpT t : Int))).setCell ⟨w.heap.size + 1, 2, none⟩ (.bool (!okT t)) = V5 at HF HBF ⊢
 have r0 : V5.cell? ⟨w.heap.size + 1, 0, none⟩ = some (.int .i64 (szT t : Int)) := HBF.out.cell 0
 have r1 : V5.cell? ⟨w.heap.size + 1, 1, none⟩ = some (.int .i64 (dpT t : Int)) := HBF.out.cell 1
 have r2 : V5.cell? ⟨w.heap.size + 1, 2, none⟩ = some (.bool (!okT t)) := HBF.out.cell 2
 refine bodyPost_ret (v := .agg (cntV (szT t) (dpT t) (!okT t))) (by simp [results, Tryz.results154, go_sem, r0, r1, r2, cntV]) rfl ⟨rfl, HF.out⟩
set_option maxRecDepth 100000 in
set_option maxHeartbeats 2000000 in
theorem check_any (t : Tm) (A : Option Addr) (c : Nat) (w : World) (D : Nat → Prop) (ht : TmIn D w t A c) (hsz : szT t ≤ 1000000000) :
  Calls Tryz.prog 118 #[tmVal t A c] w fun e w' => e = .returned (.int .i64 (chkT t)) ∧ Ext w w' := by
 have HM := Lib.hid (measure_any t A c _ D (ht.ext (ext_box w (.cells #[.int .i64 t.k, .int .i64 t.n, .string t.s, .slice A t.l.length c] 30))) hsz)
 have HN := Lib.hid (show chkT t = (if okT t = false then 60 else if 200 < dpT t then 61 else if 4096 < szT t then 62 else 0) from rfl)
 generalize chkT t = r at HN ⊢
 unfold tmVal cntV at HM
 unfold tmVal
 generalize t.k = k at HM ⊢
 generalize t.n = n at HM ⊢
 generalize t.s = s at HM ⊢
 generalize t.l.length = m at HM ⊢
 generalize hok : okT t = ok at HM HN
 clear ht hok
 cases ok
 ·rw [if_pos rfl] at HN
  simp only [Bool.not_false] at HM
  go_enter Tryz.func118, Tryz.ntmps118
  go_wp2_with (go_at_call 154; refine HM.out.mono ?_; rintro e W1 ⟨rfl, hx⟩; have HX := Lib.hid ((ext_box w _).trans hx); clear hx)
  go_ret
  exact ⟨by rw [HN.out]; rfl, HX.out.trans (ext_box _ _)⟩
 ·rw [if_neg (by decide)] at HN
  simp only [Bool.not_true] at HM
  by_cases h1 : 200 < dpT t
  ·rw [if_pos h1] at HN
   have q1 : 200 < (dpT t : Int) := by omega
   go_enter Tryz.func118, Tryz.ntmps118
   go_wp2_with (go_at_call 154; refine HM.out.mono ?_; rintro e W1 ⟨rfl, hx⟩; have HX := Lib.hid ((ext_box w _).trans hx); clear hx)
   go_ret
   exact ⟨by rw [HN.out]; rfl, HX.out.trans (ext_box _ _)⟩
  ·rw [if_neg h1] at HN
   have q1 : ¬ 200 < (dpT t : Int) := by omega
   by_cases h2 : 4096 < szT t
   ·rw [if_pos h2] at HN
    have q2 : 4096 < (szT t : Int) := by omega
    go_enter Tryz.func118, Tryz.ntmps118
    go_wp2_with (go_at_call 154; refine HM.out.mono ?_; rintro e W1 ⟨rfl, hx⟩; have HX := Lib.hid ((ext_box w _).trans hx); clear hx)
    go_ret
    exact ⟨by rw [HN.out]; rfl, HX.out.trans (ext_box _ _)⟩
   ·rw [if_neg h2] at HN
    have q2 : ¬ 4096 < (szT t : Int) := by omega
    go_enter Tryz.func118, Tryz.ntmps118
    go_wp2_with (go_at_call 154; refine HM.out.mono ?_; rintro e W1 ⟨rfl, hx⟩; have HX := Lib.hid ((ext_box w _).trans hx); clear hx)
    go_ret
    exact ⟨by rw [HN.out]; rfl, HX.out.trans (ext_box _ _)⟩
set_option maxRecDepth 100000 in
set_option maxHeartbeats 2000000 in
theorem may_any (t : Tm) (A : Option Addr) (c : Nat) (w : World) (D : Nat → Prop) (ht : TmIn D w t A c) (hsz : szT t ≤ 1000000000) :
  Calls Tryz.prog 156 #[tmVal t A c] w fun e w' => e = .returned (.bool (mayT t)) ∧ Ext w w' := by
 have HM := Lib.hid (check_any t A c _ D (ht.ext (ext_box w (.cells #[.int .i64 t.k, .int .i64 t.n, .string t.s, .slice A t.l.length c] 30))) hsz)
 have hm : mayT t = (chkT t == 0) := rfl
 rw [hm]
 generalize chkT t = r at HM ⊢
 unfold tmVal at HM ⊢
 clear ht hm
 go_enter Tryz.func156, Tryz.ntmps156
 go_wp2_with (go_at_call 118; refine HM.out.mono ?_; rintro e W1 ⟨rfl, hx⟩; have HX := Lib.hid ((ext_box w _).trans hx); clear hx)
 go_ret
 exact ⟨rfl, HX.out⟩
end Go.Proofs.YtmnnhdegoapfcaaGreatDoor

/- Rows of terms that a call gathers. -/
namespace Go.El
open Go.RowKit
abbrev TmP := Tm × Option Addr × Nat
def tmC (p : TmP) : List Value := [.int .i64 p.1.k, .int .i64 p.1.n, .string p.1.s, .slice p.2.1 p.1.l.length p.2.2]
theorem tmC_len (p : TmP) : (tmC p).length = 4 := rfl
theorem tmC_one (p : TmP) : ∀ u ∈ tmC p, u.oneCell' = true := by
 intro u hu
 simp only [tmC, List.mem_cons, List.not_mem_nil, or_false] at hu
 rcases hu with rfl | rfl | rfl | rfl <;> rfl
structure RowT (X : World) (lo : Nat) (wr : World) (v : Value) (M : List TmP) : Prop where
 own : wr.ownsRow 0 30 4 v M.length (flat tmC M)
 kid : ∀ p ∈ M, TmIn (fun k => lo ≤ k ∧ v.ownBlock ≠ some k ∧ k < wr.heap.size) wr p.1 p.2.1 p.2.2
 far : ∀ k, v.ownBlock = some k → lo ≤ k
 ext : Ext X wr
 xlo : X.heap.size ≤ lo
 low : lo ≤ wr.heap.size
theorem RowT.start {X wr : World} (h : Ext X wr) : RowT X wr.heap.size wr (.slice none 0 0) [] :=
 ⟨World.ownsRow_nil _ _ _ _, fun p hp => by simp at hp, fun k hk => by simp [Value.ownBlock] at hk, h, h.size, Nat.le_refl _⟩
theorem RowT.ng {X wr : World} {lo : Nat} {v : Value} {M : List TmP} (h : RowT X lo wr v M) {g : Nat} (hg : g < lo) : v.ownBlock ≠ some g := fun e => by have := h.far g e; omega
theorem RowT.no {X wr : World} {lo : Nat} {v : Value} {M : List TmP} (h : RowT X lo wr v M) {g : Nat} (hg : g < lo) : g ∉ ownL v := fun e => h.ng hg (by simpa [ownL] using e)
theorem RowT.go {X wr w' : World} {lo : Nat} {v : Value} {M : List TmP} (h : RowT X lo wr v M) (x : Ext wr w') : RowT X lo w' v M :=
 ⟨own_ext h.own x, fun p hp => ((h.kid p hp).ext x).mono (fun _ hk => ⟨hk.1, hk.2.1, Nat.lt_of_lt_of_le hk.2.2 x.size⟩), h.far, h.ext.trans x, h.xlo, Nat.le_trans h.low x.size⟩
theorem RowT.set_ {X wr : World} {lo : Nat} {v : Value} {M : List TmP} (h : RowT X lo wr v M) {g : Nat} (hx : X.heap.size ≤ g) (hg : g < lo) (i : Nat) (u : Value) : RowT X lo (wr.setCell ⟨g, i, none⟩ u) v M := by
 refine ⟨ownsRow_setCell_other h.own (h.ng hg) u, fun p hp => ?_, h.far, h.ext.setCell (p := ⟨g, i, none⟩) hx u, h.xlo, by simpa using h.low⟩
 exact TmIn.mods (S := [g]) ((Mods.refl [g] wr).setCell (p := ⟨g, i, none⟩) (.inl (by simp)) u) (fun k hk => by simp; omega) (fun k hk => ⟨hk.1, hk.2.1, by simpa using hk.2.2⟩) (h.kid p hp)
theorem RowT.step {X wr V w' : World} {lo : Nat} {v v' : Value} {M : List TmP} {p : TmP} (h : RowT X lo wr v M) (x : Ext wr V) (hp : TmIn (fun k => lo ≤ k ∧ v.ownBlock ≠ some k ∧ k < V.heap.size) V p.1 p.2.1 p.2.2)
  (ho : w'.ownsRow 0 30 4 v' (M.length + 1) (flat tmC M ++ tmC p)) (hm : Mods (ownL v) V w') (hb : v'.ownBlock = v.ownBlock ∨ v'.ownBlock = some V.heap.size) : RowT X lo w' v' (M ++ [p]) := by
 have hV := h.go x
 have hD : ∀ k, (lo ≤ k ∧ v.ownBlock ≠ some k ∧ k < V.heap.size) → k ∉ ownL v := fun k hk hm => hk.2.1 (by simpa [ownL] using hm)
 have hD2 : ∀ k, (lo ≤ k ∧ v.ownBlock ≠ some k ∧ k < V.heap.size) → (lo ≤ k ∧ v'.ownBlock ≠ some k ∧ k < w'.heap.size) := fun k hk => by
  refine ⟨hk.1, fun e => ?_, Nat.lt_of_lt_of_le hk.2.2 hm.size⟩
  rcases hb with hb | hb
  ·exact hk.2.1 (hb.symm.trans e)
  ·have e1 := hb.symm.trans e
   injection e1 with e1
   have := hk.2.2
   omega
 refine ⟨?_, fun q hq => ?_, fun k e => ?_, ?_, h.xlo, Nat.le_trans hV.low hm.size⟩
 ·rw [List.length_append, flat_append]
  simpa [flat] using ho
 ·rcases List.mem_append.1 hq with hq | hq
  ·exact TmIn.mods hm hD hD2 (hV.kid q hq)
  ·simp at hq
   subst hq
   exact TmIn.mods hm hD hD2 hp
 ·rcases hb with hb | hb
  ·exact h.far k (hb.symm.trans e)
  ·have e1 := hb.symm.trans e
   injection e1 with e1
   have := hV.low
   omega
 ·exact (Mods.step (S := []) (Mods.ext hV.ext) hm (fun k hk => .inr (Nat.le_trans h.xlo (h.far k (by simpa [ownL] using hk))))).toExt (by simp)
theorem RowT.done {X wr : World} {lo : Nat} {v : Value} {M : List TmP} (h : RowT X lo wr v M) (k n : Int) (s : ByteArray) : ∃ A c, v = .slice A M.length c ∧ TmIn (fun i => lo ≤ i ∧ i < wr.heap.size) wr (.mk k n s (M.map (·.1))) A c := by
 obtain ⟨A, c, rfl⟩ := own_value h.own
 refine ⟨A, c, rfl, ?_⟩
 have hc : (M.map (·.1)).length ≤ c := by
  rcases h.own.2 with ⟨h1, h2⟩ | ⟨g', cap', cur, hv, _, _, hnc, _⟩
  ·simp only [Value.slice.injEq] at h1
   simp
   omega
  ·injection hv with _ _ hc
   subst hc
   simpa using hnc
 refine .mk k n s _ A c (M.map (·.2)) (by simp) (fun j t q ht hq => ?_) (fun hne => ?_) hc
 ·rw [List.getElem?_map] at ht hq
  cases hp : M[j]? with
  | none => rw [hp] at ht; simp at ht
  | some p =>
   rw [hp] at ht hq
   simp at ht hq
   subst ht hq
   exact (h.kid p (List.mem_of_getElem? hp)).mono (fun i hi => ⟨hi.1, hi.2.2⟩)
 ·have hlen : 0 < M.length := by
   rcases M with _ | ⟨p, M⟩
   ·simp at hne
   ·simp
  obtain ⟨b, off, rfl, hcell⟩ := Src.form (Src.of_own h.own) hlen (by omega)
  have hb0 : (Value.slice (some ⟨b, off, none⟩) M.length c).ownBlock = some b := rfl
  refine ⟨b, off, rfl, ⟨h.far b hb0, (h.own.lt b hb0).2⟩, fun j t q ht hq => ?_⟩
  rw [List.getElem?_map] at ht hq
  cases hp : M[j]? with
  | none => rw [hp] at ht; simp at ht
  | some p =>
   rw [hp] at ht hq
   simp at ht hq
   subst ht hq
   refine ⟨?_, ?_, ?_, ?_⟩
   ·exact hcell (j * 4) _ ((flat_at tmC_len M j 0 p hp (by omega)).trans rfl)
   ·exact hcell (j * 4 + 1) _ ((flat_at tmC_len M j 1 p hp (by omega)).trans rfl)
   ·exact hcell (j * 4 + 2) _ ((flat_at tmC_len M j 2 p hp (by omega)).trans rfl)
   ·exact hcell (j * 4 + 3) _ ((flat_at tmC_len M j 3 p hp (by omega)).trans rfl)
end Go.El

/- Layer 6, the program: the walks of Var, build (of Var), Clone. -/
namespace Go.Proofs.YtmnnhdegoapfcaaGreatDoor
open Go.RowKit Go.El
set_option maxRecDepth 100000 in
theorem var_any (n : Int) (w : World) :
  Calls Tryz.prog 220 #[.int .i64 n] w fun e w' => e = .returned (.agg #[.int .i64 1, .int .i64 n, .string ⟨#[]⟩, .slice none 0 0]) ∧ Ext w w' := by
 go_enter Tryz.func220, Tryz.ntmps220
 go_wp2_with fail
 have hE := (Ext.refl w).alloc (.cells #[.int .i64 1, .int .i64 n, .string ⟨#[]⟩, .slice none 0 0] 30)
 have hB := Blk.new w 30 #[.int .i64 1, .int .i64 n, .string ⟨#[]⟩, .slice none 0 0]
 generalize w.alloc (.cells #[.int .i64 1, .int .i64 n, .string ⟨#[]⟩, .slice none 0 0] 30) = V at hE hB ⊢
 have r0 : V.cell? ⟨w.heap.size, 0, none⟩ = some (.int .i64 1) := hB.cell 0
 have r1 : V.cell? ⟨w.heap.size, 1, none⟩ = some (.int .i64 n) := hB.cell 1
 have r2 : V.cell? ⟨w.heap.size, 2, none⟩ = some (.string ⟨#[]⟩) := hB.cell 2
 have r3 : V.cell? ⟨w.heap.size, 3, none⟩ = some (.slice none 0 0) := hB.cell 3
 refine bodyPost_ret (v := .agg #[.int .i64 1, .int .i64 n, .string ⟨#[]⟩, .slice none 0 0]) (by simp [results, Tryz.results220, go_sem, r0, r1, r2, r3]) rfl ⟨rfl, hE⟩
theorem blk3 {w : World} {t : TypeId} {cs cs2 cs3 : Array Value} : Blk (((w.alloc (.cells cs t)).alloc (.cells cs2 t)).alloc (.cells cs3 t)) (w.heap.size + 1 + 1) t cs3 := by
 have := Blk.new ((w.alloc (.cells cs t)).alloc (.cells cs2 t)) t cs3
 rw [World.size_alloc, World.size_alloc] at this
 exact this
theorem blk2 {w : World} {t : TypeId} {cs cs2 cs3 : Array Value} : Blk (((w.alloc (.cells cs t)).alloc (.cells cs2 t)).alloc (.cells cs3 t)) (w.heap.size + 1) t cs2 := by
 have := (Blk.new (w.alloc (.cells cs t)) t cs2).alloc (.cells cs3 t)
 rw [World.size_alloc] at this
 exact this
theorem tmInfo4 : (Tryz.prog.info? 30).map (fun i => (i.zero, i.size, i.bytes)) = some (some (.agg #[.int .i64 0, .int .i64 0, .string ⟨#[]⟩, .slice none 0 0]), 4, 56) := by kernel_rfl
theorem kid_new {X wr W W2 : World} {lo : Nat} {v : Value} {M : List TmP} {u : Tm} {A : Option Addr} {c : Nat} {o : Obj} (h : RowT X lo wr v M) (hE : Ext wr W) (ht : TmIn (fun k => W.drew.heap.size ≤ k ∧ k < W2.heap.size) W2 u A c) : TmIn (fun k => lo ≤ k ∧ v.ownBlock ≠ some k ∧ k < (W2.alloc o).heap.size) (W2.alloc o) u A c := by
 refine (ht.ext (ext_box W2 o)).mono (fun k hk => ?_)
 have h1 : W.heap.size ≤ k := hk.1
 have h2 := hE.size
 have h3 := h.low
 refine ⟨by omega, fun e => ?_, ?_⟩
 ·have := (h.own.lt k e).2
  omega
 ·rw [World.size_alloc]
  have := hk.2
  omega
end Go.Proofs.YtmnnhdegoapfcaaGreatDoor
