/- Layer 6, the program: the walks of of, measure, Check, may. -/
import Derived.Test.YtkenjhchfidpbaaGreatDoorC37
namespace Go.Proofs.YtkenjhchfidpbaaGreatDoor
open Go.RowKit Go.El

/-- What is counted of a term. -/
def cntV (p d : Int) (b : Bool) : Array Value := #[.int .i64 p, .int .i64 d, .bool b]

set_option maxRecDepth 100000 in
set_option maxHeartbeats 4000000 in
theorem countOf_any : ∀ (N : Nat) (t : Tm), szT t ≤ N → ∀ (A : Option Addr) (c : Nat) (w : World) (g : Nat) (D : Nat → Prop) (p d depth : Int) (b : Bool), Blk w g 131 (cntV p d b) → TmIn D w t A c → (∀ k, D k → k ≠ g) → 0 ≤ p → p + (szT t : Int) ≤ 1000000000000 → 0 ≤ depth → depth + (dpT t : Int) ≤ 1000000000000 →
    Calls Tryz.prog 103 #[.pointer (some ⟨g, 0, none⟩), tmVal t A c, .int .i64 depth] w fun e w' => e = .returned (.tuple #[]) ∧ Blk w' g 131 (cntV (p + (szT t : Int)) (max d (depth + (dpT t : Int) - 1)) (b || !okT t)) ∧ Mods [g] w w'
  | 0, t, h => by
    have := szT_pos t
    omega
  | N + 1, .mk k n s l, hN => by
    intro A c w g D p d depth b hb ht hD hp0 hp1 hd0 hd1
    have IH := countOf_any N
    simp only [szT, dpT] at hN hp1 hd1
    have b0 : w.cell? ⟨g, 0, none⟩ = some (.int .i64 p) := hb.cell 0
    have b1 : w.cell? ⟨g, 1, none⟩ = some (.int .i64 d) := hb.cell 1
    have b2 : w.cell? ⟨g, 2, none⟩ = some (.bool b) := hb.cell 2
    have f0 := hb.frozen 0
    have f1 := hb.frozen 1
    have f2 := hb.frozen 2
    have hglt : g < w.heap.size := hb.lt
    have hw1 : IntKind.i64.wrap (p + 1) = p + 1 := IntWalk.i64_in _ (by omega)
    have hw2 : IntKind.i64.wrap (depth + 1) = depth + 1 := IntWalk.i64_in _ (by omega)
    have HP := fun W => Lib.hid (part_any (.mk k n s l) A c W)
    unfold tmVal at HP ⊢
    simp only [Tm.k, Tm.n, Tm.s, Tm.l] at HP ⊢
    have H := Lib.hid ht
    have HB := Lib.hid hb
    clear hb ht
    go_enter Tryz.func103, Tryz.ntmps103
    go_upto_region 3 with fail
    have hmax : (if d < depth then depth else d) = max d depth := by rw [Int.max_def]; split <;> split <;> omega
    (try rw [hmax])
    clear hmax
    refine wp_abs (fun V => Hid (Blk V g 131 (cntV (p + 1) (max d depth) b)) ∧ Hid (Blk V w.heap.size 24 #[.int .i64 k, .int .i64 n, .string s, .slice A l.length c]) ∧ Hid (Mods [g] w V)) ⟨((HB.out.set_ 0 _).set_ 1 _).alloc _, ?_, (((Mods.refl [g] w).setCell (p := ⟨g, 0, none⟩) (.inl (by simp)) _).setCell (p := ⟨g, 1, none⟩) (.inl (by simp)) _).alloc _⟩ ?_
    · have := Blk.new ((w.setCell ⟨g, 0, none⟩ (.int .i64 (p + 1))).setCell ⟨g, 1, none⟩ (.int .i64 (max d depth))) 24 #[.int .i64 k, .int .i64 n, .string s, .slice A l.length c]
      rw [World.size_setCell, World.size_setCell] at this
      exact this
    rintro V ⟨HB1, HX1, HM1⟩
    clear b0 b1 b2 f0 f1 f2 HB
    have x0 : V.cell? ⟨w.heap.size, 0, none⟩ = some (.int .i64 k) := HX1.out.cell 0
    have x1 : V.cell? ⟨w.heap.size, 1, none⟩ = some (.int .i64 n) := HX1.out.cell 1
    have x2 : V.cell? ⟨w.heap.size, 2, none⟩ = some (.string s) := HX1.out.cell 2
    have x3 : V.cell? ⟨w.heap.size, 3, none⟩ = some (.slice A l.length c) := HX1.out.cell 3
    have b2 : V.cell? ⟨g, 2, none⟩ = some (.bool b) := HB1.out.cell 2
    have f2 := HB1.out.frozen 2
    generalize hpk : partK k n s l.length = pk at HP
    have HPK := Lib.hid hpk
    clear hpk
    cases hb : b
    · subst hb
      cases hpk : pk
      · subst hpk
        go_upto_region 4 with (go_at_call 175; refine (HP _).out.mono ?_; rintro e W1 ⟨rfl, hx⟩; have g2 := HB1.out.ext hx; have f2 := g2.frozen 2; have d2 : W1.cell? ⟨g, 2, none⟩ = some (.bool false) := g2.cell 2; have HXX := Lib.hid hx; have HB2 := Lib.hid g2; clear hx g2)
        refine wp_abs (fun V2 => Hid (Blk V2 g 131 (cntV (p + 1) (max d depth) true)) ∧ Hid (Blk V2 w.heap.size 24 #[.int .i64 k, .int .i64 n, .string s, .slice A l.length c]) ∧ Hid (Mods [g] w V2)) ⟨HB2.out.set_ 2 _, (HX1.out.ext HXX.out).far (p := ⟨g, 2, none⟩) (by simp; omega) _, ((HM1.out.trans (Mods.ext HXX.out)).setCell (p := ⟨g, 2, none⟩) (.inl (by simp)) _)⟩ ?_
        rintro V2 ⟨HB3, HX3, HM3⟩
        have y3 : V2.cell? ⟨w.heap.size, 3, none⟩ = some (.slice A l.length c) := HX3.out.cell 3
        clear HP HB1 HX1 HM1 HB2 HXX f2 x0 x1 x2 x3
        go_upto_region 5 with fail
        go_loopw [39] (fun i wr => ∃ j : Nat, j ≤ l.length ∧ i = .int .i64 j ∧ Hid (Blk wr g 131 (cntV (p + 1 + (szL (l.take j) : Int)) (max d (depth + (dpL (l.take j) : Int))) true)) ∧ Hid (Mods [g] w wr)) (fun i _ => l.length - (intOf i).toNat)
        case atStart => exact ⟨0, Nat.zero_le _, rfl, Lib.hid (by simpa [szL, dpL, okL] using HB3.out), HM3.out⟩
        case round =>
          obtain ⟨j, hj, rfl, HC, HM⟩ := hrel
          by_cases hlt : j < l.length
          · have ho : l[j]? = some l[j] := List.getElem?_eq_getElem hlt
            generalize l[j] = u at ho
            have hsz := szL_take ho
            have hdp := dpL_take ho
            have hok := okL_take ho
            have hs1 := szL_take_le l (j + 1)
            have hdl := dpL_get ho
            have hup := szT_pos u
            have hll := len_szL l
            obtain ⟨bb, off, A', c', rfl, _, hu, q0, q1, q2, q3⟩ := (TmIn.mods (D' := D) HM.out (fun k hk => by simpa using hD k hk) (fun _ h => h) H.out).child ho
            have HU := Lib.hid hu
            clear ho hu
            go_wp2_with (go_at_call 103; refine (IH u (by omega) A' c' _ g D _ _ (depth + 1) _ (HC.out.alloc _) (HU.out.ext (ext_box _ _)) hD (by omega) (by omega) (by omega) (by omega)).mono ?_; rintro e W3 ⟨rfl, h1, h2⟩; have HC3 := Lib.hid h1; have HM3' := Lib.hid h2; clear h1 h2)
            go_roundw
            case rel =>
              refine ⟨j + 1, hlt, by go_num, ?_, (HM.out.alloc _).trans HM3'.out⟩
              have h1 := HC3.out
              rw [hsz, hdp]
              (try rw [hok])
              have e1 : p + 1 + ((szL (l.take j) + szT u : Nat) : Int) = p + 1 + (szL (l.take j) : Int) + (szT u : Int) := by omega
              have e2 : max d (depth + ((max (dpL (l.take j)) (dpT u) : Nat) : Int)) = max (max d (depth + (dpL (l.take j) : Int))) (depth + 1 + (dpT u : Int) - 1) := by omega
              rw [e1, e2]
              exact Lib.hid (by simpa using h1)
            case measure => simp [intOf]; omega
          · obtain rfl : j = l.length := by omega
            rw [List.take_length] at HC
            go_wp2_with fail
            go_end0
            refine ⟨rfl, ?_, HM.out⟩
            have h1 := HC.out
            have e1 : p + ((1 + szL l : Nat) : Int) = p + 1 + (szL l : Int) := by omega
            have e2 : depth + ((1 + dpL l : Nat) : Int) - 1 = depth + (dpL l : Int) := by omega
            simp only [szT, dpT, okT]
            rw [e1, e2, HPK.out]
            simpa using h1
      · subst hpk
        go_upto_region 4 with (go_at_call 175; refine (HP _).out.mono ?_; rintro e W1 ⟨rfl, hx⟩; have g2 := HB1.out.ext hx; have f2 := g2.frozen 2; have d2 : W1.cell? ⟨g, 2, none⟩ = some (.bool false) := g2.cell 2; have HXX := Lib.hid hx; have HB2 := Lib.hid g2; clear hx g2)
        refine wp_abs (fun V2 => Hid (Blk V2 g 131 (cntV (p + 1) (max d depth) false)) ∧ Hid (Blk V2 w.heap.size 24 #[.int .i64 k, .int .i64 n, .string s, .slice A l.length c]) ∧ Hid (Mods [g] w V2)) ⟨HB2.out.set_ 2 _, (HX1.out.ext HXX.out).far (p := ⟨g, 2, none⟩) (by simp; omega) _, ((HM1.out.trans (Mods.ext HXX.out)).setCell (p := ⟨g, 2, none⟩) (.inl (by simp)) _)⟩ ?_
        rintro V2 ⟨HB3, HX3, HM3⟩
        have y3 : V2.cell? ⟨w.heap.size, 3, none⟩ = some (.slice A l.length c) := HX3.out.cell 3
        clear HP HB1 HX1 HM1 HB2 HXX f2 x0 x1 x2 x3
        go_upto_region 5 with fail
        go_loopw [39] (fun i wr => ∃ j : Nat, j ≤ l.length ∧ i = .int .i64 j ∧ Hid (Blk wr g 131 (cntV (p + 1 + (szL (l.take j) : Int)) (max d (depth + (dpL (l.take j) : Int))) (!okL (l.take j)))) ∧ Hid (Mods [g] w wr)) (fun i _ => l.length - (intOf i).toNat)
        case atStart => exact ⟨0, Nat.zero_le _, rfl, Lib.hid (by simpa [szL, dpL, okL] using HB3.out), HM3.out⟩
        case round =>
          obtain ⟨j, hj, rfl, HC, HM⟩ := hrel
          by_cases hlt : j < l.length
          · have ho : l[j]? = some l[j] := List.getElem?_eq_getElem hlt
            generalize l[j] = u at ho
            have hsz := szL_take ho
            have hdp := dpL_take ho
            have hok := okL_take ho
            have hs1 := szL_take_le l (j + 1)
            have hdl := dpL_get ho
            have hup := szT_pos u
            have hll := len_szL l
            obtain ⟨bb, off, A', c', rfl, _, hu, q0, q1, q2, q3⟩ := (TmIn.mods (D' := D) HM.out (fun k hk => by simpa using hD k hk) (fun _ h => h) H.out).child ho
            have HU := Lib.hid hu
            clear ho hu
            go_wp2_with (go_at_call 103; refine (IH u (by omega) A' c' _ g D _ _ (depth + 1) _ (HC.out.alloc _) (HU.out.ext (ext_box _ _)) hD (by omega) (by omega) (by omega) (by omega)).mono ?_; rintro e W3 ⟨rfl, h1, h2⟩; have HC3 := Lib.hid h1; have HM3' := Lib.hid h2; clear h1 h2)
            go_roundw
            case rel =>
              refine ⟨j + 1, hlt, by go_num, ?_, (HM.out.alloc _).trans HM3'.out⟩
              have h1 := HC3.out
              rw [hsz, hdp]
              (try rw [hok])
              have e1 : p + 1 + ((szL (l.take j) + szT u : Nat) : Int) = p + 1 + (szL (l.take j) : Int) + (szT u : Int) := by omega
              have e2 : max d (depth + ((max (dpL (l.take j)) (dpT u) : Nat) : Int)) = max (max d (depth + (dpL (l.take j) : Int))) (depth + 1 + (dpT u : Int) - 1) := by omega
              rw [e1, e2]
              exact Lib.hid (by simpa using h1)
            case measure => simp [intOf]; omega
          · obtain rfl : j = l.length := by omega
            rw [List.take_length] at HC
            go_wp2_with fail
            go_end0
            refine ⟨rfl, ?_, HM.out⟩
            have h1 := HC.out
            have e1 : p + ((1 + szL l : Nat) : Int) = p + 1 + (szL l : Int) := by omega
            have e2 : depth + ((1 + dpL l : Nat) : Int) - 1 = depth + (dpL l : Int) := by omega
            simp only [szT, dpT, okT]
            rw [e1, e2, HPK.out]
            simpa using h1
    · subst hb
      go_upto_region 4 with fail
      have HXX := Lib.hid (Ext.refl V)
      have HB2 := HB1
      refine wp_abs (fun V2 => Hid (Blk V2 g 131 (cntV (p + 1) (max d depth) true)) ∧ Hid (Blk V2 w.heap.size 24 #[.int .i64 k, .int .i64 n, .string s, .slice A l.length c]) ∧ Hid (Mods [g] w V2)) ⟨HB2.out.set_ 2 _, (HX1.out.ext HXX.out).far (p := ⟨g, 2, none⟩) (by simp; omega) _, ((HM1.out.trans (Mods.ext HXX.out)).setCell (p := ⟨g, 2, none⟩) (.inl (by simp)) _)⟩ ?_
      rintro V2 ⟨HB3, HX3, HM3⟩
      have y3 : V2.cell? ⟨w.heap.size, 3, none⟩ = some (.slice A l.length c) := HX3.out.cell 3
      clear HP HB1 HX1 HM1 HB2 HXX f2 x0 x1 x2 x3
      go_upto_region 5 with fail
      go_loopw [39] (fun i wr => ∃ j : Nat, j ≤ l.length ∧ i = .int .i64 j ∧ Hid (Blk wr g 131 (cntV (p + 1 + (szL (l.take j) : Int)) (max d (depth + (dpL (l.take j) : Int))) true)) ∧ Hid (Mods [g] w wr)) (fun i _ => l.length - (intOf i).toNat)
      case atStart => exact ⟨0, Nat.zero_le _, rfl, Lib.hid (by simpa [szL, dpL, okL] using HB3.out), HM3.out⟩
      case round =>
        obtain ⟨j, hj, rfl, HC, HM⟩ := hrel
        by_cases hlt : j < l.length
        · have ho : l[j]? = some l[j] := List.getElem?_eq_getElem hlt
          generalize l[j] = u at ho
          have hsz := szL_take ho
          have hdp := dpL_take ho
          have hok := okL_take ho
          have hs1 := szL_take_le l (j + 1)
          have hdl := dpL_get ho
          have hup := szT_pos u
          have hll := len_szL l
          obtain ⟨bb, off, A', c', rfl, _, hu, q0, q1, q2, q3⟩ := (TmIn.mods (D' := D) HM.out (fun k hk => by simpa using hD k hk) (fun _ h => h) H.out).child ho
          have HU := Lib.hid hu
          clear ho hu
          go_wp2_with (go_at_call 103; refine (IH u (by omega) A' c' _ g D _ _ (depth + 1) _ (HC.out.alloc _) (HU.out.ext (ext_box _ _)) hD (by omega) (by omega) (by omega) (by omega)).mono ?_; rintro e W3 ⟨rfl, h1, h2⟩; have HC3 := Lib.hid h1; have HM3' := Lib.hid h2; clear h1 h2)
          go_roundw
          case rel =>
            refine ⟨j + 1, hlt, by go_num, ?_, (HM.out.alloc _).trans HM3'.out⟩
            have h1 := HC3.out
            rw [hsz, hdp]
            (try rw [hok])
            have e1 : p + 1 + ((szL (l.take j) + szT u : Nat) : Int) = p + 1 + (szL (l.take j) : Int) + (szT u : Int) := by omega
            have e2 : max d (depth + ((max (dpL (l.take j)) (dpT u) : Nat) : Int)) = max (max d (depth + (dpL (l.take j) : Int))) (depth + 1 + (dpT u : Int) - 1) := by omega
            rw [e1, e2]
            exact Lib.hid (by simpa using h1)
          case measure => simp [intOf]; omega
        · obtain rfl : j = l.length := by omega
          rw [List.take_length] at HC
          go_wp2_with fail
          go_end0
          refine ⟨rfl, ?_, HM.out⟩
          have h1 := HC.out
          have e1 : p + ((1 + szL l : Nat) : Int) = p + 1 + (szL l : Int) := by omega
          have e2 : depth + ((1 + dpL l : Nat) : Int) - 1 = depth + (dpL l : Int) := by omega
          simp only [szT, dpT, okT]
          rw [e1, e2]
          simpa using h1

end Go.Proofs.YtkenjhchfidpbaaGreatDoor

/- Layer 6, the program: the walks of measure, Check, may. -/
namespace Go.El
open Go.RowKit
theorem TmIn.lt {D : Nat → Prop} {w : World} {t : Tm} {A : Option Addr} {c : Nat} (h : TmIn D w t A c) : TmIn (fun k => k < w.heap.size) w t A c := by
  induction h with
  | mk k n s l A cap ch hl hr hs hc ih =>
    refine .mk k n s l A cap ch hl ih (fun hne => ?_) hc
    obtain ⟨b, off, hA, hb, hcell⟩ := hs hne
    refine ⟨b, off, hA, ?_, hcell⟩
    have h0 : 0 < l.length := List.length_pos_iff.2 hne
    exact cell_lt (hcell 0 _ _ (List.getElem?_eq_getElem h0) (List.getElem?_eq_getElem (by omega))).1
mutual
theorem dpT_le : ∀ t : Tm, dpT t ≤ szT t
  | .mk _ _ _ l => by
    have := dpL_le l
    simp only [dpT, szT]
    omega
theorem dpL_le : ∀ l : List Tm, dpL l ≤ szL l
  | [] => Nat.le_refl _
  | t :: r => by
    have := dpT_le t
    have := dpL_le r
    simp only [dpL, szL]
    omega
end
end Go.El
namespace Go.Proofs.YtkenjhchfidpbaaGreatDoor
open Go.RowKit Go.El

set_option maxRecDepth 100000 in
set_option maxHeartbeats 2000000 in
theorem measure_any (t : Tm) (A : Option Addr) (c : Nat) (w : World) (D : Nat → Prop) (ht : TmIn D w t A c) (hsz : szT t ≤ 1000000000) :
    Calls Tryz.prog 60 #[tmVal t A c] w fun e w' => e = .returned (.agg (cntV (szT t) (dpT t) (!okT t))) ∧ Ext w w' := by
  have hd := dpT_le t
  have hdp := dpT_pos t
  have H := Lib.hid ht.lt
  have HC := fun W g hb hT hD => Lib.hid (countOf_any (szT t) t (Nat.le_refl _) A c W g (fun k => k < w.heap.size) 0 0 1 false hb hT hD (by omega) (by omega) (by omega) (by omega))
  unfold tmVal at HC ⊢
  generalize t.k = k at HC ⊢
  generalize t.n = n at HC ⊢
  generalize t.s = s at HC ⊢
  generalize t.l.length = m at HC ⊢
  clear ht
  go_enter Tryz.func60, Tryz.ntmps60
  go_upto_region 2 with fail
  refine wp_abs (fun V => Hid (Blk V (w.heap.size + 1 + 1) 131 (cntV 0 0 false)) ∧ Hid (Blk V (w.heap.size + 1) 131 (cntV 0 0 false)) ∧ Hid (Blk V w.heap.size 24 #[.int .i64 k, .int .i64 n, .string s, .slice A m c]) ∧ Hid (Ext w V)) ⟨?_, ?_, ((Blk.new w _ _).alloc _).alloc _, (((Ext.refl w).alloc _).alloc _).alloc _⟩ ?_
  · have := Blk.new ((w.alloc (.cells #[.int .i64 k, .int .i64 n, .string s, .slice A m c] 24)).alloc (.cells (cntV 0 0 false) 131)) 131 (cntV 0 0 false)
    rw [World.size_alloc, World.size_alloc] at this
    exact this
  · have := (Blk.new (w.alloc (.cells #[.int .i64 k, .int .i64 n, .string s, .slice A m c] 24)) 131 (cntV 0 0 false)).alloc (.cells (cntV 0 0 false) 131)
    rw [World.size_alloc] at this
    exact this
  rintro V ⟨HG, HZ, HX, HE⟩
  have x0 : V.cell? ⟨w.heap.size, 0, none⟩ = some (.int .i64 k) := HX.out.cell 0
  have x1 : V.cell? ⟨w.heap.size, 1, none⟩ = some (.int .i64 n) := HX.out.cell 1
  have x2 : V.cell? ⟨w.heap.size, 2, none⟩ = some (.string s) := HX.out.cell 2
  have x3 : V.cell? ⟨w.heap.size, 3, none⟩ = some (.slice A m c) := HX.out.cell 3
  go_upto_region 3 with (go_at_call 103; refine (HC V _ HG.out (H.out.ext HE.out) (fun k hk => by omega)).out.mono ?_; rintro e W3 ⟨rfl, h1, h2⟩; have HB := Lib.hid h1; have HM := Lib.hid h2; have HZ3 := Lib.hid (HZ.out.mods h2 (by simp)); clear h1 h2)
  generalize hP : (0 : Int) + (szT t : Int) = P0 at HB
  generalize hQ : max (0 : Int) (1 + (dpT t : Int) - 1) = Q0 at HB
  generalize hR : (false || !okT t) = R0 at HB
  have g0 : W3.cell? ⟨w.heap.size + 1 + 1, 0, none⟩ = some (.int .i64 P0) := HB.out.cell 0
  have g1 : W3.cell? ⟨w.heap.size + 1 + 1, 1, none⟩ = some (.int .i64 Q0) := HB.out.cell 1
  have g2 : W3.cell? ⟨w.heap.size + 1 + 1, 2, none⟩ = some (.bool R0) := HB.out.cell 2
  have z0 : W3.cell? ⟨w.heap.size + 1, 0, none⟩ = some (.int .i64 0) := HZ3.out.cell 0
  have z1 : W3.cell? ⟨w.heap.size + 1, 1, none⟩ = some (.int .i64 0) := HZ3.out.cell 1
  have z2 : W3.cell? ⟨w.heap.size + 1, 2, none⟩ = some (.bool false) := HZ3.out.cell 2
  have f0 := HZ3.out.frozen 0
  have f1 := HZ3.out.frozen 1
  have f2 := HZ3.out.frozen 2
  have hP2 : P0 = (szT t : Int) := by omega
  have hQ2 : Q0 = (dpT t : Int) := by omega
  have hR2 : R0 = !okT t := by rw [← hR]; rfl
  clear hP hQ hR
  have hbf := ((HZ3.out.set_ 0 (.int .i64 (szT t : Int))).set_ 1 (.int .i64 (dpT t : Int))).set_ 2 (.bool (!okT t))
  have hlt := HB.out.lt
  have hE3 : Ext w W3 := ext_mods HE.out HM.out (fun k hk => by simp at hk; omega)
  have hEF : Ext w (((W3.setCell ⟨w.heap.size + 1, 0, none⟩ (.int .i64 (szT t : Int))).setCell ⟨w.heap.size + 1, 1, none⟩ (.int .i64 (dpT t : Int))).setCell ⟨w.heap.size + 1, 2, none⟩ (.bool (!okT t))) := ((hE3.setCell (p := ⟨w.heap.size + 1, 0, none⟩) (by simp) _).setCell (p := ⟨w.heap.size + 1, 1, none⟩) (by simp) _).setCell (p := ⟨w.heap.size + 1, 2, none⟩) (by simp) _
  have HF := Lib.hid hEF
  have HBF := Lib.hid hbf
  clear hbf hE3 hEF hlt
  go_wp2_with fail
  generalize ((W3.setCell ⟨w.heap.size + 1, 0, none⟩ (.int .i64 (szT t : Int))).setCell ⟨w.heap.size + 1, 1, none⟩ (.int .i64 (dpT t : Int))).setCell ⟨w.heap.size + 1, 2, none⟩ (.bool (!okT t)) = V5 at HF HBF ⊢
  have r0 : V5.cell? ⟨w.heap.size + 1, 0, none⟩ = some (.int .i64 (szT t : Int)) := HBF.out.cell 0
  have r1 : V5.cell? ⟨w.heap.size + 1, 1, none⟩ = some (.int .i64 (dpT t : Int)) := HBF.out.cell 1
  have r2 : V5.cell? ⟨w.heap.size + 1, 2, none⟩ = some (.bool (!okT t)) := HBF.out.cell 2
  refine bodyPost_ret (v := .agg (cntV (szT t) (dpT t) (!okT t))) (by simp [results, Tryz.results60, go_sem, r0, r1, r2, cntV]) rfl ⟨rfl, HF.out⟩

set_option maxRecDepth 100000 in
set_option maxHeartbeats 2000000 in
theorem check_any (t : Tm) (A : Option Addr) (c : Nat) (w : World) (D : Nat → Prop) (ht : TmIn D w t A c) (hsz : szT t ≤ 1000000000) :
    Calls Tryz.prog 28 #[tmVal t A c] w fun e w' => e = .returned (.int .i64 (chkT t)) ∧ Ext w w' := by
  have HM := Lib.hid (measure_any t A c _ D (ht.ext (ext_box w (.cells #[.int .i64 t.k, .int .i64 t.n, .string t.s, .slice A t.l.length c] 24))) hsz)
  have HN := Lib.hid (show chkT t = (if okT t = false then 60 else if 200 < dpT t then 61 else if 4096 < szT t then 62 else 0) from rfl)
  generalize chkT t = r at HN ⊢
  unfold tmVal cntV at HM
  unfold tmVal
  generalize t.k = k at HM ⊢
  generalize t.n = n at HM ⊢
  generalize t.s = s at HM ⊢
  generalize t.l.length = m at HM ⊢
  generalize hok : okT t = ok at HM HN
  clear ht hok
  cases ok
  · rw [if_pos rfl] at HN
    simp only [Bool.not_false] at HM
    go_enter Tryz.func28, Tryz.ntmps28
    go_wp2_with (go_at_call 60; refine HM.out.mono ?_; rintro e W1 ⟨rfl, hx⟩; have HX := Lib.hid ((ext_box w _).trans hx); clear hx)
    go_ret
    exact ⟨by rw [HN.out]; rfl, HX.out.trans (ext_box _ _)⟩
  · rw [if_neg (by decide)] at HN
    simp only [Bool.not_true] at HM
    by_cases h1 : 200 < dpT t
    · rw [if_pos h1] at HN
      have q1 : 200 < (dpT t : Int) := by omega
      go_enter Tryz.func28, Tryz.ntmps28
      go_wp2_with (go_at_call 60; refine HM.out.mono ?_; rintro e W1 ⟨rfl, hx⟩; have HX := Lib.hid ((ext_box w _).trans hx); clear hx)
      go_ret
      exact ⟨by rw [HN.out]; rfl, HX.out.trans (ext_box _ _)⟩
    · rw [if_neg h1] at HN
      have q1 : ¬ 200 < (dpT t : Int) := by omega
      by_cases h2 : 4096 < szT t
      · rw [if_pos h2] at HN
        have q2 : 4096 < (szT t : Int) := by omega
        go_enter Tryz.func28, Tryz.ntmps28
        go_wp2_with (go_at_call 60; refine HM.out.mono ?_; rintro e W1 ⟨rfl, hx⟩; have HX := Lib.hid ((ext_box w _).trans hx); clear hx)
        go_ret
        exact ⟨by rw [HN.out]; rfl, HX.out.trans (ext_box _ _)⟩
      · rw [if_neg h2] at HN
        have q2 : ¬ 4096 < (szT t : Int) := by omega
        go_enter Tryz.func28, Tryz.ntmps28
        go_wp2_with (go_at_call 60; refine HM.out.mono ?_; rintro e W1 ⟨rfl, hx⟩; have HX := Lib.hid ((ext_box w _).trans hx); clear hx)
        go_ret
        exact ⟨by rw [HN.out]; rfl, HX.out.trans (ext_box _ _)⟩

set_option maxRecDepth 100000 in
set_option maxHeartbeats 2000000 in
theorem may_any (t : Tm) (A : Option Addr) (c : Nat) (w : World) (D : Nat → Prop) (ht : TmIn D w t A c) (hsz : szT t ≤ 1000000000) :
    Calls Tryz.prog 184 #[tmVal t A c] w fun e w' => e = .returned (.bool (mayT t)) ∧ Ext w w' := by
  have HM := Lib.hid (check_any t A c _ D (ht.ext (ext_box w (.cells #[.int .i64 t.k, .int .i64 t.n, .string t.s, .slice A t.l.length c] 24))) hsz)
  have hm : mayT t = (chkT t == 0) := rfl
  rw [hm]
  generalize chkT t = r at HM ⊢
  unfold tmVal at HM ⊢
  clear ht hm
  go_enter Tryz.func184, Tryz.ntmps184
  go_wp2_with (go_at_call 28; refine HM.out.mono ?_; rintro e W1 ⟨rfl, hx⟩; have HX := Lib.hid ((ext_box w _).trans hx); clear hx)
  go_ret
  exact ⟨rfl, HX.out⟩

end Go.Proofs.YtkenjhchfidpbaaGreatDoor
