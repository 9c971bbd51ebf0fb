/- Layer 6, the program: the walks of of, measure, Check, may. -/
import Derived.Test.YtnedihbffiddpaaGreatDoorW3
namespace Go.Proofs.YtnedihbffiddpaaGreatDoor
open Go.RowKit Go.El

/-- What is counted of a term. -/
def cntV (p d : Int) (b : Bool) : Array Value := #[.int .i64 p, .int .i64 d, .bool b]

set_option maxRecDepth 100000 in
set_option maxHeartbeats 4000000 in
theorem countOf_any : ∀ (N : Nat) (t : Tm), szT t ≤ N → ∀ (A : Option Addr) (c : Nat) (w : World) (g : Nat) (D : Nat → Prop) (p d depth : Int) (b : Bool), Blk w g 83 (cntV p d b) → TmIn D w t A c → (∀ k, D k → k ≠ g) → 0 ≤ p → p + (szT t : Int) ≤ 1000000000000 → 0 ≤ depth → depth + (dpT t : Int) ≤ 1000000000000 →
    Calls Tryz.prog 68 #[.pointer (some ⟨g, 0, none⟩), tmVal t A c, .int .i64 depth] w fun e w' => e = .returned (.tuple #[]) ∧ Blk w' g 83 (cntV (p + (szT t : Int)) (max d (depth + (dpT t : Int) - 1)) (b || !okT t)) ∧ Mods [g] w w'
  | 0, t, h => by
    have := szT_pos t
    omega
  | N + 1, .mk k n s l, hN => by
    intro A c w g D p d depth b hb ht hD hp0 hp1 hd0 hd1
    have IH := countOf_any N
    simp only [szT, dpT] at hN hp1 hd1
    have b0 : w.cell? ⟨g, 0, none⟩ = some (.int .i64 p) := hb.cell 0
    have b1 : w.cell? ⟨g, 1, none⟩ = some (.int .i64 d) := hb.cell 1
    have b2 : w.cell? ⟨g, 2, none⟩ = some (.bool b) := hb.cell 2
    have f0 := hb.frozen 0
    have f1 := hb.frozen 1
    have f2 := hb.frozen 2
    have hglt : g < w.heap.size := hb.lt
    have hw1 : IntKind.i64.wrap (p + 1) = p + 1 := IntWalk.i64_in _ (by omega)
    have hw2 : IntKind.i64.wrap (depth + 1) = depth + 1 := IntWalk.i64_in _ (by omega)
    have HP := fun W => Lib.hid (part_any (.mk k n s l) A c W)
    unfold tmVal at HP ⊢
    simp only [Tm.k, Tm.n, Tm.s, Tm.l] at HP ⊢
    have H := Lib.hid ht
    have HB := Lib.hid hb
    clear hb ht
    go_enter Tryz.func68, Tryz.ntmps68
    go_upto_region 3 with fail
    have hmax : (if d < depth then depth else d) = max d depth := by rw [Int.max_def]; split <;> split <;> omega
    rw [hmax]
    clear hmax
    refine wp_abs (fun V => Hid (Blk V g 83 (cntV (p + 1) (max d depth) b)) ∧ Hid (Blk V w.heap.size 27 #[.int .i64 k, .int .i64 n, .string s, .slice A l.length c]) ∧ Hid (Mods [g] w V)) ⟨((HB.out.set_ 0 _).set_ 1 _).alloc _, ?_, (((Mods.refl [g] w).setCell (p := ⟨g, 0, none⟩) (.inl (by simp)) _).setCell (p := ⟨g, 1, none⟩) (.inl (by simp)) _).alloc _⟩ ?_
    · have := Blk.new ((w.setCell ⟨g, 0, none⟩ (.int .i64 (p + 1))).setCell ⟨g, 1, none⟩ (.int .i64 (max d depth))) 27 #[.int .i64 k, .int .i64 n, .string s, .slice A l.length c]
      rw [World.size_setCell, World.size_setCell] at this
      exact this
    rintro V ⟨HB1, HX1, HM1⟩
    clear b0 b1 b2 f0 f1 f2 HB
    have x0 : V.cell? ⟨w.heap.size, 0, none⟩ = some (.int .i64 k) := HX1.out.cell 0
    have x1 : V.cell? ⟨w.heap.size, 1, none⟩ = some (.int .i64 n) := HX1.out.cell 1
    have x2 : V.cell? ⟨w.heap.size, 2, none⟩ = some (.string s) := HX1.out.cell 2
    have x3 : V.cell? ⟨w.heap.size, 3, none⟩ = some (.slice A l.length c) := HX1.out.cell 3
    have b2 : V.cell? ⟨g, 2, none⟩ = some (.bool b) := HB1.out.cell 2
    have f2 := HB1.out.frozen 2
    generalize hpk : partK k n s l.length = pk at HP
    have HPK := Lib.hid hpk
    clear hpk
    cases hb : b
    · subst hb
      cases hpk : pk
      · subst hpk
        go_upto_region 4 with (go_at_call 92; refine (HP _).out.mono ?_; rintro e W1 ⟨rfl, hx⟩; have g2 := HB1.out.ext hx; have f2 := g2.frozen 2; have d2 : W1.cell? ⟨g, 2, none⟩ = some (.bool false) := g2.cell 2; have HXX := Lib.hid hx; have HB2 := Lib.hid g2; clear hx g2)
        refine wp_abs (fun V2 => Hid (Blk V2 g 83 (cntV (p + 1) (max d depth) true)) ∧ Hid (Blk V2 w.heap.size 27 #[.int .i64 k, .int .i64 n, .string s, .slice A l.length c]) ∧ Hid (Mods [g] w V2)) ⟨HB2.out.set_ 2 _, (HX1.out.ext HXX.out).far (p := ⟨g, 2, none⟩) (by simp; omega) _, ((HM1.out.trans (Mods.ext HXX.out)).setCell (p := ⟨g, 2, none⟩) (.inl (by simp)) _)⟩ ?_
        rintro V2 ⟨HB3, HX3, HM3⟩
        have y3 : V2.cell? ⟨w.heap.size, 3, none⟩ = some (.slice A l.length c) := HX3.out.cell 3
        clear HP HB1 HX1 HM1 HB2 HXX f2 x0 x1 x2 x3
        go_upto_region 5 with fail
        go_loopw [39] (fun i wr => ∃ j : Nat, j ≤ l.length ∧ i = .int .i64 j ∧ Hid (Blk wr g 83 (cntV (p + 1 + (szL (l.take j) : Int)) (max d (depth + (dpL (l.take j) : Int))) true)) ∧ Hid (Mods [g] w wr)) (fun i _ => l.length - (intOf i).toNat)
        case atStart => exact ⟨0, Nat.zero_le _, rfl, Lib.hid (by simpa [szL, dpL, okL] using HB3.out), HM3.out⟩
        case round =>
          obtain ⟨j, hj, rfl, HC, HM⟩ := hrel
          by_cases hlt : j < l.length
          · have ho : l[j]? = some l[j] := List.getElem?_eq_getElem hlt
            generalize l[j] = u at ho
            have hsz := szL_take ho
            have hdp := dpL_take ho
            have hok := okL_take ho
            have hs1 := szL_take_le l (j + 1)
            have hdl := dpL_get ho
            have hup := szT_pos u
            have hll := len_szL l
            obtain ⟨bb, off, A', c', rfl, _, hu, q0, q1, q2, q3⟩ := (TmIn.mods (D' := D) HM.out (fun k hk => by simpa using hD k hk) (fun _ h => h) H.out).child ho
            have HU := Lib.hid hu
            clear ho hu
            go_wp2_with (go_at_call 68; refine (IH u (by omega) A' c' _ g D _ _ (depth + 1) _ (HC.out.alloc _) (HU.out.ext (ext_box _ _)) hD (by omega) (by omega) (by omega) (by omega)).mono ?_; rintro e W3 ⟨rfl, h1, h2⟩; have HC3 := Lib.hid h1; have HM3' := Lib.hid h2; clear h1 h2)
            go_roundw
            case rel =>
              refine ⟨j + 1, hlt, by go_num, ?_, (HM.out.alloc _).trans HM3'.out⟩
              have h1 := HC3.out
              rw [hsz, hdp]
              (try rw [hok])
              have e1 : p + 1 + ((szL (l.take j) + szT u : Nat) : Int) = p + 1 + (szL (l.take j) : Int) + (szT u : Int) := by omega
              have e2 : max d (depth + ((max (dpL (l.take j)) (dpT u) : Nat) : Int)) = max (max d (depth + (dpL (l.take j) : Int))) (depth + 1 + (dpT u : Int) - 1) := by omega
              rw [e1, e2]
              exact Lib.hid (by simpa using h1)
            case measure => simp [intOf]; omega
          · obtain rfl : j = l.length := by omega
            rw [List.take_length] at HC
            go_wp2_with fail
            go_end0
            refine ⟨rfl, ?_, HM.out⟩
            have h1 := HC.out
            have e1 : p + ((1 + szL l : Nat) : Int) = p + 1 + (szL l : Int) := by omega
            have e2 : depth + ((1 + dpL l : Nat) : Int) - 1 = depth + (dpL l : Int) := by omega
            simp only [szT, dpT, okT]
            rw [e1, e2, HPK.out]
            simpa using h1
      · subst hpk
        go_upto_region 4 with (go_at_call 92; refine (HP _).out.mono ?_; rintro e W1 ⟨rfl, hx⟩; have g2 := HB1.out.ext hx; have f2 := g2.frozen 2; have d2 : W1.cell? ⟨g, 2, none⟩ = some (.bool false) := g2.cell 2; have HXX := Lib.hid hx; have HB2 := Lib.hid g2; clear hx g2)
        refine wp_abs (fun V2 => Hid (Blk V2 g 83 (cntV (p + 1) (max d depth) false)) ∧ Hid (Blk V2 w.heap.size 27 #[.int .i64 k, .int .i64 n, .string s, .slice A l.length c]) ∧ Hid (Mods [g] w V2)) ⟨HB2.out.set_ 2 _, (HX1.out.ext HXX.out).far (p := ⟨g, 2, none⟩) (by simp; omega) _, ((HM1.out.trans (Mods.ext HXX.out)).setCell (p := ⟨g, 2, none⟩) (.inl (by simp)) _)⟩ ?_
        rintro V2 ⟨HB3, HX3, HM3⟩
        have y3 : V2.cell? ⟨w.heap.size, 3, none⟩ = some (.slice A l.length c) := HX3.out.cell 3
        clear HP HB1 HX1 HM1 HB2 HXX f2 x0 x1 x2 x3
        go_upto_region 5 with fail
        go_loopw [39] (fun i wr => ∃ j : Nat, j ≤ l.length ∧ i = .int .i64 j ∧ Hid (Blk wr g 83 (cntV (p + 1 + (szL (l.take j) : Int)) (max d (depth + (dpL (l.take j) : Int))) (!okL (l.take j)))) ∧ Hid (Mods [g] w wr)) (fun i _ => l.length - (intOf i).toNat)
        case atStart => exact ⟨0, Nat.zero_le _, rfl, Lib.hid (by simpa [szL, dpL, okL] using HB3.out), HM3.out⟩
        case round =>
          obtain ⟨j, hj, rfl, HC, HM⟩ := hrel
          by_cases hlt : j < l.length
          · have ho : l[j]? = some l[j] := List.getElem?_eq_getElem hlt
            generalize l[j] = u at ho
            have hsz := szL_take ho
            have hdp := dpL_take ho
            have hok := okL_take ho
            have hs1 := szL_take_le l (j + 1)
            have hdl := dpL_get ho
            have hup := szT_pos u
            have hll := len_szL l
            obtain ⟨bb, off, A', c', rfl, _, hu, q0, q1, q2, q3⟩ := (TmIn.mods (D' := D) HM.out (fun k hk => by simpa using hD k hk) (fun _ h => h) H.out).child ho
            have HU := Lib.hid hu
            clear ho hu
            go_wp2_with (go_at_call 68; refine (IH u (by omega) A' c' _ g D _ _ (depth + 1) _ (HC.out.alloc _) (HU.out.ext (ext_box _ _)) hD (by omega) (by omega) (by omega) (by omega)).mono ?_; rintro e W3 ⟨rfl, h1, h2⟩; have HC3 := Lib.hid h1; have HM3' := Lib.hid h2; clear h1 h2)
            go_roundw
            case rel =>
              refine ⟨j + 1, hlt, by go_num, ?_, (HM.out.alloc _).trans HM3'.out⟩
              have h1 := HC3.out
              rw [hsz, hdp]
              (try rw [hok])
              have e1 : p + 1 + ((szL (l.take j) + szT u : Nat) : Int) = p + 1 + (szL (l.take j) : Int) + (szT u : Int) := by omega
              have e2 : max d (depth + ((max (dpL (l.take j)) (dpT u) : Nat) : Int)) = max (max d (depth + (dpL (l.take j) : Int))) (depth + 1 + (dpT u : Int) - 1) := by omega
              rw [e1, e2]
              exact Lib.hid (by simpa using h1)
            case measure => simp [intOf]; omega
          · obtain rfl : j = l.length := by omega
            rw [List.take_length] at HC
            go_wp2_with fail
            go_end0
            refine ⟨rfl, ?_, HM.out⟩
            have h1 := HC.out
            have e1 : p + ((1 + szL l : Nat) : Int) = p + 1 + (szL l : Int) := by omega
            have e2 : depth + ((1 + dpL l : Nat) : Int) - 1 = depth + (dpL l : Int) := by omega
            simp only [szT, dpT, okT]
            rw [e1, e2, HPK.out]
            simpa using h1
    · subst hb
      go_upto_region 4 with fail
      have HXX := Lib.hid (Ext.refl V)
      have HB2 := HB1
      refine wp_abs (fun V2 => Hid (Blk V2 g 83 (cntV (p + 1) (max d depth) true)) ∧ Hid (Blk V2 w.heap.size 27 #[.int .i64 k, .int .i64 n, .string s, .slice A l.length c]) ∧ Hid (Mods [g] w V2)) ⟨HB2.out.set_ 2 _, (HX1.out.ext HXX.out).far (p := ⟨g, 2, none⟩) (by simp; omega) _, ((HM1.out.trans (Mods.ext HXX.out)).setCell (p := ⟨g, 2, none⟩) (.inl (by simp)) _)⟩ ?_
      rintro V2 ⟨HB3, HX3, HM3⟩
      have y3 : V2.cell? ⟨w.heap.size, 3, none⟩ = some (.slice A l.length c) := HX3.out.cell 3
      clear HP HB1 HX1 HM1 HB2 HXX f2 x0 x1 x2 x3
      go_upto_region 5 with fail
      go_loopw [39] (fun i wr => ∃ j : Nat, j ≤ l.length ∧ i = .int .i64 j ∧ Hid (Blk wr g 83 (cntV (p + 1 + (szL (l.take j) : Int)) (max d (depth + (dpL (l.take j) : Int))) true)) ∧ Hid (Mods [g] w wr)) (fun i _ => l.length - (intOf i).toNat)
      case atStart => exact ⟨0, Nat.zero_le _, rfl, Lib.hid (by simpa [szL, dpL, okL] using HB3.out), HM3.out⟩
      case round =>
        obtain ⟨j, hj, rfl, HC, HM⟩ := hrel
        by_cases hlt : j < l.length
        · have ho : l[j]? = some l[j] := List.getElem?_eq_getElem hlt
          generalize l[j] = u at ho
          have hsz := szL_take ho
          have hdp := dpL_take ho
          have hok := okL_take ho
          have hs1 := szL_take_le l (j + 1)
          have hdl := dpL_get ho
          have hup := szT_pos u
          have hll := len_szL l
          obtain ⟨bb, off, A', c', rfl, _, hu, q0, q1, q2, q3⟩ := (TmIn.mods (D' := D) HM.out (fun k hk => by simpa using hD k hk) (fun _ h => h) H.out).child ho
          have HU := Lib.hid hu
          clear ho hu
          go_wp2_with (go_at_call 68; refine (IH u (by omega) A' c' _ g D _ _ (depth + 1) _ (HC.out.alloc _) (HU.out.ext (ext_box _ _)) hD (by omega) (by omega) (by omega) (by omega)).mono ?_; rintro e W3 ⟨rfl, h1, h2⟩; have HC3 := Lib.hid h1; have HM3' := Lib.hid h2; clear h1 h2)
          go_roundw
          case rel =>
            refine ⟨j + 1, hlt, by go_num, ?_, (HM.out.alloc _).trans HM3'.out⟩
            have h1 := HC3.out
            rw [hsz, hdp]
            (try rw [hok])
            have e1 : p + 1 + ((szL (l.take j) + szT u : Nat) : Int) = p + 1 + (szL (l.take j) : Int) + (szT u : Int) := by omega
            have e2 : max d (depth + ((max (dpL (l.take j)) (dpT u) : Nat) : Int)) = max (max d (depth + (dpL (l.take j) : Int))) (depth + 1 + (dpT u : Int) - 1) := by omega
            rw [e1, e2]
            exact Lib.hid (by simpa using h1)
          case measure => simp [intOf]; omega
        · obtain rfl : j = l.length := by omega
          rw [List.take_length] at HC
          go_wp2_with fail
          go_end0
          refine ⟨rfl, ?_, HM.out⟩
          have h1 := HC.out
          have e1 : p + ((1 + szL l : Nat) : Int) = p + 1 + (szL l : Int) := by omega
          have e2 : depth + ((1 + dpL l : Nat) : Int) - 1 = depth + (dpL l : Int) := by omega
          simp only [szT, dpT, okT]
          rw [e1, e2]
          simpa using h1

end Go.Proofs.YtnedihbffiddpaaGreatDoor
