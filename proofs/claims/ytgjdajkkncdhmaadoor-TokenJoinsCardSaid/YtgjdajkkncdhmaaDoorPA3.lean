/- Layer 8: the walk of TokenJoins. -/
import Derived.Test.YtgjdajkkncdhmaaDoorPA2
namespace Go.Proofs.YtgjdajkkncdhmaaDoor
open Go.RowKit Go.El

theorem GathB.empty (X : World) : GathB X (X.alloc (.cells #[] 5)) (.slice (some ⟨X.heap.size, 0, none⟩) 0 0) [] := by
  refine ⟨World.ownsRow_lit X #[] 0 (Nat.zero_le _) (by unfold maxLen; omega) rfl, fun b hb => ?_, (Ext.refl X).alloc _⟩
  have e1 : X.heap.size = b := by simpa [Value.ownBlock] using hb
  omega
theorem GathB.cap_ {X w : World} {A : Option Addr} {n c : Nat} {F : List UInt8} (h : GathB X w (.slice A n c) F) : F.length ≤ c := by
  rcases h.own.2 with ⟨h1, h2⟩ | ⟨g', cap', cur, hv, _, _, hnc, _⟩
  · simp only [Value.slice.injEq] at h1
    omega
  · injection hv with _ _ hc
    subst hc
    exact hnc

/-- All tokens of the joined text. -/
theorem all_joined {J1 : Option Addr} {cj : Nat} {A B : List UInt8} {V : World} (hb : BytesAt V J1 (joinT A B)) (hA : A.length ≤ 2000) (hB : B.length ≤ 2000) (hc : (joinT A B).length ≤ cj) (gl : Glob V) {X Y : List TokV} {n m : Nat} (hra : allS A = (X, n, 0)) (hrb : allS B = (Y, m, 0)) :
    n = A.length ∧ Calls Tryd.prog 8 #[.slice J1 (joinT A B).length cj] V fun r w' => ∃ Z c, r = .returned (.tuple #[.slice Z (X.length + Y.length) c, .int .i64 ((A.length : Int) + 1 + (m : Int)), .int .i64 0]) ∧ El.Src w' Z (X.length + Y.length) 5 (flat tokCells (X ++ layHead (Y.map (shT (A.length + 1))))) ∧ Ext V w' := by
  have hp := pAll_any J1 cj (joinT A B) V hb (by rw [jn_len]; omega) hc gl
  obtain ⟨hn, hal⟩ := all_joins (A := A) (B := B) (by rw [hra]) (by rw [hrb])
  rw [hra] at hn
  refine ⟨hn, hp.mono ?_⟩
  rintro r w' ⟨v, he, ⟨Z, c, rfl, _, hs⟩, hx⟩
  rw [hal, hra, hrb] at he hs
  simp only [List.length_append, lay_len] at he hs
  refine ⟨Z, c, ?_, hs, hx⟩
  have e1 : ((A.length + 1 + m : Nat) : Int) = (A.length : Int) + 1 + (m : Int) := by omega
  rw [he, e1]

section
variable {w : World} {Z : Option Addr} {X Y : List TokV} {d : Nat}
theorem join_len : (X ++ layHead (Y.map (shT d))).length = X.length + Y.length := by rw [List.length_append, lay_len]
theorem join_lo (h : El.Src w Z (X.length + Y.length) 5 (flat tokCells (X ++ layHead (Y.map (shT d))))) {i : Nat} {t : TokV} (hi : X[i]? = some t) : ∃ b off, Z = some ⟨b, off, none⟩ ∧ w.cell? ⟨b, off + i * 5, none⟩ = some (.int .i64 t.kind) ∧ w.cell? ⟨b, off + i * 5 + 1, none⟩ = some (.string t.s) ∧ w.cell? ⟨b, off + i * 5 + 2, none⟩ = some (.int .i64 t.n) ∧ w.cell? ⟨b, off + i * 5 + 3, none⟩ = some (.int .i64 t.at_) ∧ w.cell? ⟨b, off + i * 5 + 4, none⟩ = some (.bool t.lay) := by
  rw [← join_len (d := d)] at h
  have hlt := (List.getElem?_eq_some_iff.1 hi).1
  exact tok_cells h (by rw [List.getElem?_append_left hlt]; exact hi)
theorem join_hi (h : El.Src w Z (X.length + Y.length) 5 (flat tokCells (X ++ layHead (Y.map (shT d))))) {i j : Nat} {t : TokV} (hij : i = X.length + j) (hj : Y[j]? = some t) : ∃ b off, Z = some ⟨b, off, none⟩ ∧ w.cell? ⟨b, off + i * 5, none⟩ = some (.int .i64 t.kind) ∧ w.cell? ⟨b, off + i * 5 + 1, none⟩ = some (.string t.s) ∧ w.cell? ⟨b, off + i * 5 + 2, none⟩ = some (.int .i64 t.n) ∧ w.cell? ⟨b, off + i * 5 + 3, none⟩ = some (.int .i64 (t.at_ + (d : Int))) ∧ w.cell? ⟨b, off + i * 5 + 4, none⟩ = some (.bool (t.lay || decide (j = 0))) := by
  rw [← join_len (d := d)] at h
  have h2 : (X ++ layHead (Y.map (shT d)))[i]? = some (movT d j t) := by
    rw [List.getElem?_append_right (by omega), show i - X.length = j from by omega]
    exact lay_at hj
  exact tok_cells h h2
end

set_option maxRecDepth 100000 in
set_option maxHeartbeats 16000000 in
theorem tokenJoins_any (A1 A2 : Option Addr) (c1 c2 : Nat) (A B : List UInt8) (w : World) (h1 : BytesAt w A1 A) (hc1 : A.length ≤ c1) (hA : A.length ≤ 9223372036854775807) (h2 : BytesAt w A2 B) (hc2 : B.length ≤ c2) (hB : B.length ≤ 9223372036854775807) (g : Glob w) :
    Calls Tryd.prog 6 #[.slice A1 A.length c1, .slice A2 B.length c2] w fun e w' => e = .returned (.bool true) ∧ Ext w w' := by
  obtain ⟨i1, hi1, hz0, hz1, hz2⟩ := infoP u8Info
  have HG := Lib.hid g
  have H1 := Lib.hid h1
  have H2 := Lib.hid h2
  clear g h1 h2
  by_cases hb1 : 2000 < A.length
  · go_enter Tryd.func6, Tryd.ntmps6
    go_wp2_with (go_at_call 7; refine (lives_any _ HG.out).mono ?_; rintro e W1 ⟨rfl, hx⟩; have HX := Lib.hid (hx); clear hx)
    go_ret
    exact ⟨rfl, HX.out⟩
  · by_cases hb2 : 2000 < B.length
    · go_enter Tryd.func6, Tryd.ntmps6
      go_wp2_with (go_at_call 7; refine (lives_any _ HG.out).mono ?_; rintro e W1 ⟨rfl, hx⟩; have HX := Lib.hid (hx); clear hx)
      go_ret
      exact ⟨rfl, HX.out⟩
    · have HPA := Lib.hid (pAll_any A1 c1 A w H1.out (by omega) hc1 HG.out)
      have HPB := fun V (x : Ext w V) => Lib.hid (pAll_any A2 c2 B V (H2.out.ext x) (by omega) hc2 (HG.out.ext x))
      cases hra : allS A with
      | mk X qa =>
        obtain ⟨n, ea⟩ := qa
        cases hrb : allS B with
        | mk Y qb =>
          obtain ⟨m, eb⟩ := qb
          rw [hra] at HPA
          rw [hrb] at HPB
          unfold AllOut at HPA HPB
          by_cases hea : ea = 0
          · by_cases heb : eb = 0
            · subst hea heb
              go_enter Tryd.func6, Tryd.ntmps6
              go_upto_region 4 with (go_at_call 8; refine HPA.out.mono ?_; rintro e W1 ⟨v, rfl, ht, hx⟩; obtain ⟨X1, d1, rfl, _, hs⟩ := ht; have HS1 := Lib.hid hs; have HX1 := Lib.hid hx; clear hs hx HPA)
              go_upto_region 5 with (go_at_call 8; refine (HPB _ HX1.out).out.mono ?_; rintro e W2 ⟨v, rfl, ht, hx⟩; obtain ⟨Y1, d2, rfl, _, hs⟩ := ht; have HT2 := Lib.hid hs; have HS2 := Lib.hid (HS1.out.ext hx); have HX2 := Lib.hid (HX1.out.trans hx); clear hs hx HPB)
              go_upto_region 6 with (first | (at_builtin; refine wpList_append_src (P := Tryd.prog) rfl (.tmp 38) (.tmp 39) 22 rfl 5 i1 _ 1 1 Tryd.underlying22 hi1 hz0 hz1 hz2 rfl (by omega) (.slice (some ⟨W2.heap.size, 0, none⟩) 0 0) rfl _ _ _ rfl 0 [] (GathB.empty W2 |>.own) (A.map u8V) (H1.out.ext (HX2.out.trans ((Ext.refl W2).alloc _))) (u8_one A) (by (try simp only [List.length_append, List.length_cons, List.length_nil]); unfold maxLen; omega) (by (try simp only [List.length_append, List.length_cons, List.length_nil]); omega) ?_; intro v3 w3 ho hm hb; have HG3 := Lib.hid (GathB.step (G := A) (GathB.empty W2) (Ext.refl _) ho hm hb); clear ho hm hb) | (at_builtin; refine wpList_append_src (P := Tryd.prog) rfl (.tmp 40) (.tmp 41) 22 rfl 5 i1 _ 1 1 Tryd.underlying22 hi1 hz0 hz1 hz2 rfl (by omega) v3 rfl _ _ _ rfl A.length (A.map u8V) (own_ext HG3.out.own ((Ext.refl w3).alloc _)) [.int .u8 10] (El.Src.new _ #[.int .u8 10] _ 1 1 rfl) (u8_one [10]) (by (try simp only [List.length_append, List.length_cons, List.length_nil]); unfold maxLen; omega) (by (try simp only [List.length_append, List.length_cons, List.length_nil]); omega) ?_; intro v4 w4 ho hm hb; have HG4 := Lib.hid (GathB.step (G := [10]) HG3.out ((Ext.refl w3).alloc _) ho hm hb); clear ho hm hb) | (at_builtin; refine wpList_append_src (P := Tryd.prog) rfl (.tmp 42) (.tmp 43) 22 rfl 5 i1 _ 1 1 Tryd.underlying22 hi1 hz0 hz1 hz2 rfl (by omega) v4 rfl _ _ _ rfl (A ++ [10]).length ((A ++ [10]).map u8V) (HG4.out.own) (B.map u8V) (H2.out.ext (HX2.out.trans HG4.out.ext)) (u8_one B) (by (try simp only [List.length_append, List.length_cons, List.length_nil]); unfold maxLen; omega) (by (try simp only [List.length_append, List.length_cons, List.length_nil]); omega) ?_; intro v5 w5 ho hm hb; have HG5 := Lib.hid (GathB.step (G := B) HG4.out (Ext.refl _) ho hm hb); clear ho hm hb))
              have hG := HG5.out
              rw [show [] ++ A ++ [10] ++ B = joinT A B from by simp [joinT]] at hG
              obtain ⟨J1, cj, rfl, hbj⟩ := hG.slice
              have hcj := hG.cap_
              have HX5 := Lib.hid (HX2.out.trans hG.ext)
              have HS5 := Lib.hid (HS2.out.ext hG.ext)
              have HT5 := Lib.hid (HT2.out.ext hG.ext)
              have hjl := jn_len (A := A) (B := B)
              obtain ⟨rfl, hpj⟩ := all_joined hbj (by omega) (by omega) hcj (HG.out.ext HX5.out) hra hrb
              have HPJ := Lib.hid hpj
              have hya := allS_at B
              have hyl := allS_len B
              have hym := allS_end B
              have hxl := allS_len A
              rw [hrb] at hya hyl hym
              rw [hra] at hxl
              simp only at hya hyl hym hxl
              have HYA := Lib.hid hya
              have hw1 : IntKind.i64.wrap ((A.length : Int) + 1) = (A.length : Int) + 1 := IntWalk.i64_in _ (by omega)
              have hw2 : IntKind.i64.wrap ((A.length : Int) + 1 + (m : Int)) = (A.length : Int) + 1 + (m : Int) := IntWalk.i64_in _ (by omega)
              have hw3 : IntKind.i64.wrap ((X.length : Int) + (Y.length : Int)) = (X.length : Int) + (Y.length : Int) := IntWalk.i64_in _ (by omega)
              clear HX1 HX2 HG3 HG4 HG5 hG hbj HS1 HS2 HT2 hjl hcj hra hrb hpj hya
              go_upto_region 7 with (go_at_call 8; refine HPJ.out.mono ?_; rintro e W6 ⟨Z1, d3, rfl, hs, hx⟩; have HS6 := Lib.hid (HS5.out.ext hx); have HT6 := Lib.hid (HT5.out.ext hx); have HU6 := Lib.hid hs; have HX6 := Lib.hid (HX5.out.trans hx); clear hs hx HPJ)
              go_upto_region 9 with (go_at_call 7; refine (lives_any _ (HG.out.ext HX6.out)).mono ?_; rintro e W7 ⟨rfl, hx⟩; have HS7 := Lib.hid (HS6.out.ext hx); have HT7 := Lib.hid (HT6.out.ext hx); have HU7 := Lib.hid (HU6.out.ext hx); have HX7 := Lib.hid (HX6.out.trans hx); clear hx)
              clear HX5 HX6 HS5 HT5 HS6 HT6 HU6
              go_upto_region 12 with fail
              go_loopw [15] (fun i wv => ∃ j : Nat, j ≤ X.length + Y.length ∧ i = .int .i64 j ∧ Hid (Ext W7 wv)) (fun i _ => X.length + Y.length - (intOf i).toNat)
              case atStart => exact ⟨0, Nat.zero_le _, rfl, Ext.refl _⟩
              case round =>
                obtain ⟨i, hi, rfl, HY⟩ := hrel
                by_cases hlt : i < X.length + Y.length
                · by_cases hlo : i < X.length
                  · have ho : X[i]? = some X[i] := List.getElem?_eq_getElem hlo
                    generalize X[i] = t at ho
                    obtain ⟨b, off, rfl, p1, p2, p3, p4, p5⟩ := tok_cells (HS7.out.ext HY.out) ho
                    obtain ⟨b2, off2, rfl, q1, q2, q3, q4, q5⟩ := join_lo (HU7.out.ext HY.out) ho
                    clear ho
                    go_upto_region 15 with fail
                    go_quiet (fail)
                    go_wp2_with fail
                    go_roundw
                    case rel => exact ⟨i + 1, hlt, by go_num, HY.out.drewN _⟩
                    case measure => simp [intOf]; omega
                  · obtain ⟨j, hj⟩ : ∃ j, i = X.length + j := ⟨i - X.length, by omega⟩
                    have hjl : j < Y.length := by omega
                    have ho : Y[j]? = some Y[j] := List.getElem?_eq_getElem hjl
                    have ha := HYA.out Y[j] (List.getElem_mem hjl)
                    generalize Y[j] = t at ho ha
                    obtain ⟨b, off, rfl, p1, p2, p3, p4, p5⟩ := tok_cells (HT7.out.ext HY.out) ho
                    obtain ⟨b2, off2, rfl, q1, q2, q3, q4, q5⟩ := join_hi (HU7.out.ext HY.out) hj ho
                    rw [show t.at_ + ((A.length + 1 : Nat) : Int) = t.at_ + (A.length : Int) + 1 from by omega] at q4
                    have hwt : IntKind.i64.wrap (t.at_ + (A.length : Int)) = t.at_ + (A.length : Int) := IntWalk.i64_in _ (by omega)
                    have hwt2 : IntKind.i64.wrap (t.at_ + (A.length : Int) + 1) = t.at_ + (A.length : Int) + 1 := IntWalk.i64_in _ (by omega)
                    have hI1 : (0 : Int) ≤ (i : Int) - (X.length : Int) := by omega
                    have hI2 : (i : Int) - (X.length : Int) < (Y.length : Int) := by omega
                    have hI3 : ((i : Int) - (X.length : Int)).toNat = j := by omega
                    have hI4 : IntKind.i64.wrap ((i : Int) - (X.length : Int)) = (i : Int) - (X.length : Int) := IntWalk.i64_in _ (by omega)
                    have hj0 : decide (j = 0) = ((i : Int) == (X.length : Int)) := by rw [Bool.eq_iff_iff]; simp only [decide_eq_true_eq, beq_iff_eq]; omega
                    rw [hj0] at q5
                    clear ho hj hj0
                    go_upto_region 18 with fail
                    refine wp_abs (fun V => Hid (Blk V wr.heap.size 30 #[.int .i64 t.kind, .string t.s, .int .i64 t.n, .int .i64 t.at_, .bool t.lay]) ∧ Hid (Ext wr V)) ⟨Blk.new wr _ _, (Ext.refl wr).alloc _⟩ ?_
                    rintro V ⟨KB, KX⟩
                    have k3 : V.cell? ⟨wr.heap.size, 3, none⟩ = some (.int .i64 t.at_) := KB.out.cell 3
                    have k4 : V.cell? ⟨wr.heap.size, 4, none⟩ = some (.bool t.lay) := KB.out.cell 4
                    have f3 := KB.out.frozen 3
                    have f4 := KB.out.frozen 4
                    clear p1 p2 p3 p4 p5
                    cases hl : t.lay
                    · rw [hl] at k4
                      rw [hl, Bool.false_or] at q5
                      go_upto_region 20 with fail
                      refine wp_abs (fun V2 => Hid (Blk V2 wr.heap.size 30 #[.int .i64 t.kind, .string t.s, .int .i64 t.n, .int .i64 (t.at_ + (A.length : Int) + 1), .bool ((i : Int) == (X.length : Int))]) ∧ Hid (Ext wr V2)) ⟨(KB.out.set_ 3 _).set_ 4 _, (KX.out.setCell (p := ⟨wr.heap.size, 3, none⟩) (Nat.le_refl _) _).setCell (p := ⟨wr.heap.size, 4, none⟩) (Nat.le_refl _) _⟩ ?_
                      rintro V2 ⟨KC, KY⟩
                      clear KB KX k3 k4 f3 f4 hl hwt hwt2 hI1 hI2 hI3 hI4
                      have r1 := KY.out.cell q1
                      have r2 := KY.out.cell q2
                      have r3 := KY.out.cell q3
                      have r4 := KY.out.cell q4
                      have r5 := KY.out.cell q5
                      have c0 : V2.cell? ⟨wr.heap.size, 0, none⟩ = some (.int .i64 t.kind) := KC.out.cell 0
                      have c1 : V2.cell? ⟨wr.heap.size, 1, none⟩ = some (.string t.s) := KC.out.cell 1
                      have c2 : V2.cell? ⟨wr.heap.size, 2, none⟩ = some (.int .i64 t.n) := KC.out.cell 2
                      have c3 : V2.cell? ⟨wr.heap.size, 3, none⟩ = some (.int .i64 (t.at_ + (A.length : Int) + 1)) := KC.out.cell 3
                      have c4 : V2.cell? ⟨wr.heap.size, 4, none⟩ = some (.bool ((i : Int) == (X.length : Int))) := KC.out.cell 4
                      have HZ := Lib.hid (HY.out.trans KY.out)
                      clear q1 q2 q3 q4 q5 KC KY HY
                      go_quiet (fail)
                      go_wp2_with fail
                      go_roundw
                      case rel => exact ⟨i + 1, hlt, by go_num, HZ.out.drewN _⟩
                      case measure => simp [intOf]; omega
                    · rw [hl] at k4
                      rw [hl, Bool.true_or] at q5
                      go_upto_region 20 with fail
                      refine wp_abs (fun V2 => Hid (Blk V2 wr.heap.size 30 #[.int .i64 t.kind, .string t.s, .int .i64 t.n, .int .i64 (t.at_ + (A.length : Int) + 1), .bool (true)]) ∧ Hid (Ext wr V2)) ⟨(KB.out.set_ 3 _).set_ 4 _, (KX.out.setCell (p := ⟨wr.heap.size, 3, none⟩) (Nat.le_refl _) _).setCell (p := ⟨wr.heap.size, 4, none⟩) (Nat.le_refl _) _⟩ ?_
                      rintro V2 ⟨KC, KY⟩
                      clear KB KX k3 k4 f3 f4 hl hwt hwt2 hI1 hI2 hI3 hI4
                      have r1 := KY.out.cell q1
                      have r2 := KY.out.cell q2
                      have r3 := KY.out.cell q3
                      have r4 := KY.out.cell q4
                      have r5 := KY.out.cell q5
                      have c0 : V2.cell? ⟨wr.heap.size, 0, none⟩ = some (.int .i64 t.kind) := KC.out.cell 0
                      have c1 : V2.cell? ⟨wr.heap.size, 1, none⟩ = some (.string t.s) := KC.out.cell 1
                      have c2 : V2.cell? ⟨wr.heap.size, 2, none⟩ = some (.int .i64 t.n) := KC.out.cell 2
                      have c3 : V2.cell? ⟨wr.heap.size, 3, none⟩ = some (.int .i64 (t.at_ + (A.length : Int) + 1)) := KC.out.cell 3
                      have c4 : V2.cell? ⟨wr.heap.size, 4, none⟩ = some (.bool (true)) := KC.out.cell 4
                      have HZ := Lib.hid (HY.out.trans KY.out)
                      clear q1 q2 q3 q4 q5 KC KY HY
                      go_quiet (fail)
                      go_wp2_with fail
                      go_roundw
                      case rel => exact ⟨i + 1, hlt, by go_num, HZ.out.drewN _⟩
                      case measure => simp [intOf]; omega
                · obtain rfl : i = X.length + Y.length := by omega
                  go_wp2_with fail
                  go_ret
                  exact ⟨rfl, HX7.out.trans HY.out⟩
            · subst hea
              clear hra hrb
              go_enter Tryd.func6, Tryd.ntmps6
              go_upto_region 4 with (go_at_call 8; refine HPA.out.mono ?_; rintro e W1 ⟨v, rfl, ht, hx⟩; obtain ⟨X1, d1, rfl, _, hs⟩ := ht; have HS1 := Lib.hid hs; have HX1 := Lib.hid hx; clear hs hx HPA)
              go_upto_region 5 with (go_at_call 8; refine (HPB _ HX1.out).out.mono ?_; rintro e W2 ⟨v, rfl, ht, hx⟩; obtain ⟨Y1, d2, rfl, _, hs⟩ := ht; have HT2 := Lib.hid hs; have HS2 := Lib.hid (HS1.out.ext hx); have HX2 := Lib.hid (HX1.out.trans hx); clear hs hx HPB)
              go_upto_region 6 with (first | (at_builtin; refine wpList_append_src (P := Tryd.prog) rfl (.tmp 38) (.tmp 39) 22 rfl 5 i1 _ 1 1 Tryd.underlying22 hi1 hz0 hz1 hz2 rfl (by omega) (.slice (some ⟨W2.heap.size, 0, none⟩) 0 0) rfl _ _ _ rfl 0 [] (GathB.empty W2 |>.own) (A.map u8V) (H1.out.ext (HX2.out.trans ((Ext.refl W2).alloc _))) (u8_one A) (by (try simp only [List.length_append, List.length_cons, List.length_nil]); unfold maxLen; omega) (by (try simp only [List.length_append, List.length_cons, List.length_nil]); omega) ?_; intro v3 w3 ho hm hb; have HG3 := Lib.hid (GathB.step (G := A) (GathB.empty W2) (Ext.refl _) ho hm hb); clear ho hm hb) | (at_builtin; refine wpList_append_src (P := Tryd.prog) rfl (.tmp 40) (.tmp 41) 22 rfl 5 i1 _ 1 1 Tryd.underlying22 hi1 hz0 hz1 hz2 rfl (by omega) v3 rfl _ _ _ rfl A.length (A.map u8V) (own_ext HG3.out.own ((Ext.refl w3).alloc _)) [.int .u8 10] (El.Src.new _ #[.int .u8 10] _ 1 1 rfl) (u8_one [10]) (by (try simp only [List.length_append, List.length_cons, List.length_nil]); unfold maxLen; omega) (by (try simp only [List.length_append, List.length_cons, List.length_nil]); omega) ?_; intro v4 w4 ho hm hb; have HG4 := Lib.hid (GathB.step (G := [10]) HG3.out ((Ext.refl w3).alloc _) ho hm hb); clear ho hm hb) | (at_builtin; refine wpList_append_src (P := Tryd.prog) rfl (.tmp 42) (.tmp 43) 22 rfl 5 i1 _ 1 1 Tryd.underlying22 hi1 hz0 hz1 hz2 rfl (by omega) v4 rfl _ _ _ rfl (A ++ [10]).length ((A ++ [10]).map u8V) (HG4.out.own) (B.map u8V) (H2.out.ext (HX2.out.trans HG4.out.ext)) (u8_one B) (by (try simp only [List.length_append, List.length_cons, List.length_nil]); unfold maxLen; omega) (by (try simp only [List.length_append, List.length_cons, List.length_nil]); omega) ?_; intro v5 w5 ho hm hb; have HG5 := Lib.hid (GathB.step (G := B) HG4.out (Ext.refl _) ho hm hb); clear ho hm hb))
              have hG := HG5.out
              rw [show [] ++ A ++ [10] ++ B = joinT A B from by simp [joinT]] at hG
              obtain ⟨J1, cj, rfl, hbj⟩ := hG.slice
              have hcj := hG.cap_
              have HX5 := Lib.hid (HX2.out.trans hG.ext)
              have HS5 := Lib.hid (HS2.out.ext hG.ext)
              have HT5 := Lib.hid (HT2.out.ext hG.ext)
              have hjl := jn_len (A := A) (B := B)
              have HPJ := Lib.hid (pAll_any J1 cj (joinT A B) w5 hbj (by omega) hcj (HG.out.ext HX5.out))
              generalize allS (joinT A B) = r at HPJ
              obtain ⟨Z, k, gg⟩ := r
              unfold AllOut at HPJ
              clear HX1 HX2 HG3 HG4 HG5 hG hbj HS1 HS2 HT2 HS5 HT5 hjl hcj
              go_upto_region 7 with (go_at_call 8; refine HPJ.out.mono ?_; rintro e W6 ⟨v, rfl, ht, hx⟩; obtain ⟨Z1, d3, rfl, _, _⟩ := ht; have HX6 := Lib.hid (HX5.out.trans hx); clear hx HPJ)
              go_upto_region 8 with (go_at_call 7; refine (lives_any _ (HG.out.ext HX6.out)).mono ?_; rintro e W7 ⟨rfl, hx⟩; have HX7 := Lib.hid (HX6.out.trans hx); clear hx)
              go_wp2_with (go_at_call 7; refine (lives_any _ (HG.out.ext HX7.out)).mono ?_; rintro e W8 ⟨rfl, hx⟩; have HX8 := Lib.hid (HX7.out.trans hx); clear hx)
              go_ret
              exact ⟨rfl, HX8.out⟩
          · clear hra hrb
            go_enter Tryd.func6, Tryd.ntmps6
            go_upto_region 4 with (go_at_call 8; refine HPA.out.mono ?_; rintro e W1 ⟨v, rfl, ht, hx⟩; obtain ⟨X1, d1, rfl, _, hs⟩ := ht; have HS1 := Lib.hid hs; have HX1 := Lib.hid hx; clear hs hx HPA)
            go_upto_region 5 with (go_at_call 8; refine (HPB _ HX1.out).out.mono ?_; rintro e W2 ⟨v, rfl, ht, hx⟩; obtain ⟨Y1, d2, rfl, _, hs⟩ := ht; have HT2 := Lib.hid hs; have HS2 := Lib.hid (HS1.out.ext hx); have HX2 := Lib.hid (HX1.out.trans hx); clear hs hx HPB)
            go_upto_region 6 with (first | (at_builtin; refine wpList_append_src (P := Tryd.prog) rfl (.tmp 38) (.tmp 39) 22 rfl 5 i1 _ 1 1 Tryd.underlying22 hi1 hz0 hz1 hz2 rfl (by omega) (.slice (some ⟨W2.heap.size, 0, none⟩) 0 0) rfl _ _ _ rfl 0 [] (GathB.empty W2 |>.own) (A.map u8V) (H1.out.ext (HX2.out.trans ((Ext.refl W2).alloc _))) (u8_one A) (by (try simp only [List.length_append, List.length_cons, List.length_nil]); unfold maxLen; omega) (by (try simp only [List.length_append, List.length_cons, List.length_nil]); omega) ?_; intro v3 w3 ho hm hb; have HG3 := Lib.hid (GathB.step (G := A) (GathB.empty W2) (Ext.refl _) ho hm hb); clear ho hm hb) | (at_builtin; refine wpList_append_src (P := Tryd.prog) rfl (.tmp 40) (.tmp 41) 22 rfl 5 i1 _ 1 1 Tryd.underlying22 hi1 hz0 hz1 hz2 rfl (by omega) v3 rfl _ _ _ rfl A.length (A.map u8V) (own_ext HG3.out.own ((Ext.refl w3).alloc _)) [.int .u8 10] (El.Src.new _ #[.int .u8 10] _ 1 1 rfl) (u8_one [10]) (by (try simp only [List.length_append, List.length_cons, List.length_nil]); unfold maxLen; omega) (by (try simp only [List.length_append, List.length_cons, List.length_nil]); omega) ?_; intro v4 w4 ho hm hb; have HG4 := Lib.hid (GathB.step (G := [10]) HG3.out ((Ext.refl w3).alloc _) ho hm hb); clear ho hm hb) | (at_builtin; refine wpList_append_src (P := Tryd.prog) rfl (.tmp 42) (.tmp 43) 22 rfl 5 i1 _ 1 1 Tryd.underlying22 hi1 hz0 hz1 hz2 rfl (by omega) v4 rfl _ _ _ rfl (A ++ [10]).length ((A ++ [10]).map u8V) (HG4.out.own) (B.map u8V) (H2.out.ext (HX2.out.trans HG4.out.ext)) (u8_one B) (by (try simp only [List.length_append, List.length_cons, List.length_nil]); unfold maxLen; omega) (by (try simp only [List.length_append, List.length_cons, List.length_nil]); omega) ?_; intro v5 w5 ho hm hb; have HG5 := Lib.hid (GathB.step (G := B) HG4.out (Ext.refl _) ho hm hb); clear ho hm hb))
            have hG := HG5.out
            rw [show [] ++ A ++ [10] ++ B = joinT A B from by simp [joinT]] at hG
            obtain ⟨J1, cj, rfl, hbj⟩ := hG.slice
            have hcj := hG.cap_
            have HX5 := Lib.hid (HX2.out.trans hG.ext)
            have HS5 := Lib.hid (HS2.out.ext hG.ext)
            have HT5 := Lib.hid (HT2.out.ext hG.ext)
            have hjl := jn_len (A := A) (B := B)
            have HPJ := Lib.hid (pAll_any J1 cj (joinT A B) w5 hbj (by omega) hcj (HG.out.ext HX5.out))
            generalize allS (joinT A B) = r at HPJ
            obtain ⟨Z, k, gg⟩ := r
            unfold AllOut at HPJ
            clear HX1 HX2 HG3 HG4 HG5 hG hbj HS1 HS2 HT2 HS5 HT5 hjl hcj
            go_upto_region 7 with (go_at_call 8; refine HPJ.out.mono ?_; rintro e W6 ⟨v, rfl, ht, hx⟩; obtain ⟨Z1, d3, rfl, _, _⟩ := ht; have HX6 := Lib.hid (HX5.out.trans hx); clear hx HPJ)
            go_upto_region 8 with (go_at_call 7; refine (lives_any _ (HG.out.ext HX6.out)).mono ?_; rintro e W7 ⟨rfl, hx⟩; have HX7 := Lib.hid (HX6.out.trans hx); clear hx)
            go_wp2_with (go_at_call 7; refine (lives_any _ (HG.out.ext HX7.out)).mono ?_; rintro e W8 ⟨rfl, hx⟩; have HX8 := Lib.hid (HX7.out.trans hx); clear hx)
            go_ret
            exact ⟨rfl, HX8.out⟩

end Go.Proofs.YtgjdajkkncdhmaaDoor
