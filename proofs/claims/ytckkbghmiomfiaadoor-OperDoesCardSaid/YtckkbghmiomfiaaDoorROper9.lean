/- Layer 9, the reference: All. -/
import Derived.Test.YtckkbghmiomfiaaDoorReg8
namespace Go.Proofs.YtckkbghmiomfiaaDoor
open Go.RowKit Go.El

set_option maxRecDepth 100000 in
set_option maxHeartbeats 8000000 in
theorem rAll_any (rb : Nat) (v : Value) (L : List OpV) (w : World) (h : RefAt 32 w rb v L) (hL : L.length ≤ 1000) :
    Calls Tryd.prog 13 #[.pointer (some ⟨rb, 0, none⟩)] w fun e w' => ∃ v', e = .returned v' ∧ w'.ownsRow 0 32 3 v' (allR L).length (flat opCells (allR L)) ∧ (∀ b, v'.ownBlock = some b → w.heap.size ≤ b) ∧ Ext w w' := by
  have H := Lib.hid h
  obtain ⟨i0, hi0, hz0, hz1, hz2⟩ := info_parts opInfo
  have h0 := h.cell
  rcases h.form with ⟨rfl, rfl⟩ | ⟨g, c0, rfl, hcs⟩
  · clear h
    go_enter Tryd.func13, Tryd.ntmps13
    go_wp2_with fail
    go_loop [3, 4] (fun v i => v = .slice none 0 0 ∧ i = .int .i64 0) (fun _ _ => 0)
    case atStart => exact ⟨rfl, rfl⟩
    case round =>
      obtain ⟨rfl, rfl⟩ := hrel
      go_wp2_with fail
      go_ret
      exact ⟨.slice none 0 0, rfl, World.ownsRow_nil _ _ _ _, fun b hb => by simp [Value.ownBlock] at hb, Ext.refl _⟩
  have hcL : L.length ≤ c0 := own_cap h.own
  have HL := Lib.hid hL
  have hcs2 := Lib.hid hcs
  clear h hcs
  go_enter Tryd.func13, Tryd.ntmps13
  go_wp2_with fail
  go_loopw [3, 4] (fun v i wr => ∃ k : Nat, k ≤ L.length ∧ i = .int .i64 k ∧ wr.ownsRow 0 32 3 v (allR (L.take k)).length (flat opCells (allR (L.take k))) ∧ Hid (∀ b, v.ownBlock = some b → w.heap.size ≤ b) ∧ Hid (Ext w wr)) (fun _ i _ => L.length - (intOf i).toNat)
  case atStart => exact ⟨0, Nat.zero_le _, rfl, World.ownsRow_nil _ _ _ _, (fun b hb => by simp [Value.ownBlock] at hb), Ext.refl _⟩
  case round =>
    obtain ⟨k, hk, rfl, hown, HF, HX⟩ := hrel
    have k0 := HX.out.cell h0
    by_cases hlt : k < L.length
    · have ho : L[k]? = some L[k] := List.getElem?_eq_getElem hlt
      generalize L[k] = x at ho
      have HO := Lib.hid ho
      have HPE := Lib.hid (allR_take L ho)
      have hOl : (allR (L.take k)).length ≤ 1000 := by
        rw [(allR_perm _).length_eq, List.length_take]; omega
      generalize allR (L.take k) = O at hown HPE hOl
      obtain ⟨A2, c2, rfl⟩ := own_value hown
      have HOW := Lib.hid hown
      have HSR := Lib.hid (El.Src.of_own hown)
      obtain ⟨p0, p1, p2, _⟩ := hcs2.out k x ho
      have P0 := HX.out.cell p0
      have P1 := HX.out.cell p1
      have P2 := HX.out.cell p2
      clear ho hown p0 p1 p2
      go_wp2_with fail
      obtain ⟨wo, rfl⟩ : ∃ wo : World, wo = wr := ⟨_, rfl⟩
      have hpl := posO_le x O
      go_loopw [5] (fun i wr => ∃ j : Nat, j ≤ posO x O ∧ i = .int .i64 j ∧ Hid (Ext wo wr)) (fun i _ => posO x O + 1 - (intOf i).toNat)
      case atStart => exact ⟨0, Nat.zero_le _, rfl, Ext.refl _⟩
      case round =>
        obtain ⟨j, hj, rfl, HY⟩ := hrel
        go_upto_region 6 with fail
        go_cut [32] (fun z wx => z = .bool (decide (j < posO x O)) ∧ Hid (Ext wo wx))
        case first =>
          by_cases hjl : j < O.length
          · obtain ⟨b, off, rfl, d0, d1, d2⟩ := src_op (HSR.out.ext HY.out) hjl
            have hoj : O[j]? = some O[j] := List.getElem?_eq_getElem hjl
            have hps := pos_step x O[j] O j hj hoj
            generalize O[j] = y at d0 d1 d2 hps
            clear hoj
            have hS0 := all2_keep (w0 := wo) ((Ext.refl _).drew) (rb := rb) (v := .slice (some ⟨g, 0, none⟩) L.length c0) (b := b) (off := off + j * 3) (y := y) (g := g) (f := k * 3) (x := x) ⟨HY.out.cell k0, d0, d1, d2, HY.out.cell P0, HY.out.cell P1, HY.out.cell P2, HY.out⟩
            have hah := fun V => ahead_any y x V
            simp only [opVal_eq] at hah
            cases hlo : ltO y x
            all_goals
              have HQ : Hid (decide (j < posO x O) = ltO y x) := by
                rw [hlo]
                first
                  | exact decide_eq_false (by have := hps.2 hlo; omega)
                  | exact decide_eq_true (by have := hps.1 hlo; omega)
              rw [hlo] at hah
              rw [hlo] at HQ
              clear hps hlo
              go_region_held3 (fun w' => w'.cell? ⟨rb, 0, none⟩ = some (.slice (some ⟨g, 0, none⟩) L.length c0) ∧ w'.cell? ⟨b, off + j * 3, none⟩ = some (.int .i64 y.p) ∧ w'.cell? ⟨b, off + j * 3 + 1, none⟩ = some (.int .i64 y.t) ∧ w'.cell? ⟨b, off + j * 3 + 2, none⟩ = some (.string y.s) ∧ w'.cell? ⟨g, k * 3, none⟩ = some (.int .i64 x.p) ∧ w'.cell? ⟨g, k * 3 + 1, none⟩ = some (.int .i64 x.t) ∧ w'.cell? ⟨g, k * 3 + 2, none⟩ = some (.string x.s) ∧ Hid (Ext wo w'))
                (first | assumption | (exact all2_keep (by assumption) (by assumption)) | (exact all2_keep (ext_box _ _) (by assumption)) | (exact all2_keep ((Ext.refl _).drew) (by assumption)))
                ((go_at_call 40; refine (hah _).mono ?_; clear hah; rintro e w1 ⟨rfl, x1⟩))
              go_wp2_with fail
              go_meet
              have hZ := ‹_ ∧ _ ∧ _ ∧ _ ∧ _ ∧ _ ∧ _ ∧ Hid (Ext wo w1)›
              exact ⟨by rw [HQ.out], hZ.2.2.2.2.2.2.2⟩
          · have HQ : Hid (decide (j < posO x O) = false) := decide_eq_false (by omega)
            have hjn : decide ((j : Int) < (O.length : Int)) = false := decide_eq_false (by omega)
            go_quiet (fail)
            go_wp2_with fail
            go_meet
            exact ⟨by rw [HQ.out], HY.out.drewN _⟩
        case rest =>
          obtain ⟨rfl, HZ⟩ := hcut
          by_cases hq : j < posO x O
          · have hq' : decide (j < posO x O) = true := decide_eq_true hq
            go_wp2_with fail
            go_roundw
            case rel => exact ⟨j + 1, hq, by go_num, HZ⟩
            case measure => simp [intOf]; omega
          · have hq' : decide (j < posO x O) = false := decide_eq_false hq
            obtain rfl : j = posO x O := by omega
            go_upto_region 8 with fail
            have hxV := HX.out.trans HZ.out
            have q0 := HZ.out.cell k0
            have Q0 := HZ.out.cell P0
            have Q1 := HZ.out.cell P1
            have Q2 := HZ.out.cell P2
            have HSV := Lib.hid (HSR.out.ext HZ.out)
            have hrb : rb < wc.heap.size := cell_lt q0
            have hgl : g < wc.heap.size := cell_lt Q0
            clear hq hq' hj P0 P1 P2 k0
            have hform := HOW.out.2
            rcases hform with ⟨hv, hn0⟩ | ⟨g2, cap, cur, hv, _, _, hcap1, _, _⟩
            · obtain ⟨rfl, rfl⟩ : A2 = none ∧ c2 = 0 := by
                injection hv with e1 e2 e3
                exact ⟨e1, e3⟩
              obtain rfl : O = [] := List.eq_nil_of_length_eq_zero hn0
              clear hv hn0
              refine reg8_nil rb g k L.length c0 x wc _ _ _ _ _ _ _ _ _ _ _ _ _ _ _ _ _ _ _ _ _ _ _ _ _ _ _ _ _ _ _ _ _ _ _ _ _ _ _ _ _ _ _ _ _ _ _ _ _ _ _ hlt q0 Q0 Q1 Q2 ?_
              · intro y35 y36 y37 y38 y39 y40 y41 y42 y43 y44 y45 y46 y47 y48 y49 y50 y51 y52 z w5 ho5 hf5 hx5
                have HO5 := Lib.hid ho5
                have HF5 := Lib.hid hf5
                clear ho5 hf5
                go_wp2_with fail
                go_roundw
                case rel => exact ⟨k + 1, hlt, by go_num, by rw [HPE.out]; exact HO5.out, fun b hb => Nat.le_trans hxV.size (HF5.out b hb), hxV.trans hx5⟩
                case measure => simp [intOf]; omega
            · obtain ⟨rfl, _, rfl⟩ : A2 = some ⟨g2, 0, none⟩ ∧ O.length = O.length ∧ c2 = cap := by
                injection hv with e1 e2 e3
                exact ⟨e1, rfl, e3⟩
              clear hv
              by_cases hck : c2 = posO x O
              · have hpq : posO x O = O.length := by omega
                subst hck
                rw [hpq]
                refine reg8_end rb g k L.length c0 x O g2 hpq wc _ _ _ _ _ _ _ _ _ _ _ _ _ _ _ _ _ _ _ _ _ _ _ _ _ _ _ _ _ _ _ _ _ _ _ _ _ _ _ _ _ _ _ _ _ _ _ _ _ _ _ hlt hOl (Nat.le_refl _) q0 Q0 Q1 Q2 HSV.out ?_
                intro y35 y36 y37 y38 y39 y40 y41 y42 y43 y44 y45 y46 y47 y48 y49 y50 y51 y52 z w5 ho5 hf5 hx5
                have HO5 := Lib.hid ho5
                have HF5 := Lib.hid hf5
                clear ho5 hf5
                go_wp2_with fail
                go_roundw
                case rel => exact ⟨k + 1, hlt, by go_num, by rw [HPE.out]; exact HO5.out, fun b hb => Nat.le_trans hxV.size (HF5.out b hb), hxV.trans hx5⟩
                case measure => simp [intOf]; omega
              · refine reg8_in rb g k L.length c0 x O g2 c2 _ hcap1 hck rfl wc _ _ _ _ _ _ _ _ _ _ _ _ _ _ _ _ _ _ _ _ _ _ _ _ _ _ _ _ _ _ _ _ _ _ _ _ _ _ _ _ _ _ _ _ _ _ _ _ _ _ _ hlt hOl hpl q0 Q0 Q1 Q2 HSV.out ?_
                intro y35 y36 y37 y38 y39 y40 y41 y42 y43 y44 y45 y46 y47 y48 y49 y50 y51 y52 z w5 ho5 hf5 hx5
                have HO5 := Lib.hid ho5
                have HF5 := Lib.hid hf5
                clear ho5 hf5
                go_wp2_with fail
                go_roundw
                case rel => exact ⟨k + 1, hlt, by go_num, by rw [HPE.out]; exact HO5.out, fun b hb => Nat.le_trans hxV.size (HF5.out b hb), hxV.trans hx5⟩
                case measure => simp [intOf]; omega
    · obtain rfl : k = L.length := by omega
      rw [List.take_length] at hown
      have HOW := Lib.hid hown
      clear hown
      go_wp2_with fail
      go_ret
      exact ⟨_, rfl, HOW.out, HF.out, HX.out⟩

end Go.Proofs.YtckkbghmiomfiaaDoor
