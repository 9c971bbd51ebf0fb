/- Layer 9, the reference: the walk of Same. -/
import Derived.Test.YtckkbghmiomfiaaDoorROper2
namespace Go.Proofs.YtckkbghmiomfiaaDoor
open Go.RowKit Go.El

set_option maxHeartbeats 1600000 in
theorem same_any (v1 v2 : Value) (L M : List OpV) (w : World) (h1 : SliceO w v1 L) (h2 : SliceO w v2 M) (hb1 : L.length ≤ 100000) (hb2 : M.length ≤ 100000) :
    Calls Tryd.prog 11 #[v1, v2] w fun e w' => e = .returned (.bool (decide (L = M))) ∧ Ext w w' := by
  by_cases hl : L.length = M.length
  · have hl' : ((L.length : Int) == (M.length : Int)) = true := by rw [hl]; simp
    rcases h1.form with ⟨rfl, A1, c1, rfl⟩ | ⟨b1, f1, c1, rfl, hc1⟩
    · obtain rfl : M = [] := List.eq_nil_of_length_eq_zero (by simpa using hl.symm)
      obtain ⟨A2, c2, rfl, _⟩ := h2
      clear h1 hl hl' hb1 hb2
      go_enter Tryd.func11, Tryd.ntmps11
      go_wp2_with fail
      go_loop [5] (fun i => i = .int .i64 0) (fun _ => 0)
      case atStart => rfl
      case round =>
        obtain rfl := hrel
        go_wp2_with fail
        go_ret
        exact ⟨rfl, Ext.refl _⟩
    rcases h2.form with ⟨rfl, A2, c2, rfl⟩ | ⟨b2, f2, c2, rfl, hc2⟩
    · obtain rfl : L = [] := List.eq_nil_of_length_eq_zero (by simpa using hl)
      clear h1 h2 hl hl' hb1 hb2 hc1
      go_enter Tryd.func11, Tryd.ntmps11
      go_wp2_with fail
      go_loop [5] (fun i => i = .int .i64 0) (fun _ => 0)
      case atStart => rfl
      case round =>
        obtain rfl := hrel
        go_wp2_with fail
        go_ret
        exact ⟨rfl, Ext.refl _⟩
    have hl2 : ((L.length : Int) != (M.length : Int)) = false := by rw [hl]; simp
    have HL := Lib.hid hl
    have HC1 := Lib.hid hc1
    have HC2 := Lib.hid hc2
    have hlm : L.length ≤ M.length := by omega
    clear h1 h2 hl hc1 hc2
    go_enter Tryd.func11, Tryd.ntmps11
    go_wp2_with fail
    go_loopw [5] (fun i wr => ∃ k : Nat, k ≤ L.length ∧ i = .int .i64 k ∧ Ext w wr ∧ ∀ j, j < k → L[j]? = M[j]?) (fun i _ => L.length - (intOf i).toNat)
    case atStart => exact ⟨0, Nat.zero_le _, rfl, Ext.refl _, fun j hj => absurd hj (Nat.not_lt_zero j)⟩
    case round =>
      obtain ⟨k, hk, rfl, hx, hall⟩ := hrel
      by_cases hlt : k < L.length
      · have ho1 : L[k]? = some L[k] := List.getElem?_eq_getElem hlt
        have hlt2 : k < M.length := by omega
        have ho2 : M[k]? = some M[k] := List.getElem?_eq_getElem hlt2
        generalize L[k] = o1 at ho1
        generalize M[k] = o2 at ho2
        obtain ⟨p1, q1, r1⟩ := HC1.out k o1 ho1
        obtain ⟨p2, q2, r2⟩ := HC2.out k o2 ho2
        have P1 := hx.cell p1
        have Q1 := hx.cell q1
        have R1 := hx.cell r1
        have P2 := hx.cell p2
        have Q2 := hx.cell q2
        have R2 := hx.cell r2
        clear p1 q1 r1 p2 q2 r2
        have HO1 := Lib.hid ho1
        have HO2 := Lib.hid ho2
        have HA := Lib.hid hall
        clear ho1 ho2 hall
        by_cases he : o1 = o2
        · subst he
          go_wp2_with fail
          go_quiet (fail)
          go_wp2_with fail
          go_roundw
          case rel =>
            refine ⟨k + 1, hlt, by go_num, hx.drewN _, fun j hj => ?_⟩
            by_cases hjk : j = k
            · subst hjk; rw [HO1.out, HO2.out]
            · exact HA.out j (by omega)
          case measure => simp [intOf]; omega
        · have HN : Hid (decide (L = M) = false) := decide_eq_false (fun e => he (by
            have h1 := HO1.out
            rw [e, HO2.out] at h1
            exact (Option.some.inj h1).symm))
          have hd : ((o1.p == o2.p) = false) ∨ (o1.p = o2.p ∧ ((o1.t == o2.t) = false)) ∨ (o1.p = o2.p ∧ o1.t = o2.t ∧ (o1.s.toList == o2.s.toList) = false) := by
            by_cases g1 : o1.p = o2.p
            · by_cases g2 : o1.t = o2.t
              · refine .inr (.inr ⟨g1, g2, isR_bne (fun g3 => he ?_)⟩)
                cases o1; cases o2; simp_all
              · exact .inr (.inl ⟨g1, by simpa using g2⟩)
            · exact .inl (by simpa using g1)
          obtain ⟨x1, x2, x3⟩ := o1
          obtain ⟨y1, y2, y3⟩ := o2
          clear he HO1 HO2
          dsimp only at P1 Q1 R1 P2 Q2 R2 hd
          rcases hd with hd | ⟨rfl, hd⟩ | ⟨rfl, rfl, hd⟩
          all_goals
            go_wp2_with fail
            go_quiet (fail)
            go_wp2_with fail
            go_ret
            exact ⟨by rw [HN.out]; rfl, hx.drewN _⟩
      · have HE : Hid (decide (L = M) = true) := decide_eq_true (List.ext_getElem? fun j => by
          by_cases hj : j < k
          · exact hall j hj
          · rw [List.getElem?_eq_none (by omega), List.getElem?_eq_none (by have := HL.out; omega)])
        clear hall
        go_wp2_with fail
        go_ret
        exact ⟨by rw [HE.out]; rfl, hx⟩
  · have hne : decide (L = M) = false := decide_eq_false (fun e => hl (by rw [e]))
    obtain ⟨A1, c1, rfl, _⟩ := h1
    obtain ⟨A2, c2, rfl, _⟩ := h2
    have hl' : ((L.length : Int) != (M.length : Int)) = true := by rw [bne_iff_ne]; omega
    have HN := Lib.hid hne
    clear hne hl
    go_enter Tryd.func11, Tryd.ntmps11
    go_wp2_with fail
    go_ret
    exact ⟨by rw [HN.out]; rfl, Ext.refl _⟩

end Go.Proofs.YtckkbghmiomfiaaDoor
