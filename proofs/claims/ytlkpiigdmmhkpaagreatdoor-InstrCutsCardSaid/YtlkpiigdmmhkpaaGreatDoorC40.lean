/- Layer 16: the walks of large, InstrCuts. -/
import Derived.Test.YtlkpiigdmmhkpaaGreatDoorC39
namespace Go.Proofs.YtlkpiigdmmhkpaaGreatDoor
open Go.RowKit Go.El

def largeI (l : List Ins) : Bool := (l.take 300).any (fun i => decide (300 < i.s.size)) || (decide (200 < l.length) && decide (l.length ≤ 4096))
theorem any_no {l : List Ins} {k : Nat} (hk : k < l.length) (h : (l.take k).any (fun i => decide (300 < i.s.size)) = false) (hs : ¬ 300 < l[k].s.size) : (l.take (k + 1)).any (fun i => decide (300 < i.s.size)) = false := by
  rw [List.take_succ_eq_append_getElem hk, List.any_append, h]
  simp
  omega
theorem any_yes {l : List Ins} {k : Nat} (hk : k < l.length) (h3 : k < 300) (hs : 300 < l[k].s.size) : (l.take 300).any (fun i => decide (300 < i.s.size)) = true := by
  rw [List.any_eq_true]
  refine ⟨l[k], ?_, decide_eq_true hs⟩
  rw [List.mem_take_iff_getElem]
  exact ⟨k, by omega, rfl⟩

set_option maxRecDepth 100000 in
set_option maxHeartbeats 2000000 in
theorem large_any (l : List Ins) (c : Nat) (A : Option Addr) (w : World) (hS : El.Src w A l.length 5 (flat insCells l)) (hlm : l.length ≤ 9223372036854775807) :
    Calls Tryz.prog 15 #[.slice A l.length c] w fun e w' => e = .returned (.bool (largeI l)) ∧ w = w' := by
  have HS := Lib.hid hS
  clear hS
  go_enter Tryz.func15, Tryz.ntmps15
  go_wp2_with fail
  go_loopw [3] (fun i wr => ∃ k : Nat, k ≤ l.length ∧ k ≤ 300 ∧ i = .int .i64 k ∧ w = wr ∧ Hid ((l.take k).any (fun i => decide (300 < i.s.size)) = false)) (fun i _ => 300 - (intOf i).toNat)
  case atStart => exact ⟨0, Nat.zero_le _, by omega, rfl, rfl, Lib.hid rfl⟩
  case round =>
    obtain ⟨k, hk, hk3, rfl, rfl, HN⟩ := hrel
    by_cases hlt : k < l.length
    · by_cases h3 : k < 300
      · obtain ⟨bl, off, rfl, c0, c1, c2, c3, c4⟩ := src_ins HS.out hlt
        clear c0 c2 c3 c4
        have d1 : (k : Int) < l.length := by omega
        have d3 : (k : Int) < 300 := by omega
        by_cases hs : 300 < l[k].s.size
        · have HR : Hid (largeI l = true) := Lib.hid (by unfold largeI; rw [any_yes hlt h3 hs]; rfl)
          generalize l[k].s = s at *
          go_wp2_with fail
          go_ret
          exact ⟨by rw [HR.out]; rfl, rfl⟩
        · have HN2 := Lib.hid (any_no hlt HN.out hs)
          generalize l[k].s = s at *
          go_wp2_with fail
          go_roundw
          case rel => exact ⟨k + 1, hlt, h3, by go_num, trivial, HN2⟩
          case measure => simp [intOf]; omega
      · obtain rfl : k = 300 := by omega
        by_cases hb : l.length ≤ 4096
        · have HR : Hid (largeI l = true) := Lib.hid (by unfold largeI; rw [HN.out]; simp; omega)
          have d1 : (200 : Int) < l.length := by omega
          have d2 : (l.length : Int) ≤ 4096 := by omega
          have d3 : (300 : Int) < l.length := by omega
          clear hlt h3
          go_wp2_with fail
          go_ret
          exact ⟨by rw [HR.out]; rfl, rfl⟩
        · have HR : Hid (largeI l = false) := Lib.hid (by unfold largeI; rw [HN.out]; simp; omega)
          have d1 : (200 : Int) < l.length := by omega
          have d2 : ¬ (l.length : Int) ≤ 4096 := by omega
          have d3 : (300 : Int) < l.length := by omega
          clear hlt h3
          go_wp2_with fail
          go_ret
          exact ⟨by rw [HR.out]; rfl, rfl⟩
    · obtain rfl : k = l.length := by omega
      by_cases h2 : 200 < l.length
      · have HR : Hid (largeI l = true) := Lib.hid (by unfold largeI; simp; omega)
        have d1 : (200 : Int) < l.length := by omega
        have d2 : (l.length : Int) ≤ 4096 := by omega
        go_wp2_with fail
        go_ret
        exact ⟨by rw [HR.out]; rfl, rfl⟩
      · have HR : Hid (largeI l = false) := Lib.hid (by
          unfold largeI
          rw [List.take_of_length_le (by omega)]
          have := HN.out
          rw [List.take_length] at this
          rw [this]
          simp
          omega)
        have d1 : ¬ (200 : Int) < l.length := by omega
        go_wp2_with fail
        go_ret
        exact ⟨by rw [HR.out]; rfl, rfl⟩

set_option maxRecDepth 100000 in
set_option maxHeartbeats 4000000 in
theorem instrCuts_any (l : List Ins) (arity n : Int) (c : Nat) (A : Option Addr) (w : World) (he : Env w) (hS : El.Src w A l.length 5 (flat insCells l)) (hlm : l.length ≤ 9223372036854775807) (hc : l.length ≤ c) :
    Calls Tryz.prog 5 #[.slice A l.length c, .int .i64 arity, .int .i64 n] w fun e w' => e = .returned (.bool true) ∧ Ext w w' := by
  have HL := Lib.hid (large_any l c A w hS hlm)
  have HV := fun W (x : Ext w W) => Lib.hid (lives_any W (he.ext x))
  have HS := Lib.hid hS
  have HE := Lib.hid he
  clear he hS
  cases hb : largeI l
  · rw [hb] at HL
    clear hb
    by_cases hn : n < 0
    · clear HS
      go_enter Tryz.func5, Tryz.ntmps5
      go_wp2_with (first | (go_at_call 15; refine HL.out.mono ?_; rintro e W1 ⟨rfl, rfl⟩) | (go_at_call 6; refine (HV _ (Ext.refl _)).out.mono ?_; rintro e W2 ⟨rfl, hx⟩))
      go_ret
      exact ⟨rfl, hx⟩
    · obtain ⟨k, rfl⟩ : ∃ k : Nat, n = k := ⟨n.toNat, by omega⟩
      clear hn
      by_cases hk : l.length ≤ k
      · have hk2 : (l.length : Int) ≤ k := by omega
        clear HS
        go_enter Tryz.func5, Tryz.ntmps5
        go_wp2_with (first | (go_at_call 15; refine HL.out.mono ?_; rintro e W1 ⟨rfl, rfl⟩) | (go_at_call 6; refine (HV _ (Ext.refl _)).out.mono ?_; rintro e W2 ⟨rfl, hx⟩))
        go_ret
        exact ⟨rfl, hx⟩
      · have hk2 : ¬ (l.length : Int) ≤ k := by omega
        have hk3 : k ≤ c := by omega
        have hk4 : k ≤ l.length := by omega
        obtain ⟨b, off, rfl, _⟩ := HS.out.form (by omega) (by omega)
        have HS2 := HS.out.take (n := k) hk4
        have hfl : (flat insCells l).take (k * 5) = flat insCells (l.take k) := by
          have e : flat insCells l = flat insCells (l.take k) ++ flat insCells (l.drop k) := by rw [← flat_append, List.take_append_drop]
          have el : (flat insCells (l.take k)).length = k * 5 := by rw [flat_len insCells_len, List.length_take, Nat.min_eq_left hk4]
          rw [e, ← el, List.take_left']
          rfl
        rw [hfl] at HS2
        have HC1 := Lib.hid (check_any l arity c _ w HE.out.ops HS.out)
        have HC2 := fun W (x : Ext w W) => Lib.hid (show Calls Tryz.prog 16 #[.slice (some ⟨b, off, none⟩) k c, .int .i64 arity] W (ChkPost (l.take k) arity W) from by
          have := check_any (l.take k) arity c (some ⟨b, off, none⟩) W (HE.out.ext x).ops (by
            rw [List.length_take, Nat.min_eq_left hk4]
            exact HS2.ext x)
          rwa [List.length_take, Nat.min_eq_left hk4] at this)
        have HCU := Lib.hid (fun h => cuts (l := l) (arity := arity) (n := k) h (by omega))
        unfold ChkPost at HC1 HC2
        generalize chkIns l arity = r1 at *
        generalize chkIns (l.take k) arity = r2 at *
        obtain ⟨p1, e1⟩ := r1
        obtain ⟨p2, e2⟩ := r2
        dsimp only at HC1 HC2 HCU
        clear HS hfl HS2
        by_cases h0 : e1 = 0
        · have hr := HCU.out h0
          injection hr with hp2 he2
          subst h0 hp2 he2
          go_enter Tryz.func5, Tryz.ntmps5
          go_upto_region 4 with (first | (go_at_call 15; refine HL.out.mono ?_; rintro e W1 ⟨rfl, rfl⟩) | (go_at_call 16; refine HC1.out.mono ?_; rintro e W2 ⟨rfl, hx⟩; have HX1 := Lib.hid hx; clear hx))
          go_upto_region 5 with (go_at_call 16; refine (HC2 _ HX1.out).out.mono ?_; rintro e W3 ⟨rfl, hx⟩; have HX2 := Lib.hid (HX1.out.trans hx); clear hx)
          go_wp2_with (go_at_call 6; refine (HV _ HX2.out).out.mono ?_; rintro e W4 ⟨rfl, hx⟩; have HX3 := Lib.hid (HX2.out.trans hx); clear hx)
          go_ret
          exact ⟨rfl, HX3.out⟩
        · have h00 : (e1 == 0) = false := by simpa using h0
          have h01 : (e1 != 0) = true := by simpa using h0
          clear h0 HCU
          go_enter Tryz.func5, Tryz.ntmps5
          go_upto_region 4 with (first | (go_at_call 15; refine HL.out.mono ?_; rintro e W1 ⟨rfl, rfl⟩) | (go_at_call 16; refine HC1.out.mono ?_; rintro e W2 ⟨rfl, hx⟩; have HX1 := Lib.hid hx; clear hx))
          go_upto_region 5 with (go_at_call 16; refine (HC2 _ HX1.out).out.mono ?_; rintro e W3 ⟨rfl, hx⟩; have HX2 := Lib.hid (HX1.out.trans hx); clear hx)
          go_upto_region 6 with (go_at_call 6; refine (HV _ HX2.out).out.mono ?_; rintro e W4 ⟨rfl, hx⟩; have HX3 := Lib.hid (HX2.out.trans hx); clear hx)
          go_wp2_with (go_at_call 6; refine (HV _ HX3.out).out.mono ?_; rintro e W5 ⟨rfl, hx⟩; have HX4 := Lib.hid (HX3.out.trans hx); clear hx)
          go_ret
          exact ⟨rfl, HX4.out⟩
  · rw [hb] at HL
    clear hb HS
    go_enter Tryz.func5, Tryz.ntmps5
    go_wp2_with (first | (go_at_call 15; refine HL.out.mono ?_; rintro e W1 ⟨rfl, rfl⟩) | (go_at_call 6; refine (HV _ (Ext.refl _)).out.mono ?_; rintro e W2 ⟨rfl, hx⟩))
    go_ret
    exact ⟨rfl, hx⟩

end Go.Proofs.YtlkpiigdmmhkpaaGreatDoor
