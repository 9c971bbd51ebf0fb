/- Layer 6, the program: the walks of bare, part, of, measure, Check, may. -/
import Derived.Test.YtnedihbffiddpaaGreatDoorWB
import Derived.Test.YtnedihbffiddpaaGreatDoorW2
namespace Go.Proofs.YtnedihbffiddpaaGreatDoor
open Go.RowKit Go.El

theorem size_nil (s : ByteArray) : (s.toList == ([] : List UInt8)) = decide (s.size = 0) := by
  rw [ByteArray.toList_eq, Bool.eq_iff_iff, beq_iff_eq, decide_eq_true_iff]
  rw [← List.length_eq_zero_iff]
  simp
theorem ret_boolP {a b : Bool} (h : a = true ↔ b = true) : Ending.returned (.bool a) = .returned (.bool b) := by rw [Bool.eq_iff_iff.2 h]

set_option maxRecDepth 100000 in
set_option maxHeartbeats 1000000 in
theorem bare_any (t : Tm) (A : Option Addr) (c : Nat) (w : World) :
    Calls Tryz.prog 106 #[tmVal t A c] w fun e w' => e = .returned (.bool (decide (t.s.size = 0 ∧ t.l.length = 0))) ∧ Ext w w' := by
  have h0 := size_nil t.s
  unfold tmVal
  by_cases h1 : t.s.size = 0
  · rw [decide_eq_true h1] at h0
    go_enter Tryz.func106, Tryz.ntmps106
    go_wp2_with fail
    all_goals
      go_ret
      exact ⟨ret_boolP (by simp [h1]), ext_box _ _⟩
  · rw [decide_eq_false h1] at h0
    go_enter Tryz.func106, Tryz.ntmps106
    go_wp2_with fail
    all_goals
      go_ret
      exact ⟨ret_boolP (by simp [h1]), ext_box _ _⟩

set_option maxRecDepth 100000 in
set_option maxHeartbeats 4000000 in
theorem part_any (t : Tm) (A : Option Addr) (c : Nat) (w : World) :
    Calls Tryz.prog 92 #[tmVal t A c] w fun e w' => e = .returned (.bool (partK t.k t.n t.s t.l.length)) ∧ Ext w w' := by
  unfold tmVal
  have hB := fun W => Lib.hid (bare_any t A c W)
  unfold tmVal at hB
  generalize t.l.length = m at *
  generalize t.s = s at *
  generalize t.n = n at *
  generalize t.k = k at *
  by_cases hn : n = 0
  · subst hn
    by_cases hz : (s.size : Int) ≤ 64
    · by_cases k1 : k = 1
      · subst k1
        go_enter Tryz.func92, Tryz.ntmps92
        go_wp2_with (go_at_call 106; refine (hB _).out.mono ?_; rintro e W1 ⟨rfl, hx⟩; have HX := Lib.hid ((ext_box w _).trans hx); clear hx)
        go_ret
        refine ⟨ret_boolP (by first | (simp [partK]; done) | (simp [partK]; omega) | (simp [partK, c1, c2]; done)), ?_⟩
        first | exact HX.out | exact ext_box _ _
      by_cases k2 : k = 2
      · subst k2
        go_enter Tryz.func92, Tryz.ntmps92
        go_wp2_with (go_at_call 106; refine (hB _).out.mono ?_; rintro e W1 ⟨rfl, hx⟩; have HX := Lib.hid ((ext_box w _).trans hx); clear hx)
        go_ret
        refine ⟨ret_boolP (by first | (simp [partK]; done) | (simp [partK]; omega) | (simp [partK, c1, c2]; done)), ?_⟩
        first | exact HX.out | exact ext_box _ _
      by_cases k3 : k = 3
      · subst k3
        by_cases c1 : m = 0
        · go_enter Tryz.func92, Tryz.ntmps92
          go_wp2_with fail
          go_ret
          refine ⟨ret_boolP (by first | (simp [partK]; done) | (simp [partK]; omega) | (simp [partK, c1, c2]; done)), ?_⟩
          first | exact HX.out | exact ext_box _ _
        · go_enter Tryz.func92, Tryz.ntmps92
          go_wp2_with fail
          go_ret
          refine ⟨ret_boolP (by first | (simp [partK]; done) | (simp [partK]; omega) | (simp [partK, c1, c2]; done)), ?_⟩
          first | exact HX.out | exact ext_box _ _
      by_cases k4 : k = 4
      · subst k4
        by_cases c1 : 1 ≤ (m : Int)
        · by_cases c2 : (m : Int) ≤ 16
          · go_enter Tryz.func92, Tryz.ntmps92
            go_wp2_with fail
            go_ret
            refine ⟨ret_boolP (by first | (simp [partK]; done) | (simp [partK]; omega) | (simp [partK, c1, c2]; done)), ?_⟩
            first | exact HX.out | exact ext_box _ _
          · go_enter Tryz.func92, Tryz.ntmps92
            go_wp2_with fail
            go_ret
            refine ⟨ret_boolP (by first | (simp [partK]; done) | (simp [partK]; omega) | (simp [partK, c1, c2]; done)), ?_⟩
            first | exact HX.out | exact ext_box _ _
        · go_enter Tryz.func92, Tryz.ntmps92
          go_wp2_with fail
          go_ret
          refine ⟨ret_boolP (by first | (simp [partK]; done) | (simp [partK]; omega) | (simp [partK, c1, c2]; done)), ?_⟩
          first | exact HX.out | exact ext_box _ _
      have q1 : (k == 1) = false := by simpa using k1
      have q2 : (k == 2) = false := by simpa using k2
      have q3 : (k == 3) = false := by simpa using k3
      have q4 : (k == 4) = false := by simpa using k4
      go_enter Tryz.func92, Tryz.ntmps92
      go_wp2_with fail
      go_ret
      refine ⟨ret_boolP (by simp [partK, k1, k2, k3, k4]), ?_⟩
      exact ext_box _ _
    · by_cases k1 : k = 1
      · subst k1
        go_enter Tryz.func92, Tryz.ntmps92
        go_wp2_with (go_at_call 106; refine (hB _).out.mono ?_; rintro e W1 ⟨rfl, hx⟩; have HX := Lib.hid ((ext_box w _).trans hx); clear hx)
        go_ret
        refine ⟨ret_boolP (by first | (simp [partK]; done) | (simp [partK]; omega) | (simp [partK, c1, c2]; done)), ?_⟩
        first | exact HX.out | exact ext_box _ _
      by_cases k2 : k = 2
      · subst k2
        go_enter Tryz.func92, Tryz.ntmps92
        go_wp2_with (go_at_call 106; refine (hB _).out.mono ?_; rintro e W1 ⟨rfl, hx⟩; have HX := Lib.hid ((ext_box w _).trans hx); clear hx)
        go_ret
        refine ⟨ret_boolP (by first | (simp [partK]; done) | (simp [partK]; omega) | (simp [partK, c1, c2]; done)), ?_⟩
        first | exact HX.out | exact ext_box _ _
      by_cases k3 : k = 3
      · subst k3
        go_enter Tryz.func92, Tryz.ntmps92
        go_wp2_with fail
        go_ret
        refine ⟨ret_boolP (by first | (simp [partK]; done) | (simp [partK]; omega) | (simp [partK, c1, c2]; done)), ?_⟩
        first | exact HX.out | exact ext_box _ _
      by_cases k4 : k = 4
      · subst k4
        go_enter Tryz.func92, Tryz.ntmps92
        go_wp2_with fail
        go_ret
        refine ⟨ret_boolP (by first | (simp [partK]; done) | (simp [partK]; omega) | (simp [partK, c1, c2]; done)), ?_⟩
        first | exact HX.out | exact ext_box _ _
      have q1 : (k == 1) = false := by simpa using k1
      have q2 : (k == 2) = false := by simpa using k2
      have q3 : (k == 3) = false := by simpa using k3
      have q4 : (k == 4) = false := by simpa using k4
      go_enter Tryz.func92, Tryz.ntmps92
      go_wp2_with fail
      go_ret
      refine ⟨ret_boolP (by simp [partK, k1, k2, k3, k4]), ?_⟩
      exact ext_box _ _
  · have hn2 : (n == 0) = false := by simpa using hn
    by_cases k1 : k = 1
    · subst k1
      by_cases c1 : 0 ≤ n
      · by_cases c2 : n < 1073741824
        · go_enter Tryz.func92, Tryz.ntmps92
          go_wp2_with (go_at_call 106; refine (hB _).out.mono ?_; rintro e W1 ⟨rfl, hx⟩; have HX := Lib.hid ((ext_box w _).trans hx); clear hx)
          go_ret
          refine ⟨ret_boolP (by first | (simp [partK]; done) | (simp [partK]; omega) | (simp [partK, c1, c2]; done)), ?_⟩
          first | exact HX.out | exact ext_box _ _
        · go_enter Tryz.func92, Tryz.ntmps92
          go_wp2_with (go_at_call 106; refine (hB _).out.mono ?_; rintro e W1 ⟨rfl, hx⟩; have HX := Lib.hid ((ext_box w _).trans hx); clear hx)
          go_ret
          refine ⟨ret_boolP (by first | (simp [partK]; done) | (simp [partK]; omega) | (simp [partK, c1, c2]; done)), ?_⟩
          first | exact HX.out | exact ext_box _ _
      · go_enter Tryz.func92, Tryz.ntmps92
        go_wp2_with (go_at_call 106; refine (hB _).out.mono ?_; rintro e W1 ⟨rfl, hx⟩; have HX := Lib.hid ((ext_box w _).trans hx); clear hx)
        go_ret
        refine ⟨ret_boolP (by first | (simp [partK]; done) | (simp [partK]; omega) | (simp [partK, c1, c2]; done)), ?_⟩
        first | exact HX.out | exact ext_box _ _
    by_cases k2 : k = 2
    · subst k2
      by_cases c1 : -9007199254740991 ≤ n
      · by_cases c2 : n ≤ 9007199254740991
        · go_enter Tryz.func92, Tryz.ntmps92
          go_wp2_with (go_at_call 106; refine (hB _).out.mono ?_; rintro e W1 ⟨rfl, hx⟩; have HX := Lib.hid ((ext_box w _).trans hx); clear hx)
          go_ret
          refine ⟨ret_boolP (by first | (simp [partK]; done) | (simp [partK]; omega) | (simp [partK, c1, c2]; done)), ?_⟩
          first | exact HX.out | exact ext_box _ _
        · go_enter Tryz.func92, Tryz.ntmps92
          go_wp2_with (go_at_call 106; refine (hB _).out.mono ?_; rintro e W1 ⟨rfl, hx⟩; have HX := Lib.hid ((ext_box w _).trans hx); clear hx)
          go_ret
          refine ⟨ret_boolP (by first | (simp [partK]; done) | (simp [partK]; omega) | (simp [partK, c1, c2]; done)), ?_⟩
          first | exact HX.out | exact ext_box _ _
      · go_enter Tryz.func92, Tryz.ntmps92
        go_wp2_with (go_at_call 106; refine (hB _).out.mono ?_; rintro e W1 ⟨rfl, hx⟩; have HX := Lib.hid ((ext_box w _).trans hx); clear hx)
        go_ret
        refine ⟨ret_boolP (by first | (simp [partK]; done) | (simp [partK]; omega) | (simp [partK, c1, c2]; done)), ?_⟩
        first | exact HX.out | exact ext_box _ _
    by_cases k3 : k = 3
    · subst k3
      go_enter Tryz.func92, Tryz.ntmps92
      go_wp2_with fail
      go_ret
      refine ⟨ret_boolP (by first | (simp [partK]; done) | (simp [partK]; omega) | (simp [partK, c1, c2]; done)), ?_⟩
      first | exact HX.out | exact ext_box _ _
    by_cases k4 : k = 4
    · subst k4
      go_enter Tryz.func92, Tryz.ntmps92
      go_wp2_with fail
      go_ret
      refine ⟨ret_boolP (by first | (simp [partK]; done) | (simp [partK]; omega) | (simp [partK, c1, c2]; done)), ?_⟩
      first | exact HX.out | exact ext_box _ _
    have q1 : (k == 1) = false := by simpa using k1
    have q2 : (k == 2) = false := by simpa using k2
    have q3 : (k == 3) = false := by simpa using k3
    have q4 : (k == 4) = false := by simpa using k4
    go_enter Tryz.func92, Tryz.ntmps92
    go_wp2_with fail
    go_ret
    refine ⟨ret_boolP (by simp [partK, k1, k2, k3, k4]), ?_⟩
    exact ext_box _ _

end Go.Proofs.YtnedihbffiddpaaGreatDoor
