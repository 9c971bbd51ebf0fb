/- Layer 9 (oper): the walks of may, Left, Right, kind, TypeOf, of the program and of the reference. -/
import Derived.Test.YtckkbghmiomfiaaDoorOper1
namespace Go.Proofs.YtckkbghmiomfiaaDoor
open Go.RowKit Go.El

theorem ext_box (w : World) (o : Obj) : Ext w (w.alloc o) := (Ext.refl w).alloc o

set_option maxHeartbeats 400000 in
theorem pMay_any (p t : Int) (s : ByteArray) (w : World) (hT : TypesAt 0 w) :
    Calls Tryd.prog 43 #[.agg #[.int .i64 p, .int .i64 t, .string s]] w fun e w' => e = .returned (.bool (mayB p t)) ∧ Ext w w' := by
  have hT2 : TypesAt 0 (w.alloc (.cells #[.int .i64 p, .int .i64 t, .string s] 32)) := hT.ext (ext_box _ _)
  by_cases h1 : 1 ≤ p
  · by_cases h2 : p ≤ 1200
    · by_cases h3 : 1 ≤ t ∧ t ≤ 5
      · have e3 := tname_yes h3
        have HM := Lib.hid (mayB_yes ⟨h1, h2, h3⟩)
        go_enter Tryd.func43, Tryd.ntmps43
        go_wp2_with (go_at_call 22; refine (pTypeName_any _ _ hT2).mono ?_; rintro e w' ⟨rfl, rfl⟩)
        go_ret
        exact ⟨by rw [HM.out]; rfl, ext_box _ _⟩
      · have e3 := tname_no h3
        have HM := Lib.hid (mayB_no (p := p) (t := t) (fun h => h3 h.2.2))
        clear h3
        go_enter Tryd.func43, Tryd.ntmps43
        go_wp2_with (go_at_call 22; refine (pTypeName_any _ _ hT2).mono ?_; rintro e w' ⟨rfl, rfl⟩)
        go_ret
        exact ⟨by rw [HM.out]; rfl, ext_box _ _⟩
    · have HM := Lib.hid (mayB_no (p := p) (t := t) (fun h => h2 h.2.1))
      go_enter Tryd.func43, Tryd.ntmps43
      go_wp2_with fail
      go_ret
      exact ⟨by rw [HM.out]; rfl, ext_box _ _⟩
  · have HM := Lib.hid (mayB_no (p := p) (t := t) (fun h => h1 h.1))
    go_enter Tryd.func43, Tryd.ntmps43
    go_wp2_with fail
    go_ret
    exact ⟨by rw [HM.out]; rfl, ext_box _ _⟩

set_option maxHeartbeats 400000 in
theorem rMay_any (p t : Int) (s : ByteArray) (w : World) :
    Calls Tryd.prog 45 #[.agg #[.int .i64 p, .int .i64 t, .string s]] w fun e w' => e = .returned (.bool (mayB p t)) ∧ Ext w w' := by
  by_cases h1 : 1 ≤ p
  · by_cases h2 : p ≤ 1200
    · by_cases h3 : 1 ≤ t
      · by_cases h4 : t ≤ 5
        all_goals
          have HM := Lib.hid (show mayB p t = decide (t ≤ 5) from by unfold mayB; simp [h1, h2, h3, h4])
          go_enter Tryd.func45, Tryd.ntmps45
          go_wp2_with fail
          go_ret
          exact ⟨by rw [HM.out]; simp [h4], ext_box _ _⟩
      all_goals
        have HM := Lib.hid (mayB_no (p := p) (t := t) (fun h => h3 h.2.2.1))
        go_enter Tryd.func45, Tryd.ntmps45
        go_wp2_with fail
        go_ret
        exact ⟨by rw [HM.out]; rfl, ext_box _ _⟩
    · have HM := Lib.hid (mayB_no (p := p) (t := t) (fun h => h2 h.2.1))
      go_enter Tryd.func45, Tryd.ntmps45
      go_wp2_with fail
      go_ret
      exact ⟨by rw [HM.out]; rfl, ext_box _ _⟩
  · have HM := Lib.hid (mayB_no (p := p) (t := t) (fun h => h1 h.1))
    go_enter Tryd.func45, Tryd.ntmps45
    go_wp2_with fail
    go_ret
    exact ⟨by rw [HM.out]; rfl, ext_box _ _⟩

set_option maxHeartbeats 400000 in
theorem rPrefix_any (k : Int) (w : World) :
    Calls Tryd.prog 46 #[.int .i64 k] w fun e w' => e = .returned (.bool (preB k)) ∧ w = w' := by
  by_cases h : k = 4
  · subst h
    go_enter Tryd.func46, Tryd.ntmps46
    go_wp2
    go_ret
    exact ⟨rfl, rfl⟩
  · have h' : (k == 4) = false := by simpa using h
    go_enter Tryd.func46, Tryd.ntmps46
    go_wp2
    go_ret
    exact ⟨by simp [preB, h'], rfl⟩

theorem ret_int {k : IntKind} {a b : Int} (h : a = b) : Ending.returned (.int k a) = .returned (.int k b) := by rw [h]
theorem mayB_bd {p t : Int} (h : mayB p t = true) : 1 ≤ p ∧ p ≤ 1200 ∧ 1 ≤ t ∧ t ≤ 5 := of_decide_eq_true h

set_option maxHeartbeats 800000 in
theorem pLeft_any (p t : Int) (s : ByteArray) (w : World) (hT : TypesAt 0 w) :
    Calls Tryd.prog 18 #[.agg #[.int .i64 p, .int .i64 t, .string s]] w fun e w' => e = .returned (.int .i64 (leftI p t)) ∧ Ext w w' := by
  have hT2 : TypesAt 0 (w.alloc (.cells #[.int .i64 p, .int .i64 t, .string s] 32)) := hT.ext (ext_box _ _)
  cases hm : mayB p t
  · have HL := Lib.hid (show leftI p t = 0 from by unfold leftI; rw [if_pos (.inl hm)])
    go_enter Tryd.func18, Tryd.ntmps18
    go_wp2_with (first
      | (go_at_call 43; refine (pMay_any _ _ _ _ hT2).mono ?_; rintro e w' ⟨rfl, hb⟩; have hc0 : _ = some _ := new_cell hb 0; have hc1 : _ = some _ := new_cell hb 1; have hc2 : _ = some _ := new_cell hb 2)
      | (go_at_call 44; refine (isPrefix_any _ _).mono ?_; rintro e w' ⟨rfl, rfl⟩))
    go_ret
    exact ⟨ret_int (by rw [HL.out]), (ext_box _ _).trans ‹_›⟩
  · obtain ⟨b1, b2, _, _⟩ := mayB_bd hm
    cases hp : preB t
    · by_cases h3 : t = 3
      · subst h3
        have HL := Lib.hid (show leftI p 3 = p from by unfold leftI; rw [if_neg (by simp [hm, hp]), if_pos rfl])
        go_enter Tryd.func18, Tryd.ntmps18
        go_wp2_with (first
      | (go_at_call 43; refine (pMay_any _ _ _ _ hT2).mono ?_; rintro e w' ⟨rfl, hb⟩; have hc0 : _ = some _ := new_cell hb 0; have hc1 : _ = some _ := new_cell hb 1; have hc2 : _ = some _ := new_cell hb 2)
      | (go_at_call 44; refine (isPrefix_any _ _).mono ?_; rintro e w' ⟨rfl, rfl⟩))
        go_ret
        exact ⟨ret_int (by rw [HL.out]), (ext_box _ _).trans ‹_›⟩
      · have h3' : (t == 3) = false := by simpa using h3
        have HL := Lib.hid (show leftI p t = p - 1 from by unfold leftI; rw [if_neg (by simp [hm, hp]), if_neg h3])
        clear h3
        go_enter Tryd.func18, Tryd.ntmps18
        go_wp2_with (first
      | (go_at_call 43; refine (pMay_any _ _ _ _ hT2).mono ?_; rintro e w' ⟨rfl, hb⟩; have hc0 : _ = some _ := new_cell hb 0; have hc1 : _ = some _ := new_cell hb 1; have hc2 : _ = some _ := new_cell hb 2)
      | (go_at_call 44; refine (isPrefix_any _ _).mono ?_; rintro e w' ⟨rfl, rfl⟩))
        go_ret
        exact ⟨ret_int (by rw [HL.out]), (ext_box _ _).trans ‹_›⟩
    · have HL := Lib.hid (show leftI p t = 0 from by unfold leftI; rw [if_pos (.inr hp)])
      go_enter Tryd.func18, Tryd.ntmps18
      go_wp2_with (first
      | (go_at_call 43; refine (pMay_any _ _ _ _ hT2).mono ?_; rintro e w' ⟨rfl, hb⟩; have hc0 : _ = some _ := new_cell hb 0; have hc1 : _ = some _ := new_cell hb 1; have hc2 : _ = some _ := new_cell hb 2)
      | (go_at_call 44; refine (isPrefix_any _ _).mono ?_; rintro e w' ⟨rfl, rfl⟩))
      go_ret
      exact ⟨ret_int (by rw [HL.out]), (ext_box _ _).trans ‹_›⟩

set_option maxHeartbeats 800000 in
theorem pRight_any (p t : Int) (s : ByteArray) (w : World) (hT : TypesAt 0 w) :
    Calls Tryd.prog 20 #[.agg #[.int .i64 p, .int .i64 t, .string s]] w fun e w' => e = .returned (.int .i64 (rightI p t)) ∧ Ext w w' := by
  have hT2 : TypesAt 0 (w.alloc (.cells #[.int .i64 p, .int .i64 t, .string s] 32)) := hT.ext (ext_box _ _)
  cases hm : mayB p t
  · have HL := Lib.hid (show rightI p t = 0 from by unfold rightI; rw [if_pos hm])
    go_enter Tryd.func20, Tryd.ntmps20
    go_wp2_with (first
      | (go_at_call 43; refine (pMay_any _ _ _ _ hT2).mono ?_; rintro e w' ⟨rfl, hb⟩; have hc0 : _ = some _ := new_cell hb 0; have hc1 : _ = some _ := new_cell hb 1; have hc2 : _ = some _ := new_cell hb 2)
      | (go_at_call 44; refine (isPrefix_any _ _).mono ?_; rintro e w' ⟨rfl, rfl⟩))
    go_ret
    exact ⟨ret_int (by rw [HL.out]), (ext_box _ _).trans ‹_›⟩
  · obtain ⟨b1, b2, _, _⟩ := mayB_bd hm
    by_cases h2 : t = 2
    · have h2' : (t == 2) = true := by simpa using h2
      have HL := Lib.hid (show rightI p t = p from by unfold rightI; rw [if_neg (by simp [hm]), if_pos (.inl h2)])
      clear h2
      go_enter Tryd.func20, Tryd.ntmps20
      go_wp2_with (first
      | (go_at_call 43; refine (pMay_any _ _ _ _ hT2).mono ?_; rintro e w' ⟨rfl, hb⟩; have hc0 : _ = some _ := new_cell hb 0; have hc1 : _ = some _ := new_cell hb 1; have hc2 : _ = some _ := new_cell hb 2)
      | (go_at_call 44; refine (isPrefix_any _ _).mono ?_; rintro e w' ⟨rfl, rfl⟩))
      go_ret
      exact ⟨ret_int (by rw [HL.out]), (ext_box _ _).trans ‹_›⟩
    · have h2' : (t == 2) = false := by simpa using h2
      by_cases h4 : t = 4
      · have h4' : (t == 4) = true := by simpa using h4
        have HL := Lib.hid (show rightI p t = p from by unfold rightI; rw [if_neg (by simp [hm]), if_pos (.inr h4)])
        clear h2 h4
        go_enter Tryd.func20, Tryd.ntmps20
        go_wp2_with (first
      | (go_at_call 43; refine (pMay_any _ _ _ _ hT2).mono ?_; rintro e w' ⟨rfl, hb⟩; have hc0 : _ = some _ := new_cell hb 0; have hc1 : _ = some _ := new_cell hb 1; have hc2 : _ = some _ := new_cell hb 2)
      | (go_at_call 44; refine (isPrefix_any _ _).mono ?_; rintro e w' ⟨rfl, rfl⟩))
        go_ret
        exact ⟨ret_int (by rw [HL.out]), (ext_box _ _).trans ‹_›⟩
      · have h4' : (t == 4) = false := by simpa using h4
        have HL := Lib.hid (show rightI p t = p - 1 from by unfold rightI; rw [if_neg (by simp [hm]), if_neg (by omega)])
        clear h2 h4
        go_enter Tryd.func20, Tryd.ntmps20
        go_wp2_with (first
      | (go_at_call 43; refine (pMay_any _ _ _ _ hT2).mono ?_; rintro e w' ⟨rfl, hb⟩; have hc0 : _ = some _ := new_cell hb 0; have hc1 : _ = some _ := new_cell hb 1; have hc2 : _ = some _ := new_cell hb 2)
      | (go_at_call 44; refine (isPrefix_any _ _).mono ?_; rintro e w' ⟨rfl, rfl⟩))
        go_ret
        exact ⟨ret_int (by rw [HL.out]), (ext_box _ _).trans ‹_›⟩

set_option maxHeartbeats 800000 in
theorem rLeft_any (p t : Int) (s : ByteArray) (w : World) :
    Calls Tryd.prog 19 #[.agg #[.int .i64 p, .int .i64 t, .string s]] w fun e w' => e = .returned (.int .i64 (leftI p t)) ∧ Ext w w' := by
  cases hm : mayB p t
  · have HL := Lib.hid (show leftI p t = 0 from by unfold leftI; rw [if_pos (.inl hm)])
    go_enter Tryd.func19, Tryd.ntmps19
    go_wp2_with (first
      | (go_at_call 45; refine (rMay_any _ _ _ _).mono ?_; rintro e w' ⟨rfl, hb⟩; have hc0 : _ = some _ := new_cell hb 0; have hc1 : _ = some _ := new_cell hb 1; have hc2 : _ = some _ := new_cell hb 2)
      | (go_at_call 46; refine (rPrefix_any _ _).mono ?_; rintro e w' ⟨rfl, rfl⟩))
    go_ret
    exact ⟨ret_int (by rw [HL.out]), (ext_box _ _).trans ‹_›⟩
  · obtain ⟨b1, b2, _, _⟩ := mayB_bd hm
    cases hp : preB t
    · by_cases h3 : t = 3
      · subst h3
        have HL := Lib.hid (show leftI p 3 = p from by unfold leftI; rw [if_neg (by simp [hm, hp]), if_pos rfl])
        go_enter Tryd.func19, Tryd.ntmps19
        go_wp2_with (first
      | (go_at_call 45; refine (rMay_any _ _ _ _).mono ?_; rintro e w' ⟨rfl, hb⟩; have hc0 : _ = some _ := new_cell hb 0; have hc1 : _ = some _ := new_cell hb 1; have hc2 : _ = some _ := new_cell hb 2)
      | (go_at_call 46; refine (rPrefix_any _ _).mono ?_; rintro e w' ⟨rfl, rfl⟩))
        go_ret
        exact ⟨ret_int (by rw [HL.out]), (ext_box _ _).trans ‹_›⟩
      · have h3' : (t == 3) = false := by simpa using h3
        have HL := Lib.hid (show leftI p t = p - 1 from by unfold leftI; rw [if_neg (by simp [hm, hp]), if_neg h3])
        clear h3
        go_enter Tryd.func19, Tryd.ntmps19
        go_wp2_with (first
      | (go_at_call 45; refine (rMay_any _ _ _ _).mono ?_; rintro e w' ⟨rfl, hb⟩; have hc0 : _ = some _ := new_cell hb 0; have hc1 : _ = some _ := new_cell hb 1; have hc2 : _ = some _ := new_cell hb 2)
      | (go_at_call 46; refine (rPrefix_any _ _).mono ?_; rintro e w' ⟨rfl, rfl⟩))
        go_ret
        exact ⟨ret_int (by rw [HL.out]), (ext_box _ _).trans ‹_›⟩
    · have HL := Lib.hid (show leftI p t = 0 from by unfold leftI; rw [if_pos (.inr hp)])
      go_enter Tryd.func19, Tryd.ntmps19
      go_wp2_with (first
      | (go_at_call 45; refine (rMay_any _ _ _ _).mono ?_; rintro e w' ⟨rfl, hb⟩; have hc0 : _ = some _ := new_cell hb 0; have hc1 : _ = some _ := new_cell hb 1; have hc2 : _ = some _ := new_cell hb 2)
      | (go_at_call 46; refine (rPrefix_any _ _).mono ?_; rintro e w' ⟨rfl, rfl⟩))
      go_ret
      exact ⟨ret_int (by rw [HL.out]), (ext_box _ _).trans ‹_›⟩

set_option maxHeartbeats 800000 in
theorem rRight_any (p t : Int) (s : ByteArray) (w : World) :
    Calls Tryd.prog 21 #[.agg #[.int .i64 p, .int .i64 t, .string s]] w fun e w' => e = .returned (.int .i64 (rightI p t)) ∧ Ext w w' := by
  cases hm : mayB p t
  · have HL := Lib.hid (show rightI p t = 0 from by unfold rightI; rw [if_pos hm])
    go_enter Tryd.func21, Tryd.ntmps21
    go_wp2_with (first
      | (go_at_call 45; refine (rMay_any _ _ _ _).mono ?_; rintro e w' ⟨rfl, hb⟩; have hc0 : _ = some _ := new_cell hb 0; have hc1 : _ = some _ := new_cell hb 1; have hc2 : _ = some _ := new_cell hb 2)
      | (go_at_call 46; refine (rPrefix_any _ _).mono ?_; rintro e w' ⟨rfl, rfl⟩))
    go_ret
    exact ⟨ret_int (by rw [HL.out]), (ext_box _ _).trans ‹_›⟩
  · obtain ⟨b1, b2, _, _⟩ := mayB_bd hm
    by_cases h2 : t = 2
    · have h2' : (t == 2) = true := by simpa using h2
      have HL := Lib.hid (show rightI p t = p from by unfold rightI; rw [if_neg (by simp [hm]), if_pos (.inl h2)])
      clear h2
      go_enter Tryd.func21, Tryd.ntmps21
      go_wp2_with (first
      | (go_at_call 45; refine (rMay_any _ _ _ _).mono ?_; rintro e w' ⟨rfl, hb⟩; have hc0 : _ = some _ := new_cell hb 0; have hc1 : _ = some _ := new_cell hb 1; have hc2 : _ = some _ := new_cell hb 2)
      | (go_at_call 46; refine (rPrefix_any _ _).mono ?_; rintro e w' ⟨rfl, rfl⟩))
      go_ret
      exact ⟨ret_int (by rw [HL.out]), (ext_box _ _).trans ‹_›⟩
    · have h2' : (t == 2) = false := by simpa using h2
      by_cases h4 : t = 4
      · have h4' : (t == 4) = true := by simpa using h4
        have HL := Lib.hid (show rightI p t = p from by unfold rightI; rw [if_neg (by simp [hm]), if_pos (.inr h4)])
        clear h2 h4
        go_enter Tryd.func21, Tryd.ntmps21
        go_wp2_with (first
      | (go_at_call 45; refine (rMay_any _ _ _ _).mono ?_; rintro e w' ⟨rfl, hb⟩; have hc0 : _ = some _ := new_cell hb 0; have hc1 : _ = some _ := new_cell hb 1; have hc2 : _ = some _ := new_cell hb 2)
      | (go_at_call 46; refine (rPrefix_any _ _).mono ?_; rintro e w' ⟨rfl, rfl⟩))
        go_ret
        exact ⟨ret_int (by rw [HL.out]), (ext_box _ _).trans ‹_›⟩
      · have h4' : (t == 4) = false := by simpa using h4
        have HL := Lib.hid (show rightI p t = p - 1 from by unfold rightI; rw [if_neg (by simp [hm]), if_neg (by omega)])
        clear h2 h4
        go_enter Tryd.func21, Tryd.ntmps21
        go_wp2_with (first
      | (go_at_call 45; refine (rMay_any _ _ _ _).mono ?_; rintro e w' ⟨rfl, hb⟩; have hc0 : _ = some _ := new_cell hb 0; have hc1 : _ = some _ := new_cell hb 1; have hc2 : _ = some _ := new_cell hb 2)
      | (go_at_call 46; refine (rPrefix_any _ _).mono ?_; rintro e w' ⟨rfl, rfl⟩))
        go_ret
        exact ⟨ret_int (by rw [HL.out]), (ext_box _ _).trans ‹_›⟩

set_option maxHeartbeats 400000 in
theorem kind_any (p t : Int) (s : ByteArray) (w : World) :
    Calls Tryd.prog 39 #[.agg #[.int .i64 p, .int .i64 t, .string s]] w fun e w' => e = .returned (.int .i64 (if preB t then 1 else 0)) ∧ Ext w w' := by
  cases hp : preB t
  all_goals
    go_enter Tryd.func39, Tryd.ntmps39
    go_wp2_with (go_at_call 44; refine (isPrefix_any _ _).mono ?_; rintro e w' ⟨rfl, rfl⟩)
    go_ret
    exact ⟨rfl, ext_box _ _⟩

end Go.Proofs.YtckkbghmiomfiaaDoor
