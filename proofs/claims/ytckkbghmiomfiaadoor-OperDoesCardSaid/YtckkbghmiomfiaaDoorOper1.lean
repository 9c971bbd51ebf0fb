/- Layer 9 (oper): the walks of the small calls. -/
import Derived.Test.YtckkbghmiomfiaaDoorRef08p
import Derived.Test.YtckkbghmiomfiaaDoorS09
import Derived.Maps.OwnOps
namespace Go.Proofs.YtckkbghmiomfiaaDoor
open Go.RowKit Go.El

set_option maxHeartbeats 400000 in
theorem isPrefix_any (k : Int) (w : World) :
    Calls Tryd.prog 44 #[.int .i64 k] w fun e w' => e = .returned (.bool (preB k)) ∧ w = w' := by
  by_cases h : k = 4
  · subst h
    go_enter Tryd.func44, Tryd.ntmps44
    go_wp2
    go_ret
    exact ⟨rfl, rfl⟩
  · have h' : (k == 4) = false := by simpa using h
    go_enter Tryd.func44, Tryd.ntmps44
    go_wp2
    go_ret
    exact ⟨by simp [preB, h'], rfl⟩

set_option maxHeartbeats 400000 in
theorem made_any (tb m1 : Nat) (w : World) (h0 : w.cell? ⟨tb, 0, none⟩ = some (.map (some m1))) :
    Calls Tryd.prog 30 #[.pointer (some ⟨tb, 0, none⟩)] w fun e w' => e = .returned (.bool true) ∧ w = w' := by
  have hq := fun W => run_neq_map_nil (P := Tryd.prog) W 50 _ _ (some m1) Tryd.underlying50
  go_enter Tryd.func30, Tryd.ntmps30
  go_wp2
  go_ret
  exact ⟨rfl, rfl⟩

set_option maxHeartbeats 400000 in
theorem made_nil (w : World) :
    Calls Tryd.prog 30 #[.pointer none] w fun e w' => e = .returned (.bool false) ∧ w = w' := by
  go_enter Tryd.func30, Tryd.ntmps30
  go_wp2
  go_ret
  exact ⟨rfl, rfl⟩

set_option maxHeartbeats 400000 in
theorem of_pre (tb m2 : Nat) (k : Int) (hk : preB k = true) (w : World) (h1 : w.cell? ⟨tb, 1, none⟩ = some (.map (some m2))) :
    Calls Tryd.prog 49 #[.pointer (some ⟨tb, 0, none⟩), .int .i64 k] w fun e w' => e = .returned (.map (some m2)) ∧ w = w' := by
  go_enter Tryd.func49, Tryd.ntmps49
  go_wp2_with (go_at_call 44; refine (isPrefix_any _ _).mono ?_; rintro e w' ⟨rfl, rfl⟩)
  go_ret
  exact ⟨rfl, rfl⟩

set_option maxHeartbeats 400000 in
theorem of_inf (tb m1 : Nat) (k : Int) (hk : preB k = false) (w : World) (h0 : w.cell? ⟨tb, 0, none⟩ = some (.map (some m1))) :
    Calls Tryd.prog 49 #[.pointer (some ⟨tb, 0, none⟩), .int .i64 k] w fun e w' => e = .returned (.map (some m1)) ∧ w = w' := by
  go_enter Tryd.func49, Tryd.ntmps49
  go_wp2_with (go_at_call 44; refine (isPrefix_any _ _).mono ?_; rintro e w' ⟨rfl, rfl⟩)
  go_ret
  exact ⟨rfl, rfl⟩

set_option maxHeartbeats 400000 in
theorem pTypeName_any (n : Int) (w : World) (hT : TypesAt 0 w) :
    Calls Tryd.prog 22 #[.int .i64 n] w fun e w' => e = .returned (.string (tnameS n)) ∧ w = w' := by
  obtain ⟨h0, h1, h2, h3, h4, h5⟩ := hT
  by_cases hn : 1 ≤ n ∧ n ≤ 5
  · obtain ⟨hn1, hn5⟩ := hn
    have hc : n = 1 ∨ n = 2 ∨ n = 3 ∨ n = 4 ∨ n = 5 := by omega
    rcases hc with rfl | rfl | rfl | rfl | rfl
    all_goals
      go_enter Tryd.func22, Tryd.ntmps22
      go_wp2
      go_ret
      exact ⟨rfl, rfl⟩
  · have ht : tnameS n = ⟨#[]⟩ := by
      unfold tnameS
      rw [if_neg (by omega), if_neg (by omega), if_neg (by omega), if_neg (by omega), if_neg (by omega)]
    have HT := Lib.hid ht
    clear ht
    by_cases h1n : n < 1
    · go_enter Tryd.func22, Tryd.ntmps22
      go_wp2
      go_ret
      exact ⟨by rw [HT.out]; rfl, rfl⟩
    · have h6 : 6 ≤ n := by omega
      clear hn
      go_enter Tryd.func22, Tryd.ntmps22
      go_wp2
      go_ret
      exact ⟨by rw [HT.out]; rfl, rfl⟩

set_option maxHeartbeats 400000 in
theorem rTypeName_any (n : Int) (w : World) :
    Calls Tryd.prog 17 #[.int .i64 n] w fun e w' => e = .returned (.string (tnameS n)) ∧ Ext w w' := by
  by_cases hn : 1 ≤ n ∧ n ≤ 5
  · obtain ⟨hn1, hn5⟩ := hn
    have hc : n = 1 ∨ n = 2 ∨ n = 3 ∨ n = 4 ∨ n = 5 := by omega
    rcases hc with rfl | rfl | rfl | rfl | rfl
    all_goals
      go_enter Tryd.func17, Tryd.ntmps17
      go_wp2
      go_ret
      exact ⟨rfl, (Ext.refl _).alloc _⟩
  · have ht : tnameS n = ⟨#[]⟩ := by
      unfold tnameS
      rw [if_neg (by omega), if_neg (by omega), if_neg (by omega), if_neg (by omega), if_neg (by omega)]
    have HT := Lib.hid ht
    clear ht
    by_cases h1n : n < 1
    · go_enter Tryd.func17, Tryd.ntmps17
      go_wp2
      go_ret
      exact ⟨by rw [HT.out]; rfl, (Ext.refl _).alloc _⟩
    · have h6 : 6 ≤ n := by omega
      clear hn
      go_enter Tryd.func17, Tryd.ntmps17
      go_wp2
      go_ret
      exact ⟨by rw [HT.out]; rfl, (Ext.refl _).alloc _⟩

end Go.Proofs.YtckkbghmiomfiaaDoor
