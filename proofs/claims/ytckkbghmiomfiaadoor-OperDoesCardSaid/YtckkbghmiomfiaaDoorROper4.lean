/- Layer 9, the reference: the walks of Set. -/
import Derived.Test.YtckkbghmiomfiaaDoorROper3
import Derived.Test.YtckkbghmiomfiaaDoorOper4
import Derived.Deep.RegionLaw
namespace Go.Proofs.YtckkbghmiomfiaaDoor
open Go.RowKit Go.El

set_option maxHeartbeats 800000 in
theorem rset_arg (rb : Nat) (p t : Int) (s : ByteArray) (w : World) (hbad : argBad p t = true) :
    Calls Tryd.prog 41 #[.pointer (some ⟨rb, 0, none⟩), .agg #[.int .i64 p, .int .i64 t, .string s]] w fun e w' => e = .returned (.int .i64 1) ∧ Ext w w' := by
  have hb : p < 0 ∨ (0 ≤ p ∧ 1200 < p) ∨ (0 ≤ p ∧ p ≤ 1200 ∧ t < 1) ∨ (0 ≤ p ∧ p ≤ 1200 ∧ 1 ≤ t ∧ 5 < t) := by
    have := of_decide_eq_true hbad
    omega
  clear hbad
  rcases hb with hb | ⟨hb1, hb2⟩ | ⟨hb1, hb2, hb3⟩ | ⟨hb1, hb2, hb3, hb4⟩
  all_goals
    go_enter Tryd.func41, Tryd.ntmps41
    go_wp2_with fail
    go_ret
    exact ⟨rfl, ext_box _ _⟩

set_option maxHeartbeats 800000 in
theorem rset_name (rb : Nat) (p t : Int) (s : ByteArray) (w : World) (hsz : s.size ≤ 9223372036854775807) (hgood : argBad p t = false) (hbad : nameBad s = true) :
    Calls Tryd.prog 41 #[.pointer (some ⟨rb, 0, none⟩), .agg #[.int .i64 p, .int .i64 t, .string s]] w fun e w' => e = .returned (.int .i64 90) ∧ Ext w w' := by
  obtain ⟨b1, b2, b3, b4⟩ := arg_good hgood
  clear hgood
  cases hp : plainB s
  · clear hbad
    go_enter Tryd.func41, Tryd.ntmps41
    go_wp2_with (go_at_call 58; refine (rPlain_any _ _ hsz).mono ?_; rintro e w' ⟨rfl, rfl⟩)
    go_ret
    exact ⟨rfl, ext_box _ _⟩
  · by_cases h2 : s.data.toList = [91, 93]
    · obtain rfl := mk_of h2
      clear hbad
      go_enter Tryd.func41, Tryd.ntmps41
      go_wp2_with (go_at_call 58; refine (rPlain_any _ _ hsz).mono ?_; rintro e w' ⟨rfl, rfl⟩)
      go_ret
      exact ⟨rfl, ext_box _ _⟩
    · have e4 := lit_ne h2
      by_cases h3 : s.data.toList = [123, 125]
      · obtain rfl := mk_of h3
        clear hbad h2
        go_enter Tryd.func41, Tryd.ntmps41
        go_wp2_with (go_at_call 58; refine (rPlain_any _ _ hsz).mono ?_; rintro e w' ⟨rfl, rfl⟩)
        go_ret
        exact ⟨rfl, ext_box _ _⟩
      · have e5 := lit_ne h3
        have hsz2 : 64 < s.size := by
          have n2 : s ≠ ⟨#[91, 93]⟩ := fun e => h2 (by rw [e])
          have n3 : s ≠ ⟨#[123, 125]⟩ := fun e => h3 (by rw [e])
          simpa [nameBad, hp, n2, n3] using hbad
        clear hbad h2 h3
        go_enter Tryd.func41, Tryd.ntmps41
        go_wp2_with (go_at_call 58; refine (rPlain_any _ _ hsz).mono ?_; rintro e w' ⟨rfl, rfl⟩)
        go_ret
        exact ⟨rfl, ext_box _ _⟩

theorem quiet_left {P : Program} {f : FuncId} {args : Array Value} {w : World} {n : Nat} {v : Value} (h : Calls P f args (w.drewN n) fun e w' => e = .returned v ∧ w.drewN n = w') : Calls P f args (w.drewN n) fun e w'' => e = .returned v ∧ ∃ m, w'' = w.drewN m :=
  h.mono fun _ _ ⟨he, hw⟩ => ⟨he, n, hw.symm⟩

set_option maxHeartbeats 1600000 in
theorem rset_none (rb : Nat) (v : Value) (L : List OpV) (p t : Int) (s : ByteArray) (w : World) (h : RefAt 32 w rb v L) (hgood : argBad p t = false) (hname : nameBad s = false) (hp : p = 0) (hi : idxR s (preB t) L = none) :
    Calls Tryd.prog 41 #[.pointer (some ⟨rb, 0, none⟩), .agg #[.int .i64 p, .int .i64 t, .string s]] w fun e w' => e = .returned (.int .i64 4) ∧ Ext w w' := by
  have h0 := h.cell
  have hlt := cell_lt h0
  obtain ⟨b1, b2, b3, b4⟩ := arg_good hgood
  obtain ⟨n1, n2, n3, n4⟩ := name_good hname
  have hsz : s.size ≤ 9223372036854775807 := by omega
  have H := Lib.hid h
  have HI := Lib.hid hi
  clear hgood hname hi
  have hp' : (p == 0) = true := by simpa using hp
  clear hp h
  go_enter Tryd.func41, Tryd.ntmps41
  go_upto_region 5 with (go_at_call 58; refine (rPlain_any _ _ hsz).mono ?_; rintro e w' ⟨rfl, rfl⟩)
  refine wp_abs (fun W => Ext w W ∧ W.cell? ⟨w.heap.size, 0, none⟩ = some (.int .i64 p) ∧ W.cell? ⟨w.heap.size, 1, none⟩ = some (.int .i64 t) ∧ W.cell? ⟨w.heap.size, 2, none⟩ = some (.string s)) ⟨ext_box _ _, new_cell (Ext.refl _) 0, new_cell (Ext.refl _) 1, new_cell (Ext.refl _) 2⟩ ?_
  rintro W ⟨hxW, hW0, hW1, hW2⟩
  have k0 := hxW.cell h0
  go_quiet ((first | (go_at_call 46; exact quiet_left (rPrefix_any _ _)) | (go_at_call 42; exact quiet_left (rAt_any rb v L s (preB t) _ (H.out.ext (hxW.drewN _))))))
  rw [HI.out]
  simp only [idxVal]
  go_wp2_with fail
  go_ret
  exact ⟨rfl, hxW.drewN _⟩

end Go.Proofs.YtckkbghmiomfiaaDoor
