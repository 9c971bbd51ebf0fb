/- Layer 9 (oper): TypeOf. -/
import Derived.Test.YtckkbghmiomfiaaDoorROper8
namespace Go.Proofs.YtckkbghmiomfiaaDoor
open Go.RowKit Go.El

def tnames : List ByteArray := [⟨#[]⟩, ⟨#[120, 102, 120]⟩, ⟨#[120, 102, 121]⟩, ⟨#[121, 102, 120]⟩, ⟨#[102, 121]⟩, ⟨#[102, 120]⟩]
def idxT (s : ByteArray) : Option Nat := tnames.findIdx? (fun n => decide (s = n))
theorem types_at {g : Nat} {w : World} (h : TypesAt g w) (k : Nat) (n : ByteArray) (hk : tnames[k]? = some n) : w.cell? ⟨g, k, none⟩ = some (.string n) := by
  have hlt : k < 6 := (List.getElem?_eq_some_iff.1 hk).1
  have hc : k = 0 ∨ k = 1 ∨ k = 2 ∨ k = 3 ∨ k = 4 ∨ k = 5 := by omega
  rcases hc with rfl | rfl | rfl | rfl | rfl | rfl <;> (injection hk with hk; subst hk)
  · exact h.h0
  · exact h.h1
  · exact h.h2
  · exact h.h3
  · exact h.h4
  · exact h.h5

theorem idxT_none {s : ByteArray} (h : ∀ j, j < 6 → ∀ n, tnames[j]? = some n → s ≠ n) : idxT s = none := by
  unfold idxT
  rw [List.findIdx?_eq_none_iff]
  intro x hx
  obtain ⟨j, hj⟩ := List.mem_iff_getElem?.1 hx
  simpa using h j (List.getElem?_eq_some_iff.1 hj).1 x hj
theorem idxT_some {s n : ByteArray} {k : Nat} (ho : tnames[k]? = some n) (hs : s = n) (h : ∀ j, j < k → ∀ n, tnames[j]? = some n → s ≠ n) : idxT s = some k := by
  unfold idxT
  have hlt := (List.getElem?_eq_some_iff.1 ho).1
  rw [List.findIdx?_eq_some_iff_getElem]
  refine ⟨hlt, ?_, fun j hj => ?_⟩
  · have : tnames[k] = n := (List.getElem?_eq_some_iff.1 ho).2
    rw [this]; simpa using hs
  · have := h j hj tnames[j] (List.getElem?_eq_getElem (by omega))
    simpa using this

set_option maxHeartbeats 800000 in
theorem index_any (g : Nat) (s : ByteArray) (w : World) (hT : TypesAt g w) :
    Calls Tryd.prog 47 #[.slice (some ⟨g, 0, none⟩) 6 6, .string s] w fun e w' => e = .returned (.int .i64 (idxVal (idxT s))) ∧ w = w' := by
  have HT := Lib.hid hT
  clear hT
  go_enter Tryd.func47, Tryd.ntmps47
  go_wp2_with fail
  go_loop [8] (fun i => ∃ k : Nat, k ≤ 6 ∧ i = .int .i64 k ∧ ∀ j, j < k → ∀ n, tnames[j]? = some n → s ≠ n) (fun i => 6 - (intOf i).toNat)
  case atStart => exact ⟨0, Nat.zero_le _, rfl, fun j hj => absurd hj (Nat.not_lt_zero j)⟩
  case round =>
    obtain ⟨k, hk, rfl, hall⟩ := hrel
    by_cases hlt : k < 6
    · have ho : tnames[k]? = some tnames[k] := List.getElem?_eq_getElem hlt
      generalize tnames[k] = n at ho
      have hcn := types_at HT.out k n ho
      have HA := Lib.hid hall
      have HO := Lib.hid ho
      clear hall ho
      by_cases hs : s = n
      · have e1 := isR_beq hs
        have HS := Lib.hid hs
        clear hs
        go_wp2_with fail
        go_ret
        have hi : idxT s = some k := idxT_some HO.out HS.out HA.out
        exact ⟨by rw [hi]; rfl, rfl⟩
      · have e1 := isR_bne hs
        have HS := Lib.hid hs
        clear hs
        go_wp2_with fail
        refine ⟨⟨k + 1, hlt, rfl, fun j hj m hm => ?_⟩, ?_⟩
        · by_cases hjk : j = k
          · subst hjk
            rw [HO.out] at hm
            cases hm
            exact HS.out
          · exact HA.out j (by omega) m hm
        · have e1 : (intOf (Value.int IntKind.i64 ((k : Int) + 1))).toNat = k + 1 := by simp only [intOf]; omega
          have e2 : (intOf (Value.int IntKind.i64 (k : Int))).toNat = k := by simp only [intOf]; omega
          rw [e1, e2]
          omega
    · obtain rfl : k = 6 := by omega
      have HA := Lib.hid hall
      clear hall
      go_wp2_with fail
      go_ret
      have hi : idxT s = none := idxT_none HA.out
      exact ⟨by rw [hi]; rfl, rfl⟩

theorem typeOf_eq (s : ByteArray) : max (idxVal (idxT s)) 0 = typeOfI s := by
  unfold typeOfI
  by_cases h1 : s = ⟨#[120, 102, 120]⟩
  · subst h1; decide
  by_cases h2 : s = ⟨#[120, 102, 121]⟩
  · subst h2; decide
  by_cases h3 : s = ⟨#[121, 102, 120]⟩
  · subst h3; decide
  by_cases h4 : s = ⟨#[102, 121]⟩
  · subst h4; decide
  by_cases h5 : s = ⟨#[102, 120]⟩
  · subst h5; decide
  rw [if_neg h1, if_neg h2, if_neg h3, if_neg h4, if_neg h5]
  by_cases h0 : s = ⟨#[]⟩
  · subst h0; decide
  · have hi : idxT s = none := by
      unfold idxT tnames
      rw [List.findIdx?_eq_none_iff]
      intro x hx
      simp only [List.mem_cons, List.not_mem_nil, or_false] at hx
      rcases hx with rfl | rfl | rfl | rfl | rfl | rfl <;> simp_all
    rw [hi]
    rfl

set_option maxHeartbeats 800000 in
theorem typeOf_any (s : ByteArray) (w : World) (hT : TypesAt 0 w) :
    Calls Tryd.prog 23 #[.string s] w fun e w' => e = .returned (.int .i64 (typeOfI s)) ∧ w = w' := by
  have HT := Lib.hid hT
  clear hT
  go_enter Tryd.func23, Tryd.ntmps23
  go_wp2_with (go_at_call 47; refine (index_any _ s _ HT.out).mono ?_; rintro e w' ⟨rfl, rfl⟩)
  go_ret
  exact ⟨by simp [typeOf_eq], rfl⟩

end Go.Proofs.YtckkbghmiomfiaaDoor
