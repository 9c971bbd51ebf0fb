/- Layer 9, the reference: the walks of at and Find. -/
import Derived.Test.YtckkbghmiomfiaaDoorOper2
namespace Go.Proofs.YtckkbghmiomfiaaDoor
open Go.RowKit Go.El

def idxVal (x : Option Nat) : Int := match x with | some k => k | none => -1

theorem isR_beq {s n : ByteArray} (h : s = n) : (s.toList == n.toList) = true := by rw [h]; simp
theorem isR_bne {s n : ByteArray} (h : s ≠ n) : (s.toList == n.toList) = false := by
  rw [ByteArray.toList_eq, ByteArray.toList_eq, beq_eq_false_iff_ne]
  intro e
  exact h (by rw [← Lib.mk_data s, ← Lib.mk_data n, e])

set_option maxHeartbeats 800000 in
theorem rAt_any (rb : Nat) (v : Value) (L : List OpV) (nm : ByteArray) (pre : Bool) (w : World) (h : RefAt 32 w rb v L) :
    Calls Tryd.prog 42 #[.pointer (some ⟨rb, 0, none⟩), .string nm, .bool pre] w fun e w' => e = .returned (.int .i64 (idxVal (idxR nm pre L))) ∧ w = w' := by
  have h0 := h.cell
  have hbd := h.bound
  rcases h.form with ⟨rfl, rfl⟩ | ⟨g, c, rfl, hcs⟩
  · clear h
    go_enter Tryd.func42, Tryd.ntmps42
    go_wp2_with fail
    go_loop [7] (fun i => i = .int .i64 0) (fun _ => 0)
    case atStart => rfl
    case round =>
      obtain rfl := hrel
      go_wp2_with fail
      go_ret
      exact ⟨rfl, rfl⟩
  · clear h
    have hcs2 := Lib.hid hcs
    clear hcs
    go_enter Tryd.func42, Tryd.ntmps42
    go_wp2_with fail
    go_loop [7] (fun i => ∃ k : Nat, k ≤ L.length ∧ i = .int .i64 k ∧ ∀ j, j < k → ∀ o, L[j]? = some o → isR nm pre o = false) (fun i => L.length - (intOf i).toNat)
    case atStart => exact ⟨0, Nat.zero_le _, rfl, fun j hj => absurd hj (Nat.not_lt_zero j)⟩
    case round =>
      obtain ⟨k, hk, rfl, hall⟩ := hrel
      by_cases hlt : k < L.length
      · have ho : L[k]? = some L[k] := List.getElem?_eq_getElem hlt
        generalize L[k] = o at ho
        obtain ⟨_, c1, c2, _⟩ := hcs2.out k o ho
        have hno : isR nm pre o = false → ∀ j, j < k + 1 → ∀ o, L[j]? = some o → isR nm pre o = false := fun hf j hj o' ho' => by
          by_cases hjk : j = k
          · subst hjk
            rw [ho] at ho'
            cases ho'
            exact hf
          · exact hall j (by omega) o' ho'
        have Hyes := Lib.hid (fun hf : isR nm pre o = true => idxR_some ho hf hall)
        have Hno := Lib.hid hno
        clear hno hall
        have Ho := Lib.hid ho
        clear ho
        by_cases hs : o.s = nm
        · have e1 := isR_beq hs
          have HS := Lib.hid hs
          clear hs
          cases hp : preB o.t <;> cases pre
          all_goals
            go_wp2_with (go_at_call 46; refine (rPrefix_any _ _).mono ?_; rintro e w' ⟨rfl, rfl⟩)
            first
              | (go_ret
                 exact ⟨by rw [Hyes.out (by simp [isR, HS.out, hp])]; rfl, rfl⟩)
              | (go_round
                 case rel => exact ⟨k + 1, hlt, by go_num, Hno.out (by simp [isR, HS.out, hp])⟩
                 case measure => simp [intOf]; omega)
        · have e1 := isR_bne hs
          have HS := Lib.hid hs
          clear hs
          go_wp2_with (go_at_call 46; refine (rPrefix_any _ _).mono ?_; rintro e w' ⟨rfl, rfl⟩)
          go_round
          case rel => exact ⟨k + 1, hlt, by go_num, Hno.out (by simp [isR, HS.out])⟩
          case measure => simp [intOf]; omega
      · have HE := Lib.hid (idxR_none (s := nm) (pre := pre) (L := L) (fun j hj => hall j (by omega)))
        clear hall
        go_wp2_with fail
        go_ret
        exact ⟨by rw [HE.out]; rfl, rfl⟩

end Go.Proofs.YtckkbghmiomfiaaDoor
