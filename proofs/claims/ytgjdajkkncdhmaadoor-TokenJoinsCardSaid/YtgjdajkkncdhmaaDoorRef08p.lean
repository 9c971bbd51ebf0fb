/- Layer 8, the reference: the walks of Plain and what it calls. -/
import Derived.Test.YtgjdajkkncdhmaaDoorTok
namespace Go.Proofs.YtgjdajkkncdhmaaDoor
open Go.RowKit Go.El

theorem ret_bool {a b : Bool} (h : a = b) : Ending.returned (.bool a) = .returned (.bool b) := by rw [h]

set_option maxHeartbeats 400000 in
theorem rSmall_any (c : UInt8) (w : World) :
    Calls Tryd.prog 24 #[.int .u8 (c.toNat : Int)] w fun e w' => e = .returned (.bool (smallN c.toNat)) ∧ w = w' := by
  go_enter Tryd.func24, Tryd.ntmps24
  go_wp2_with fail
  all_goals
    go_ret
    exact ⟨ret_bool (by rw [Bool.eq_iff_iff]; simp [smallN]; omega), rfl⟩

set_option maxHeartbeats 400000 in
theorem rWord_any (c : UInt8) (w : World) :
    Calls Tryd.prog 25 #[.int .u8 (c.toNat : Int)] w fun e w' => e = .returned (.bool (wordN c.toNat)) ∧ w = w' := by
  cases hs : smallN c.toNat
  all_goals
    have hs' := Lib.hid hs
    go_enter Tryd.func25, Tryd.ntmps25
    go_wp2_with (go_at_call 24; refine (rSmall_any _ _).mono ?_; rintro e w' ⟨rfl, rfl⟩)
    all_goals
      have hs2 := hs'.out
      simp only [smallN, decide_eq_true_eq, decide_eq_false_iff_not] at hs2
      go_ret
      exact ⟨ret_bool (by rw [Bool.eq_iff_iff]; simp [wordN]; omega), rfl⟩

set_option maxHeartbeats 400000 in
theorem rSign_any (c : UInt8) (w : World) :
    Calls Tryd.prog 26 #[.int .u8 (c.toNat : Int)] w fun e w' => e = .returned (.bool (hasB signS c)) ∧ w = w' := by
  go_enter Tryd.func26, Tryd.ntmps26
  go_wp2_with fail
  go_loop [4] (fun i => ∃ k : Nat, k ≤ 17 ∧ i = .int .i64 k ∧ ∀ j, j < k → signL[j]? ≠ some c) (fun i => 17 - (intOf i).toNat)
  case atStart => exact ⟨0, by omega, rfl, fun j hj => by omega⟩
  case round =>
    obtain ⟨k, hk, rfl, hall⟩ := hrel
    by_cases hlt : k < 17
    · have hk' : k < signS.size := hlt
      have e1 : signL[k]? = some (signS[k]'hk') := List.getElem?_eq_getElem (l := signL) hlt
      go_wp2_with fail
      · have hq : (((signS[k]'hk').toNat : Int) == (c.toNat : Int)) = true := by assumption
        have hc : signS[k]'hk' = c := UInt8.toNat_inj.1 (by have := eq_of_beq hq; omega)
        go_ret
        refine ⟨ret_bool (Eq.symm ?_), rfl⟩
        have hm : c ∈ signL := by rw [← hc]; exact List.mem_of_getElem? e1
        simpa [hasB, signL] using hm
      · have hq : (((signS[k]'hk').toNat : Int) == (c.toNat : Int)) = false := by assumption
        have hc : signS[k]'hk' ≠ c := fun e => by rw [e] at hq; simp at hq
        go_round
        case rel =>
          refine ⟨k + 1, hlt, by go_num, fun j hj => ?_⟩
          by_cases hjk : j = k
          · subst hjk; rw [e1]; simpa using hc
          · exact hall j (by omega)
        case measure => simp [intOf]; omega
    · obtain rfl : k = 17 := by omega
      have HF : Hid (hasB signS c = false) := by
        cases h : hasB signS c with
        | false => rfl
        | true =>
          have hm : c ∈ signL := by simpa [hasB, signL] using h
          obtain ⟨j, hj⟩ := List.mem_iff_getElem?.1 hm
          have hj' : j < 17 := (List.getElem?_eq_some_iff.1 hj).1
          exact absurd hj (hall j hj')
      clear hall
      go_wp2_with fail
      go_ret
      exact ⟨ret_bool HF.out.symm, rfl⟩

/-- Of the first k bytes: are all among some? -/
def allTo (s cs : ByteArray) (k : Nat) : Bool := (s.data.toList.take k).all (hasB cs)
theorem allTo_zero (s cs : ByteArray) : allTo s cs 0 = true := by simp [allTo]
theorem allTo_succ (s cs : ByteArray) (k : Nat) (h : k < s.size) : allTo s cs (k + 1) = (allTo s cs k && hasB cs (s[k]'h)) := by
  have hl : k < s.data.toList.length := by simpa using h
  unfold allTo
  rw [List.take_succ_eq_append_getElem hl, List.all_append]
  simp
  rfl
theorem allTo_end (s cs : ByteArray) (k : Nat) (h : s.size ≤ k) : allTo s cs k = allB s cs := by
  unfold allTo allB
  rw [List.take_of_length_le (by simpa using h)]

theorem wordN_hasB (c : UInt8) : wordN c.toNat = hasB wordS c := by rw [hasB_word, isWord_nat]
theorem smallN_hasB (c : UInt8) : smallN c.toNat = hasB smallS c := by rw [hasB_small, isSmall_nat]

set_option maxHeartbeats 1000000 in
theorem rPlain_loop (s : ByteArray) (w : World) (hs : s.size ≤ 9223372036854775807) (h1 : s.data.toList ≠ [33]) (h2 : s.data.toList ≠ [59]) (h3 : s.data.toList ≠ [91, 93]) (h4 : s.data.toList ≠ [123, 125]) (h5 : s.data.toList ≠ []) (h6 : s.data.toList ≠ [46]) :
    Calls Tryd.prog 14 #[.string s] w fun e w' => e = .returned (.bool (plainB s)) ∧ w = w' := by
  obtain ⟨h0, hp⟩ := plain_else h1 h2 h3 h4 h5 h6
  have e1 := lit_ne h1
  have e2 := lit_ne h2
  have e3 := lit_ne h3
  have e4 := lit_ne h4
  have e5 : s.toList.isEmpty = false := by rw [ByteArray.toList_eq]; simpa using h5
  have e6 := lit_ne h6
  have e8 : UInt8.ofNat (s[0]).toNat = s[0] := by simp
  have hpr : prefB s ⟨#[47, 42]⟩ = (decide (2 ≤ s.size) && ((s.extract 0 2).toList == [47, 42])) := by
    have h := (Lib.hasPrefix_raw s ⟨#[47, 42]⟩).symm
    rw [ByteArray.toList_eq (⟨#[47, 42]⟩ : ByteArray)] at h
    exact h
  clear h1 h2 h3 h4 h5 h6
  have hcase : (2 ≤ s.size ∧ ((s.extract 0 2).toList == [47, 42]) = true) ∨ (2 ≤ s.size ∧ ((s.extract 0 2).toList == [47, 42]) = false) ∨ s.size < 2 := by
    by_cases g2 : 2 ≤ s.size
    · cases g3 : ((s.extract 0 2).toList == [47, 42])
      · exact .inr (.inl ⟨g2, rfl⟩)
      · exact .inl ⟨g2, rfl⟩
    · exact .inr (.inr (by omega))
  rcases hcase with ⟨g2, g3⟩ | hcase
  · rw [hpr] at hp
    simp only [g2, g3, decide_true, Bool.and_self, if_true] at hp
    have HP := Lib.hid hp
    clear hp hpr
    go_enter Tryd.func14, Tryd.ntmps14
    go_wp2_with fail
    go_ret
    exact ⟨ret_bool HP.out.symm, rfl⟩
  · have hp' : plainB s = (hasB smallS s[0] && allB s wordS || allB s signS) := by
      rw [hp, hpr, if_neg]
      rcases hcase with ⟨_, g3⟩ | g2
      · simp [g3]
      · simp; omega
    have HP := Lib.hid hp'
    clear hp hpr hp'
    rcases hcase with ⟨g2, g3⟩ | g2
    all_goals
      go_enter Tryd.func14, Tryd.ntmps14
      go_wp2_with (go_at_call 24; refine (rSmall_any _ _).mono ?_; rintro e w' ⟨rfl, rfl⟩)
      go_loop [3, 4, 5] (fun a b i => ∃ k : Nat, k ≤ s.size ∧ i = .int .i64 k ∧ a = .bool (smallN (s[0]).toNat && allTo s wordS k) ∧ b = .bool (allTo s signS k)) (fun _ _ i => s.size - (intOf i).toNat)
      case atStart => exact ⟨0, Nat.zero_le _, rfl, by simp [allTo_zero], by simp [allTo_zero]⟩
      case round =>
        obtain ⟨k, hk, rfl, rfl, rfl⟩ := hrel
        by_cases hlt : k < s.size
        · have hw1 := allTo_succ s wordS k hlt
          have hw2 := allTo_succ s signS k hlt
          have hwn := wordN_hasB (s[k]'hlt)
          have Hw := Lib.hid hw1
          have Hs := Lib.hid hw2
          have Hn := Lib.hid hwn
          clear hw1 hw2 hwn
          generalize hA : (smallN (s[0]).toNat && allTo s wordS k) = A
          generalize hB : allTo s signS k = B
          have HA := Lib.hid hA
          have HB := Lib.hid hB
          clear hA hB
          cases A <;> cases B
          all_goals
            go_wp2_with (first
              | (go_at_call 25; refine (rWord_any _ _).mono ?_; rintro e w' ⟨rfl, rfl⟩)
              | (go_at_call 26; refine (rSign_any _ _).mono ?_; rintro e w' ⟨rfl, rfl⟩))
            go_round
            case rel => exact ⟨k + 1, by omega, by go_num, by rw [Hw.out, ← Bool.and_assoc, HA.out, ← Hn.out]; simp, by rw [Hs.out, HB.out]; simp⟩
            case measure => simp [intOf]; omega
        · have hw1 := allTo_end s wordS k (by omega)
          have hw2 := allTo_end s signS k (by omega)
          have HE : Hid (plainB s = (smallN (s[0]).toNat && allTo s wordS k || allTo s signS k)) := by
            rw [hw1, hw2, smallN_hasB]; exact HP.out
          clear hw1 hw2 HP
          generalize hA : (smallN (s[0]).toNat && allTo s wordS k) = A at HE ⊢
          generalize hB : allTo s signS k = B at HE ⊢
          clear hA hB
          cases A <;> cases B
          all_goals
            go_wp2_with fail
            go_ret
            exact ⟨ret_bool HE.out.symm, rfl⟩

set_option maxHeartbeats 1000000 in
theorem rPlain_any (s : ByteArray) (w : World) (hs : s.size ≤ 9223372036854775807) :
    Calls Tryd.prog 14 #[.string s] w fun e w' => e = .returned (.bool (plainB s)) ∧ w = w' := by
  by_cases h1 : s.data.toList = [33]
  · obtain rfl := mk_of h1
    go_enter Tryd.func14, Tryd.ntmps14
    go_wp2
    go_ret
    exact ⟨rfl, rfl⟩
  by_cases h2 : s.data.toList = [59]
  · obtain rfl := mk_of h2
    go_enter Tryd.func14, Tryd.ntmps14
    go_wp2
    go_ret
    exact ⟨rfl, rfl⟩
  by_cases h3 : s.data.toList = [91, 93]
  · obtain rfl := mk_of h3
    go_enter Tryd.func14, Tryd.ntmps14
    go_wp2
    go_ret
    exact ⟨rfl, rfl⟩
  by_cases h4 : s.data.toList = [123, 125]
  · obtain rfl := mk_of h4
    go_enter Tryd.func14, Tryd.ntmps14
    go_wp2
    go_ret
    exact ⟨rfl, rfl⟩
  by_cases h5 : s.data.toList = []
  · obtain rfl := mk_of h5
    go_enter Tryd.func14, Tryd.ntmps14
    go_wp2
    go_ret
    exact ⟨rfl, rfl⟩
  by_cases h6 : s.data.toList = [46]
  · obtain rfl := mk_of h6
    go_enter Tryd.func14, Tryd.ntmps14
    go_wp2
    go_ret
    exact ⟨rfl, rfl⟩
  exact rPlain_loop s w hs h1 h2 h3 h4 h5 h6

end Go.Proofs.YtgjdajkkncdhmaaDoor
