/- Layer 8 (token), the walks of Plain and what it calls. -/
import Derived.Test.YtgcdhffeacdegaaGreatDoorRows
import Derived.Test.YtgcdhffeacdegaaGreatDoorG01
import Derived.WalkKit
import Derived.WalkSpells
import Derived.WalkLawsBesides
import Derived.Deep.QuietTactic
import Derived.BigQuiet
import Derived.Lib.Hide
import Derived.Lib.Bytealg
import Derived.Lib.OthersKept
namespace Go.Proofs.YtgcdhffeacdegaaGreatDoor
open Go.RowKit Go.El

set_option maxRecDepth 100000 in
set_option maxHeartbeats 400000 in
theorem indexByteLite_any (s : ByteArray) (c : Int) (w : World) :
    Calls Tryz.prog 162 #[.string s, .int .u8 c] w fun e w' => e = .returned (.int .i64 (Lib.indexByte s.data.toList c.toNat.toUInt8)) ∧ w = w' := by
  go_enter Tryz.func162, Tryz.ntmps162
  go_wp2
  rw [run_callFunc_extern Tryz.func179 (by kernel_rfl) (by kernel_rfl) (by kernel_rfl) (e := Extern.BytealgIndexByte.indexByte) (by kernel_rfl), Lib.run_indexByteString]
  simp only [Result.andThen]
  rw [Oper.upon_value]
  go_wp2
  go_ret
  exact ⟨rfl, rfl⟩

set_option maxHeartbeats 400000 in
theorem in_any (c : Int) (s : ByteArray) (w : World) :
    Calls Tryz.prog 85 #[.int .u8 c, .string s] w fun e w' => e = .returned (.bool (hasB s (UInt8.ofNat c.toNat))) ∧ w = w' := by
  have h1 := Lib.indexByte_ge s.data.toList c.toNat.toUInt8
  have h2 : Lib.indexByte s.data.toList c.toNat.toUInt8 ≤ s.data.toList.length := by
    generalize s.data.toList = l
    induction l with
    | nil => simp [Lib.indexByte]
    | cons b l ih =>
      simp only [Lib.indexByte, List.length_cons]
      split
      · omega
      · split <;> omega
  have h3 := Lib.contains_iff_indexByte s.data.toList c.toNat.toUInt8
  simp only [Nat.toUInt8_eq] at h1 h2 h3
  have H3 := Lib.hid h3
  clear h3
  go_enter Tryz.func85, Tryz.ntmps85
  go_wp2_with (first
    | (go_at_call 162; refine (indexByteLite_any _ _ _).mono ?_; rintro e w' ⟨rfl, rfl⟩)
    | go_in)
  go_ret
  exact ⟨by unfold hasB; rw [H3.out]; rfl, rfl⟩

/-- What is known of a name up to a place: all bytes ahead of it are among some (so they are ASCII). -/
def AllTo (nm cs : ByteArray) (pos : Nat) : Prop := ∀ b ∈ nm.data.toList.take pos, hasB cs b = true

theorem AllTo.step {nm cs : ByteArray} {pos : Nat} (h : AllTo nm cs pos) (hp : pos < nm.size) (hb : hasB cs (nm[pos]'hp) = true) : AllTo nm cs (pos + 1) := by
  intro b hm
  have hl : pos < nm.data.toList.length := by simpa using hp
  rw [List.take_succ_eq_append_getElem hl, List.mem_append] at hm
  rcases hm with hm | hm
  · exact h b hm
  · rw [List.mem_singleton] at hm
    subst hm
    exact hb

theorem AllTo.no {nm cs : ByteArray} {pos : Nat} (hp : pos < nm.size) (hb : hasB cs (nm[pos]'hp) = false) : (allB nm cs) = false := by
  have hl : pos < nm.data.toList.length := by simpa using hp
  unfold allB
  rw [List.all_eq_false]
  have e : nm.data.toList[pos] = nm[pos]'hp := rfl
  exact ⟨nm.data.toList[pos], List.getElem_mem hl, by rw [e, hb]; simp⟩

theorem AllTo.yes {nm cs : ByteArray} {pos : Nat} (h : AllTo nm cs pos) (hp : ¬ pos < nm.size) : (allB nm cs) = true := by
  unfold allB
  rw [List.all_eq_true]
  intro b hb
  refine h b ?_
  rw [List.take_of_length_le (by simpa using Nat.le_of_not_lt hp)]
  exact hb

theorem below_iter (w : World) (s : ByteArray) (pos : Nat) : Below w.heap.size w (w.iter s pos) := (Below.refl _ _).alloc (Nat.le_refl _) _

set_option maxHeartbeats 400000 in
theorem all_any (nm cs : ByteArray) (w : World) (hcs : ∀ c, hasB cs c = true → c.toNat < 128) :
    Calls Tryz.prog 86 #[.string nm, .string cs] w fun e w' => e = .returned (.bool (allB nm cs)) ∧ Below w.heap.size w w' := by
  go_enter Tryz.func86, Tryz.ntmps86
  go_wp2_with fail
  go_loopw [6] (fun _ wr => ∃ pos : Nat, wr = w.iter nm pos ∧ AllTo nm cs pos) (fun _ wr => nm.size - wr.iterPos w.heap.size)
  case atStart => exact ⟨0, rfl, by intro b hb; simp at hb⟩
  case round =>
    obtain ⟨pos, rfl, hall⟩ := hrel
    by_cases hlt : pos < nm.size
    · by_cases hhi : (nm[pos]'hlt).toNat < 128
      · have hn := fun ty => run_next_ascii (P := Tryz.prog) w nm pos ty hlt hhi
        by_cases hb : hasB cs (nm[pos]'hlt) = true
        · go_wp2_with (go_at_call 85; refine (in_any _ _ _).mono ?_; rintro e w' ⟨rfl, rfl⟩)
          go_roundw
          case rel => exact ⟨pos + 1, rfl, hall.step hlt hb⟩
          case measure => simp; omega
        · have hb' : hasB cs (nm[pos]'hlt) = false := by simpa using hb
          have HF := Lib.hid (AllTo.no hlt hb')
          go_wp2_with (go_at_call 85; refine (in_any _ _ _).mono ?_; rintro e w' ⟨rfl, rfl⟩)
          go_ret
          exact ⟨by rw [HF.out]; rfl, below_iter _ _ _⟩
      · have hn := fun ty => run_next_any (P := Tryz.prog) w nm pos ty hlt
        have hd := (decode_high nm pos hlt (by omega)).1
        have hb' : hasB cs (nm[pos]'hlt) = false := by
          cases h : hasB cs (nm[pos]'hlt) with
          | false => rfl
          | true => exact absurd (hcs _ h) hhi
        have HF := Lib.hid (AllTo.no hlt hb')
        clear hb' hcs
        go_wp2_with (go_at_call 85; refine (in_any _ _ _).mono ?_; rintro e w' ⟨rfl, rfl⟩)
        go_ret
        exact ⟨by rw [HF.out]; rfl, below_iter _ _ _⟩
    · have hn := fun ty => run_next_end (P := Tryz.prog) w nm pos ty hlt
      have HF := Lib.hid (hall.yes hlt)
      go_wp2_with fail
      go_ret
      exact ⟨by rw [HF.out]; rfl, below_iter _ _ _⟩

set_option maxHeartbeats 400000 in
theorem hasPrefixLite_any (s p : ByteArray) (w : World) :
    Calls Tryz.prog 126 #[.string s, .string p] w fun e w' => e = .returned (.bool (prefB s p)) ∧ w = w' := by
  unfold prefB
  rw [← Lib.hasPrefix_of_take, ← Lib.size_eq, ← Lib.size_eq]
  go_enter Tryz.func126, Tryz.ntmps126
  go_wp2
  · rename_i h
    go_ret
    refine ⟨?_, rfl⟩
    show Ending.returned (Value.bool ((s.extract 0 p.size).toList == p.toList)) = _
    rw [Lib.extract_toList, Lib.toList_data]
    simp [h]
  · rename_i h
    go_ret
    refine ⟨?_, rfl⟩
    show Ending.returned (Value.bool false) = _
    simp [h]

set_option maxHeartbeats 400000 in
theorem hasPrefix_any (s p : ByteArray) (w : World) :
    Calls Tryz.prog 84 #[.string s, .string p] w fun e w' => e = .returned (.bool (prefB s p)) ∧ w = w' := by
  go_enter Tryz.func84, Tryz.ntmps84
  go_wp2_with (go_at_call 126; refine (hasPrefixLite_any _ _ _).mono ?_; rintro e w' ⟨rfl, rfl⟩)
  go_ret
  exact ⟨rfl, rfl⟩

theorem ext_trans {a b c : World} (h : Below a.heap.size a b) (k : Below b.heap.size b c) : Below a.heap.size a c := h.trans (k.mono h.size)

theorem below_refl (w : World) : Below w.heap.size w w := Below.refl _ _

set_option maxHeartbeats 400000 in
theorem plain_any (s : ByteArray) (w : World) :
    Calls Tryz.prog 58 #[.string s] w fun e w' => e = .returned (.bool (plainB s)) ∧ Below w.heap.size w w' := by
  by_cases h1 : s.data.toList = [33]
  · obtain rfl := mk_of h1
    go_enter Tryz.func58, Tryz.ntmps58
    go_wp2
    go_ret
    exact ⟨rfl, below_refl _⟩
  by_cases h2 : s.data.toList = [59]
  · obtain rfl := mk_of h2
    go_enter Tryz.func58, Tryz.ntmps58
    go_wp2
    go_ret
    exact ⟨rfl, below_refl _⟩
  by_cases h3 : s.data.toList = [91, 93]
  · obtain rfl := mk_of h3
    go_enter Tryz.func58, Tryz.ntmps58
    go_wp2
    go_ret
    exact ⟨rfl, below_refl _⟩
  by_cases h4 : s.data.toList = [123, 125]
  · obtain rfl := mk_of h4
    go_enter Tryz.func58, Tryz.ntmps58
    go_wp2
    go_ret
    exact ⟨rfl, below_refl _⟩
  by_cases h5 : s.data.toList = []
  · obtain rfl := mk_of h5
    go_enter Tryz.func58, Tryz.ntmps58
    go_wp2
    go_ret
    exact ⟨rfl, below_refl _⟩
  by_cases h6 : s.data.toList = [46]
  · obtain rfl := mk_of h6
    go_enter Tryz.func58, Tryz.ntmps58
    go_wp2
    go_ret
    exact ⟨rfl, below_refl _⟩
  obtain ⟨h0, hp⟩ := plain_else h1 h2 h3 h4 h5 h6
  have e1 := lit_ne h1
  have e2 := lit_ne h2
  have e3 := lit_ne h3
  have e4 := lit_ne h4
  have e5 : s.toList.isEmpty = false := by rw [ByteArray.toList_eq]; simpa using h5
  have e6 := lit_ne h6
  have e8 : UInt8.ofNat (s[0]).toNat = s[0] := by simp
  clear h1 h2 h3 h4 h5 h6
  cases hpre : prefB s ⟨#[47, 42]⟩
  · rw [hpre] at hp
    cases hsm : hasB smallS s[0] <;> cases hw : allB s wordS <;> cases hg : allB s signS
    all_goals
      rw [hsm, hw, hg] at hp
      have HP := Lib.hid hp
      clear hp
      go_enter Tryz.func58, Tryz.ntmps58
      go_wp2_with (first
        | (go_at_call 85; refine (in_any _ _ _).mono ?_; rintro e w' ⟨rfl, rfl⟩)
        | (go_at_call 84; refine (hasPrefix_any _ _ _).mono ?_; rintro e w' ⟨rfl, rfl⟩)
        | (go_at_call 86; refine (all_any _ _ _ ?_).mono ?_; (first | exact wordS_lt | exact signS_lt); rintro e w' ⟨rfl, hb⟩))
      go_ret
      exact ⟨by rw [HP.out]; rfl, by first | assumption | exact ext_trans ‹Below w.heap.size w _› ‹_›⟩
  · rw [hpre] at hp
    have HP := Lib.hid hp
    clear hp
    go_enter Tryz.func58, Tryz.ntmps58
    go_wp2_with (go_at_call 84; refine (hasPrefix_any _ _ _).mono ?_; rintro e w' ⟨rfl, rfl⟩)
    go_ret
    exact ⟨by rw [HP.out]; rfl, below_refl _⟩

end Go.Proofs.YtgcdhffeacdegaaGreatDoor

/- Layer 8, the reference: the walks of Plain and what it calls. -/
namespace Go.Proofs.YtgcdhffeacdegaaGreatDoor
open Go.RowKit Go.El

theorem ret_bool {a b : Bool} (h : a = b) : Ending.returned (.bool a) = .returned (.bool b) := by rw [h]

set_option maxHeartbeats 400000 in
theorem rSmall_any (c : UInt8) (w : World) :
    Calls Tryz.prog 88 #[.int .u8 (c.toNat : Int)] w fun e w' => e = .returned (.bool (smallN c.toNat)) ∧ w = w' := by
  go_enter Tryz.func88, Tryz.ntmps88
  go_wp2_with fail
  all_goals
    go_ret
    exact ⟨ret_bool (by rw [Bool.eq_iff_iff]; simp [smallN]; omega), rfl⟩

set_option maxHeartbeats 400000 in
theorem rWord_any (c : UInt8) (w : World) :
    Calls Tryz.prog 89 #[.int .u8 (c.toNat : Int)] w fun e w' => e = .returned (.bool (wordN c.toNat)) ∧ w = w' := by
  cases hs : smallN c.toNat
  all_goals
    have hs' := Lib.hid hs
    go_enter Tryz.func89, Tryz.ntmps89
    go_wp2_with (go_at_call 88; refine (rSmall_any _ _).mono ?_; rintro e w' ⟨rfl, rfl⟩)
    all_goals
      have hs2 := hs'.out
      simp only [smallN, decide_eq_true_eq, decide_eq_false_iff_not] at hs2
      go_ret
      exact ⟨ret_bool (by rw [Bool.eq_iff_iff]; simp [wordN]; omega), rfl⟩

set_option maxHeartbeats 400000 in
theorem rSign_any (c : UInt8) (w : World) :
    Calls Tryz.prog 90 #[.int .u8 (c.toNat : Int)] w fun e w' => e = .returned (.bool (hasB signS c)) ∧ w = w' := by
  go_enter Tryz.func90, Tryz.ntmps90
  go_wp2_with fail
  go_loop [4] (fun i => ∃ k : Nat, k ≤ 17 ∧ i = .int .i64 k ∧ ∀ j, j < k → signL[j]? ≠ some c) (fun i => 17 - (intOf i).toNat)
  case atStart => exact ⟨0, by omega, rfl, fun j hj => by omega⟩
  case round =>
    obtain ⟨k, hk, rfl, hall⟩ := hrel
    by_cases hlt : k < 17
    · have hk' : k < signS.size := hlt
      have e1 : signL[k]? = some (signS[k]'hk') := List.getElem?_eq_getElem (l := signL) hlt
      go_wp2_with fail
      · have hq : (((signS[k]'hk').toNat : Int) == (c.toNat : Int)) = true := by assumption
        have hc : signS[k]'hk' = c := UInt8.toNat_inj.1 (by have := eq_of_beq hq; omega)
        go_ret
        refine ⟨ret_bool (Eq.symm ?_), rfl⟩
        have hm : c ∈ signL := by rw [← hc]; exact List.mem_of_getElem? e1
        simpa [hasB, signL] using hm
      · have hq : (((signS[k]'hk').toNat : Int) == (c.toNat : Int)) = false := by assumption
        have hc : signS[k]'hk' ≠ c := fun e => by rw [e] at hq; simp at hq
        go_round
        case rel =>
          refine ⟨k + 1, hlt, by go_num, fun j hj => ?_⟩
          by_cases hjk : j = k
          · subst hjk; rw [e1]; simpa using hc
          · exact hall j (by omega)
        case measure => simp [intOf]; omega
    · obtain rfl : k = 17 := by omega
      have HF : Hid (hasB signS c = false) := by
        cases h : hasB signS c with
        | false => rfl
        | true =>
          have hm : c ∈ signL := by simpa [hasB, signL] using h
          obtain ⟨j, hj⟩ := List.mem_iff_getElem?.1 hm
          have hj' : j < 17 := (List.getElem?_eq_some_iff.1 hj).1
          exact absurd hj (hall j hj')
      clear hall
      go_wp2_with fail
      go_ret
      exact ⟨ret_bool HF.out.symm, rfl⟩

/-- Of the first k bytes: are all among some? -/
def allTo (s cs : ByteArray) (k : Nat) : Bool := (s.data.toList.take k).all (hasB cs)
theorem allTo_zero (s cs : ByteArray) : allTo s cs 0 = true := by simp [allTo]
theorem allTo_succ (s cs : ByteArray) (k : Nat) (h : k < s.size) : allTo s cs (k + 1) = (allTo s cs k && hasB cs (s[k]'h)) := by
  have hl : k < s.data.toList.length := by simpa using h
  unfold allTo
  rw [List.take_succ_eq_append_getElem hl, List.all_append]
  simp
  rfl
theorem allTo_end (s cs : ByteArray) (k : Nat) (h : s.size ≤ k) : allTo s cs k = allB s cs := by
  unfold allTo allB
  rw [List.take_of_length_le (by simpa using h)]

theorem wordN_hasB (c : UInt8) : wordN c.toNat = hasB wordS c := by rw [hasB_word, isWord_nat]
theorem smallN_hasB (c : UInt8) : smallN c.toNat = hasB smallS c := by rw [hasB_small, isSmall_nat]

set_option maxHeartbeats 1000000 in
theorem rPlain_loop (s : ByteArray) (w : World) (hs : s.size ≤ 9223372036854775807) (h1 : s.data.toList ≠ [33]) (h2 : s.data.toList ≠ [59]) (h3 : s.data.toList ≠ [91, 93]) (h4 : s.data.toList ≠ [123, 125]) (h5 : s.data.toList ≠ []) (h6 : s.data.toList ≠ [46]) :
    Calls Tryz.prog 60 #[.string s] w fun e w' => e = .returned (.bool (plainB s)) ∧ w = w' := by
  obtain ⟨h0, hp⟩ := plain_else h1 h2 h3 h4 h5 h6
  have e1 := lit_ne h1
  have e2 := lit_ne h2
  have e3 := lit_ne h3
  have e4 := lit_ne h4
  have e5 : s.toList.isEmpty = false := by rw [ByteArray.toList_eq]; simpa using h5
  have e6 := lit_ne h6
  have e8 : UInt8.ofNat (s[0]).toNat = s[0] := by simp
  have hpr : prefB s ⟨#[47, 42]⟩ = (decide (2 ≤ s.size) && ((s.extract 0 2).toList == [47, 42])) := by
    have h := (Lib.hasPrefix_raw s ⟨#[47, 42]⟩).symm
    rw [ByteArray.toList_eq (⟨#[47, 42]⟩ : ByteArray)] at h
    exact h
  clear h1 h2 h3 h4 h5 h6
  have hcase : (2 ≤ s.size ∧ ((s.extract 0 2).toList == [47, 42]) = true) ∨ (2 ≤ s.size ∧ ((s.extract 0 2).toList == [47, 42]) = false) ∨ s.size < 2 := by
    by_cases g2 : 2 ≤ s.size
    · cases g3 : ((s.extract 0 2).toList == [47, 42])
      · exact .inr (.inl ⟨g2, rfl⟩)
      · exact .inl ⟨g2, rfl⟩
    · exact .inr (.inr (by omega))
  rcases hcase with ⟨g2, g3⟩ | hcase
  · rw [hpr] at hp
    simp only [g2, g3, decide_true, Bool.and_self, if_true] at hp
    have HP := Lib.hid hp
    clear hp hpr
    go_enter Tryz.func60, Tryz.ntmps60
    go_wp2_with fail
    go_ret
    exact ⟨ret_bool HP.out.symm, rfl⟩
  · have hp' : plainB s = (hasB smallS s[0] && allB s wordS || allB s signS) := by
      rw [hp, hpr, if_neg]
      rcases hcase with ⟨_, g3⟩ | g2
      · simp [g3]
      · simp; omega
    have HP := Lib.hid hp'
    clear hp hpr hp'
    rcases hcase with ⟨g2, g3⟩ | g2
    all_goals
      go_enter Tryz.func60, Tryz.ntmps60
      go_wp2_with (go_at_call 88; refine (rSmall_any _ _).mono ?_; rintro e w' ⟨rfl, rfl⟩)
      go_loop [3, 4, 5] (fun a b i => ∃ k : Nat, k ≤ s.size ∧ i = .int .i64 k ∧ a = .bool (smallN (s[0]).toNat && allTo s wordS k) ∧ b = .bool (allTo s signS k)) (fun _ _ i => s.size - (intOf i).toNat)
      case atStart => exact ⟨0, Nat.zero_le _, rfl, by simp [allTo_zero], by simp [allTo_zero]⟩
      case round =>
        obtain ⟨k, hk, rfl, rfl, rfl⟩ := hrel
        by_cases hlt : k < s.size
        · have hw1 := allTo_succ s wordS k hlt
          have hw2 := allTo_succ s signS k hlt
          have hwn := wordN_hasB (s[k]'hlt)
          have Hw := Lib.hid hw1
          have Hs := Lib.hid hw2
          have Hn := Lib.hid hwn
          clear hw1 hw2 hwn
          generalize hA : (smallN (s[0]).toNat && allTo s wordS k) = A
          generalize hB : allTo s signS k = B
          have HA := Lib.hid hA
          have HB := Lib.hid hB
          clear hA hB
          cases A <;> cases B
          all_goals
            go_wp2_with (first
              | (go_at_call 89; refine (rWord_any _ _).mono ?_; rintro e w' ⟨rfl, rfl⟩)
              | (go_at_call 90; refine (rSign_any _ _).mono ?_; rintro e w' ⟨rfl, rfl⟩))
            go_round
            case rel => exact ⟨k + 1, by omega, by go_num, by rw [Hw.out, ← Bool.and_assoc, HA.out, ← Hn.out]; simp, by rw [Hs.out, HB.out]; simp⟩
            case measure => simp [intOf]; omega
        · have hw1 := allTo_end s wordS k (by omega)
          have hw2 := allTo_end s signS k (by omega)
          have HE : Hid (plainB s = (smallN (s[0]).toNat && allTo s wordS k || allTo s signS k)) := by
            rw [hw1, hw2, smallN_hasB]; exact HP.out
          clear hw1 hw2 HP
          generalize hA : (smallN (s[0]).toNat && allTo s wordS k) = A at HE ⊢
          generalize hB : allTo s signS k = B at HE ⊢
          clear hA hB
          cases A <;> cases B
          all_goals
            go_wp2_with fail
            go_ret
            exact ⟨ret_bool HE.out.symm, rfl⟩

set_option maxHeartbeats 1000000 in
theorem rPlain_any (s : ByteArray) (w : World) (hs : s.size ≤ 9223372036854775807) :
    Calls Tryz.prog 60 #[.string s] w fun e w' => e = .returned (.bool (plainB s)) ∧ w = w' := by
  by_cases h1 : s.data.toList = [33]
  · obtain rfl := mk_of h1
    go_enter Tryz.func60, Tryz.ntmps60
    go_wp2
    go_ret
    exact ⟨rfl, rfl⟩
  by_cases h2 : s.data.toList = [59]
  · obtain rfl := mk_of h2
    go_enter Tryz.func60, Tryz.ntmps60
    go_wp2
    go_ret
    exact ⟨rfl, rfl⟩
  by_cases h3 : s.data.toList = [91, 93]
  · obtain rfl := mk_of h3
    go_enter Tryz.func60, Tryz.ntmps60
    go_wp2
    go_ret
    exact ⟨rfl, rfl⟩
  by_cases h4 : s.data.toList = [123, 125]
  · obtain rfl := mk_of h4
    go_enter Tryz.func60, Tryz.ntmps60
    go_wp2
    go_ret
    exact ⟨rfl, rfl⟩
  by_cases h5 : s.data.toList = []
  · obtain rfl := mk_of h5
    go_enter Tryz.func60, Tryz.ntmps60
    go_wp2
    go_ret
    exact ⟨rfl, rfl⟩
  by_cases h6 : s.data.toList = [46]
  · obtain rfl := mk_of h6
    go_enter Tryz.func60, Tryz.ntmps60
    go_wp2
    go_ret
    exact ⟨rfl, rfl⟩
  exact rPlain_loop s w hs h1 h2 h3 h4 h5 h6

end Go.Proofs.YtgcdhffeacdegaaGreatDoor
