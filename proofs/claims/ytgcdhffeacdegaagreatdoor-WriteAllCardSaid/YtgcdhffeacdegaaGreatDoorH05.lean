/- Layer 8 (token), the walks of Plain and what it calls. -/
import Derived.Test.YtgcdhffeacdegaaGreatDoorRows
import Derived.Test.YtgcdhffeacdegaaGreatDoorH01
import Derived.WalkKit
import Derived.WalkSpells
import Derived.WalkLawsBesides
import Derived.Deep.QuietTactic
import Derived.BigQuiet
import Derived.Lib.Hide
import Derived.Lib.Bytealg
import Derived.Lib.OthersKept
import Derived.Test.YtgcdhffeacdegaaGreatDoorH03
import Derived.Laws.BytesArg
import Derived.Laws.IdiomStrings
import Derived.Lib.ConvBytes
import Derived.Test.YtgcdhffeacdegaaGreatDoorH04
import Derived.Deep.RegionHeld3
namespace Go.Proofs.YtgcdhffeacdegaaGreatDoor
open Go.RowKit Go.El
set_option maxRecDepth 100000 in
set_option maxHeartbeats 400000 in
theorem indexByteLite_any (s : ByteArray) (c : Int) (w : World) :
  Calls Tryz.prog 162 #[.string s, .int .u8 c] w fun e w' => e = .returned (.int .i64 (Lib.indexByte s.data.toList c.toNat.toUInt8)) ∧ w = w' := by
 go_enter Tryz.func162, Tryz.ntmps162
 go_wp2
 rw [run_callFunc_extern Tryz.func179 (by kernel_rfl) (by kernel_rfl) (by kernel_rfl) (e := Extern.BytealgIndexByte.indexByte) (by kernel_rfl), Lib.run_indexByteString]
 simp only [Result.andThen]
 rw [Oper.upon_value]
 go_wp2
 go_ret
 exact ⟨rfl, rfl⟩
set_option maxHeartbeats 400000 in
theorem in_any (c : Int) (s : ByteArray) (w : World) :
  Calls Tryz.prog 85 #[.int .u8 c, .string s] w fun e w' => e = .returned (.bool (hasB s (UInt8.ofNat c.toNat))) ∧ w = w' := by
 have h1 := Lib.indexByte_ge s.data.toList c.toNat.toUInt8
 have h2 : Lib.indexByte s.data.toList c.toNat.toUInt8 ≤ s.data.toList.length := by
  generalize s.data.toList = l
  induction l with
  | nil => simp [Lib.indexByte]
  | cons b l ih =>
   simp only [Lib.indexByte, List.length_cons]
   split
   ·omega
   ·split <;> omega
 have h3 := Lib.contains_iff_indexByte s.data.toList c.toNat.toUInt8
 simp only [Nat.toUInt8_eq] at h1 h2 h3
 have H3 := Lib.hid h3
 clear h3
 go_enter Tryz.func85, Tryz.ntmps85
 go_wp2_with (first
  | (go_at_call 162; refine (indexByteLite_any _ _ _).mono ?_; rintro e w' ⟨rfl, rfl⟩)
  | go_in)
 go_ret
 exact ⟨by unfold hasB; rw [H3.out]; rfl, rfl⟩
def AllTo (nm cs : ByteArray) (pos : Nat) : Prop := ∀ b ∈ nm.data.toList.take pos, hasB cs b = true
theorem AllTo.step {nm cs : ByteArray} {pos : Nat} (h : AllTo nm cs pos) (hp : pos < nm.size) (hb : hasB cs (nm[pos]'hp) = true) : AllTo nm cs (pos + 1) := by
 intro b hm
 have hl : pos < nm.data.toList.length := by simpa using hp
 rw [List.take_succ_eq_append_getElem hl, List.mem_append] at hm
 rcases hm with hm | hm
 ·exact h b hm
 ·rw [List.mem_singleton] at hm
  subst hm
  exact hb
theorem AllTo.no {nm cs : ByteArray} {pos : Nat} (hp : pos < nm.size) (hb : hasB cs (nm[pos]'hp) = false) : (allB nm cs) = false := by
 have hl : pos < nm.data.toList.length := by simpa using hp
 unfold allB
 rw [List.all_eq_false]
 have e : nm.data.toList[pos] = nm[pos]'hp := rfl
 exact ⟨nm.data.toList[pos], List.getElem_mem hl, by rw [e, hb]; simp⟩
theorem AllTo.yes {nm cs : ByteArray} {pos : Nat} (h : AllTo nm cs pos) (hp : ¬ pos < nm.size) : (allB nm cs) = true := by
 unfold allB
 rw [List.all_eq_true]
 intro b hb
 refine h b ?_
 rw [List.take_of_length_le (by simpa using Nat.le_of_not_lt hp)]
 exact hb
theorem below_iter (w : World) (s : ByteArray) (pos : Nat) : Below w.heap.size w (w.iter s pos) := (Below.refl _ _).alloc (Nat.le_refl _) _
set_option maxHeartbeats 400000 in
theorem all_any (nm cs : ByteArray) (w : World) (hcs : ∀ c, hasB cs c = true → c.toNat < 128) :
  Calls Tryz.prog 86 #[.string nm, .string cs] w fun e w' => e = .returned (.bool (allB nm cs)) ∧ Below w.heap.size w w' := by
 go_enter Tryz.func86, Tryz.ntmps86
 go_wp2_with fail
 go_loopw [6] (fun _ wr => ∃ pos : Nat, wr = w.iter nm pos ∧ AllTo nm cs pos) (fun _ wr => nm.size - wr.iterPos w.heap.size)
 case atStart => exact ⟨0, rfl, by intro b hb; simp at hb⟩
 case round =>
  obtain ⟨pos, rfl, hall⟩ := hrel
  by_cases hlt : pos < nm.size
  ·by_cases hhi : (nm[pos]'hlt).toNat < 128
   ·have hn := fun ty => run_next_ascii (P := Tryz.prog) w nm pos ty hlt hhi
    by_cases hb : hasB cs (nm[pos]'hlt) = true
    ·go_wp2_with (go_at_call 85; refine (in_any _ _ _).mono ?_; rintro e w' ⟨rfl, rfl⟩)
     go_roundw
     case rel => exact ⟨pos + 1, rfl, hall.step hlt hb⟩
     case measure => simp; omega
    ·have hb' : hasB cs (nm[pos]'hlt) = false := by simpa using hb
     have HF := Lib.hid (AllTo.no hlt hb')
     go_wp2_with (go_at_call 85; refine (in_any _ _ _).mono ?_; rintro e w' ⟨rfl, rfl⟩)
     go_ret
     exact ⟨by rw [HF.out]; rfl, below_iter _ _ _⟩
   ·have hn := fun ty => run_next_any (P := Tryz.prog) w nm pos ty hlt
    have hd := (decode_high nm pos hlt (by omega)).1
    have hb' : hasB cs (nm[pos]'hlt) = false := by
     cases h : hasB cs (nm[pos]'hlt) with
     | false => rfl
     | true => exact absurd (hcs _ h) hhi
    have HF := Lib.hid (AllTo.no hlt hb')
    clear hb' hcs
    go_wp2_with (go_at_call 85; refine (in_any _ _ _).mono ?_; rintro e w' ⟨rfl, rfl⟩)
    go_ret
    exact ⟨by rw [HF.out]; rfl, below_iter _ _ _⟩
  ·have hn := fun ty => run_next_end (P := Tryz.prog) w nm pos ty hlt
   have HF := Lib.hid (hall.yes hlt)
   go_wp2_with fail
   go_ret
   exact ⟨by rw [HF.out]; rfl, below_iter _ _ _⟩
set_option maxHeartbeats 400000 in
theorem hasPrefixLite_any (s p : ByteArray) (w : World) :
  Calls Tryz.prog 126 #[.string s, .string p] w fun e w' => e = .returned (.bool (prefB s p)) ∧ w = w' := by
 unfold prefB
 rw [← Lib.hasPrefix_of_take, ← Lib.size_eq, ← Lib.size_eq]
 go_enter Tryz.func126, Tryz.ntmps126
 go_wp2
 ·rename_i h
  go_ret
  refine ⟨?_, rfl⟩
  show Ending.returned (Value.bool ((s.extract 0 p.size).toList == p.toList)) = _
  rw [Lib.extract_toList, Lib.toList_data]
  simp [h]
 ·rename_i h
  go_ret
  refine ⟨?_, rfl⟩
  show Ending.returned (Value.bool false) = _
  simp [h]
set_option maxHeartbeats 400000 in
theorem hasPrefix_any (s p : ByteArray) (w : World) :
  Calls Tryz.prog 84 #[.string s, .string p] w fun e w' => e = .returned (.bool (prefB s p)) ∧ w = w' := by
 go_enter Tryz.func84, Tryz.ntmps84
 go_wp2_with (go_at_call 126; refine (hasPrefixLite_any _ _ _).mono ?_; rintro e w' ⟨rfl, rfl⟩)
 go_ret
 exact ⟨rfl, rfl⟩
theorem ext_trans {a b c : World} (h : Below a.heap.size a b) (k : Below b.heap.size b c) : Below a.heap.size a c := h.trans (k.mono h.size)
theorem below_refl (w : World) : Below w.heap.size w w := Below.refl _ _
set_option maxHeartbeats 400000 in
theorem plain_any (s : ByteArray) (w : World) :
  Calls Tryz.prog 58 #[.string s] w fun e w' => e = .returned (.bool (plainB s)) ∧ Below w.heap.size w w' := by
 by_cases h1 : s.data.toList = [33]
 ·obtain rfl := mk_of h1
  go_enter Tryz.func58, Tryz.ntmps58
  go_wp2
  go_ret
  exact ⟨rfl, below_refl _⟩
 by_cases h2 : s.data.toList = [59]
 ·obtain rfl := mk_of h2
  go_enter Tryz.func58, Tryz.ntmps58
  go_wp2
  go_ret
  exact ⟨rfl, below_refl _⟩
 by_cases h3 : s.data.toList = [91, 93]
 ·obtain rfl := mk_of h3
  go_enter Tryz.func58, Tryz.ntmps58
  go_wp2
  go_ret
  exact ⟨rfl, below_refl _⟩
 by_cases h4 : s.data.toList = [123, 125]
 ·obtain rfl := mk_of h4
  go_enter Tryz.func58, Tryz.ntmps58
  go_wp2
  go_ret
  exact ⟨rfl, below_refl _⟩
 by_cases h5 : s.data.toList = []
 ·obtain rfl := mk_of h5
  go_enter Tryz.func58, Tryz.ntmps58
  go_wp2
  go_ret
  exact ⟨rfl, below_refl _⟩
 by_cases h6 : s.data.toList = [46]
 ·obtain rfl := mk_of h6
  go_enter Tryz.func58, Tryz.ntmps58
  go_wp2
  go_ret
  exact ⟨rfl, below_refl _⟩
 obtain ⟨h0, hp⟩ := plain_else h1 h2 h3 h4 h5 h6
 have e1 := lit_ne h1
 have e2 := lit_ne h2
 have e3 := lit_ne h3
 have e4 := lit_ne h4
 have e5 : s.toList.isEmpty = false := by rw [ByteArray.toList_eq]; simpa using h5
 have e6 := lit_ne h6
 have e8 : UInt8.ofNat (s[0]).toNat = s[0] := by simp
 clear h1 h2 h3 h4 h5 h6
 cases hpre : prefB s ⟨#[47, 42]⟩
 ·rw [hpre] at hp
  cases hsm : hasB smallS s[0] <;> cases hw : allB s wordS <;> cases hg : allB s signS
  all_goals
   rw [hsm, hw, hg] at hp
   have HP := Lib.hid hp
   clear hp
   go_enter Tryz.func58, Tryz.ntmps58
   go_wp2_with (first
    | (go_at_call 85; refine (in_any _ _ _).mono ?_; rintro e w' ⟨rfl, rfl⟩)
    | (go_at_call 84; refine (hasPrefix_any _ _ _).mono ?_; rintro e w' ⟨rfl, rfl⟩)
    | (go_at_call 86; refine (all_any _ _ _ ?_).mono ?_; (first | exact wordS_lt | exact signS_lt); rintro e w' ⟨rfl, hb⟩))
   go_ret
   exact ⟨by rw [HP.out]; rfl, by first | assumption | exact ext_trans ‹Below w.heap.size w _› ‹_›⟩
 ·rw [hpre] at hp
  have HP := Lib.hid hp
  clear hp
  go_enter Tryz.func58, Tryz.ntmps58
  go_wp2_with (go_at_call 84; refine (hasPrefix_any _ _ _).mono ?_; rintro e w' ⟨rfl, rfl⟩)
  go_ret
  exact ⟨by rw [HP.out]; rfl, below_refl _⟩
end Go.Proofs.YtgcdhffeacdegaaGreatDoor

/- Layer 8, the reference: the walks of Plain and what it calls. -/
namespace Go.Proofs.YtgcdhffeacdegaaGreatDoor
open Go.RowKit Go.El
theorem ret_bool {a b : Bool} (h : a = b) : Ending.returned (.bool a) = .returned (.bool b) := by rw [h]
set_option maxHeartbeats 400000 in
theorem rSmall_any (c : UInt8) (w : World) :
  Calls Tryz.prog 88 #[.int .u8 (c.toNat : Int)] w fun e w' => e = .returned (.bool (smallN c.toNat)) ∧ w = w' := by
 go_enter Tryz.func88, Tryz.ntmps88
 go_wp2_with fail
 all_goals
  go_ret
  exact ⟨ret_bool (by rw [Bool.eq_iff_iff]; simp [smallN]; omega), rfl⟩
set_option maxHeartbeats 400000 in
theorem rWord_any (c : UInt8) (w : World) :
  Calls Tryz.prog 89 #[.int .u8 (c.toNat : Int)] w fun e w' => e = .returned (.bool (wordN c.toNat)) ∧ w = w' := by
 cases hs : smallN c.toNat
 all_goals
  have hs' := Lib.hid hs
  go_enter Tryz.func89, Tryz.ntmps89
  go_wp2_with (go_at_call 88; refine (rSmall_any _ _).mono ?_; rintro e w' ⟨rfl, rfl⟩)
  all_goals
   have hs2 := hs'.out
   simp only [smallN, decide_eq_true_eq, decide_eq_false_iff_not] at hs2
   go_ret
   exact ⟨ret_bool (by rw [Bool.eq_iff_iff]; simp [wordN]; omega), rfl⟩
set_option maxHeartbeats 400000 in
theorem rSign_any (c : UInt8) (w : World) :
  Calls Tryz.prog 90 #[.int .u8 (c.toNat : Int)] w fun e w' => e = .returned (.bool (hasB signS c)) ∧ w = w' := by
 go_enter Tryz.func90, Tryz.ntmps90
 go_wp2_with fail
 go_loop [4] (fun i => ∃ k : Nat, k ≤ 17 ∧ i = .int .i64 k ∧ ∀ j, j < k → signL[j]? ≠ some c) (fun i => 17 - (intOf i).toNat)
 case atStart => exact ⟨0, by omega, rfl, fun j hj => by omega⟩
 case round =>
  obtain ⟨k, hk, rfl, hall⟩ := hrel
  by_cases hlt : k < 17
  ·have hk' : k < signS.size := hlt
   have e1 : signL[k]? = some (signS[k]'hk') := List.getElem?_eq_getElem (l := signL) hlt
   go_wp2_with fail
   ·have hq : (((signS[k]'hk').toNat : Int) == (c.toNat : Int)) = true := by assumption
    have hc : signS[k]'hk' = c := UInt8.toNat_inj.1 (by have := eq_of_beq hq; omega)
    go_ret
    refine ⟨ret_bool (Eq.symm ?_), rfl⟩
    have hm : c ∈ signL := by rw [← hc]; exact List.mem_of_getElem? e1
    simpa [hasB, signL] using hm
   ·have hq : (((signS[k]'hk').toNat : Int) == (c.toNat : Int)) = false := by assumption
    have hc : signS[k]'hk' ≠ c := fun e => by rw [e] at hq; simp at hq
    go_round
    case rel =>
     refine ⟨k + 1, hlt, by go_num, fun j hj => ?_⟩
     by_cases hjk : j = k
     ·subst hjk; rw [e1]; simpa using hc
     ·exact hall j (by omega)
    case measure => simp [intOf]; omega
  ·obtain rfl : k = 17 := by omega
   have HF : Hid (hasB signS c = false) := by
    cases h : hasB signS c with
    | false => rfl
    | true =>
     have hm : c ∈ signL := by simpa [hasB, signL] using h
     obtain ⟨j, hj⟩ := List.mem_iff_getElem?.1 hm
     have hj' : j < 17 := (List.getElem?_eq_some_iff.1 hj).1
     exact absurd hj (hall j hj')
   clear hall
   go_wp2_with fail
   go_ret
   exact ⟨ret_bool HF.out.symm, rfl⟩
def allTo (s cs : ByteArray) (k : Nat) : Bool := (s.data.toList.take k).all (hasB cs)
theorem allTo_zero (s cs : ByteArray) : allTo s cs 0 = true := by simp [allTo]
theorem allTo_succ (s cs : ByteArray) (k : Nat) (h : k < s.size) : allTo s cs (k + 1) = (allTo s cs k && hasB cs (s[k]'h)) := by
 have hl : k < s.data.toList.length := by simpa using h
 unfold allTo
 rw [List.take_succ_eq_append_getElem hl, List.all_append]
 simp
 rfl
theorem allTo_end (s cs : ByteArray) (k : Nat) (h : s.size ≤ k) : allTo s cs k = allB s cs := by
 unfold allTo allB
 rw [List.take_of_length_le (by simpa using h)]
theorem wordN_hasB (c : UInt8) : wordN c.toNat = hasB wordS c := by rw [hasB_word, isWord_nat]
theorem smallN_hasB (c : UInt8) : smallN c.toNat = hasB smallS c := by rw [hasB_small, isSmall_nat]
set_option maxHeartbeats 1000000 in
theorem rPlain_loop (s : ByteArray) (w : World) (hs : s.size ≤ 9223372036854775807) (h1 : s.data.toList ≠ [33]) (h2 : s.data.toList ≠ [59]) (h3 : s.data.toList ≠ [91, 93]) (h4 : s.data.toList ≠ [123, 125]) (h5 : s.data.toList ≠ []) (h6 : s.data.toList ≠ [46]) :
  Calls Tryz.prog 60 #[.string s] w fun e w' => e = .returned (.bool (plainB s)) ∧ w = w' := by
 obtain ⟨h0, hp⟩ := plain_else h1 h2 h3 h4 h5 h6
 have e1 := lit_ne h1
 have e2 := lit_ne h2
 have e3 := lit_ne h3
 have e4 := lit_ne h4
 have e5 : s.toList.isEmpty = false := by rw [ByteArray.toList_eq]; simpa using h5
 have e6 := lit_ne h6
 have e8 : UInt8.ofNat (s[0]).toNat = s[0] := by simp
 have hpr : prefB s ⟨#[47, 42]⟩ = (decide (2 ≤ s.size) && ((s.extract 0 2).toList == [47, 42])) := by
  have h := (Lib.hasPrefix_raw s ⟨#[47, 42]⟩).symm
  rw [ByteArray.toList_eq (⟨#[47, 42]⟩ : ByteArray)] at h
  exact h
 clear h1 h2 h3 h4 h5 h6
 have hcase : (2 ≤ s.size ∧ ((s.extract 0 2).toList == [47, 42]) = true) ∨ (2 ≤ s.size ∧ ((s.extract 0 2).toList == [47, 42]) = false) ∨ s.size < 2 := by
  by_cases g2 : 2 ≤ s.size
  ·cases g3 : ((s.extract 0 2).toList == [47, 42])
   ·exact .inr (.inl ⟨g2, rfl⟩)
   ·exact .inl ⟨g2, rfl⟩
  ·exact .inr (.inr (by omega))
 rcases hcase with ⟨g2, g3⟩ | hcase
 ·rw [hpr] at hp
  simp only [g2, g3, decide_true, Bool.and_self, if_true] at hp
  have HP := Lib.hid hp
  clear hp hpr
  go_enter Tryz.func60, Tryz.ntmps60
  go_wp2_with fail
  go_ret
  exact ⟨ret_bool HP.out.symm, rfl⟩
 ·have hp' : plainB s = (hasB smallS s[0] && allB s wordS || allB s signS) := by
   rw [hp, hpr, if_neg]
   rcases hcase with ⟨_, g3⟩ | g2
   ·simp [g3]
   ·simp; omega
  have HP := Lib.hid hp'
  clear hp hpr hp'
  rcases hcase with ⟨g2, g3⟩ | g2
  all_goals
   go_enter Tryz.func60, Tryz.ntmps60
   go_wp2_with (go_at_call 88; refine (rSmall_any _ _).mono ?_; rintro e w' ⟨rfl, rfl⟩)
   go_loop [3, 4, 5] (fun a b i => ∃ k : Nat, k ≤ s.size ∧ i = .int .i64 k ∧ a = .bool (smallN (s[0]).toNat && allTo s wordS k) ∧ b = .bool (allTo s signS k)) (fun _ _ i => s.size - (intOf i).toNat)
   case atStart => exact ⟨0, Nat.zero_le _, rfl, by simp [allTo_zero], by simp [allTo_zero]⟩
   case round =>
    obtain ⟨k, hk, rfl, rfl, rfl⟩ := hrel
    by_cases hlt : k < s.size
    ·have hw1 := allTo_succ s wordS k hlt
     have hw2 := allTo_succ s signS k hlt
     have hwn := wordN_hasB (s[k]'hlt)
     have Hw := Lib.hid hw1
     have Hs := Lib.hid hw2
     have Hn := Lib.hid hwn
     clear hw1 hw2 hwn
     generalize hA : (smallN (s[0]).toNat && allTo s wordS k) = A
     generalize hB : allTo s signS k = B
     have HA := Lib.hid hA
     have HB := Lib.hid hB
     clear hA hB
     cases A <;> cases B
     all_goals
      go_wp2_with (first
       | (go_at_call 89; refine (rWord_any _ _).mono ?_; rintro e w' ⟨rfl, rfl⟩)
       | (go_at_call 90; refine (rSign_any _ _).mono ?_; rintro e w' ⟨rfl, rfl⟩))
      go_round
      case rel => exact ⟨k + 1, by omega, by go_num, by rw [Hw.out, ← Bool.and_assoc, HA.out, ← Hn.out]; simp, by rw [Hs.out, HB.out]; simp⟩
      case measure => simp [intOf]; omega
    ·have hw1 := allTo_end s wordS k (by omega)
     have hw2 := allTo_end s signS k (by omega)
     have HE : Hid (plainB s = (smallN (s[0]).toNat && allTo s wordS k || allTo s signS k)) := by
      rw [hw1, hw2, smallN_hasB]; exact HP.out
     clear hw1 hw2 HP
     generalize hA : (smallN (s[0]).toNat && allTo s wordS k) = A at HE ⊢
     generalize hB : allTo s signS k = B at HE ⊢
     clear hA hB
     cases A <;> cases B
     all_goals
      go_wp2_with fail
      go_ret
      exact ⟨ret_bool HE.out.symm, rfl⟩
set_option maxHeartbeats 1000000 in
theorem rPlain_any (s : ByteArray) (w : World) (hs : s.size ≤ 9223372036854775807) :
  Calls Tryz.prog 60 #[.string s] w fun e w' => e = .returned (.bool (plainB s)) ∧ w = w' := by
 by_cases h1 : s.data.toList = [33]
 ·obtain rfl := mk_of h1
  go_enter Tryz.func60, Tryz.ntmps60
  go_wp2
  go_ret
  exact ⟨rfl, rfl⟩
 by_cases h2 : s.data.toList = [59]
 ·obtain rfl := mk_of h2
  go_enter Tryz.func60, Tryz.ntmps60
  go_wp2
  go_ret
  exact ⟨rfl, rfl⟩
 by_cases h3 : s.data.toList = [91, 93]
 ·obtain rfl := mk_of h3
  go_enter Tryz.func60, Tryz.ntmps60
  go_wp2
  go_ret
  exact ⟨rfl, rfl⟩
 by_cases h4 : s.data.toList = [123, 125]
 ·obtain rfl := mk_of h4
  go_enter Tryz.func60, Tryz.ntmps60
  go_wp2
  go_ret
  exact ⟨rfl, rfl⟩
 by_cases h5 : s.data.toList = []
 ·obtain rfl := mk_of h5
  go_enter Tryz.func60, Tryz.ntmps60
  go_wp2
  go_ret
  exact ⟨rfl, rfl⟩
 by_cases h6 : s.data.toList = [46]
 ·obtain rfl := mk_of h6
  go_enter Tryz.func60, Tryz.ntmps60
  go_wp2
  go_ret
  exact ⟨rfl, rfl⟩
 exact rPlain_loop s w hs h1 h2 h3 h4 h5 h6
end Go.Proofs.YtgcdhffeacdegaaGreatDoor

/- Layer 8, the reference: the walks of blank, skip, row, hex. -/
namespace Go.Proofs.YtgcdhffeacdegaaGreatDoor
open Go.RowKit Go.El
def u8V (c : UInt8) : Value := .int .u8 (c.toNat : Int)
def BytesAt (w : World) (A : Option Addr) (B : List UInt8) : Prop := El.Src w A B.length 1 (B.map u8V)
theorem BytesAt.ext {w w' : World} {A : Option Addr} {B : List UInt8} (h : BytesAt w A B) (x : Ext w w') : BytesAt w' A B := El.Src.ext h x
theorem bytes_at {w : World} {A : Option Addr} {B : List UInt8} (h : BytesAt w A B) {k : Nat} (hk : k < B.length) : ∃ b off, A = some ⟨b, off, none⟩ ∧ ∀ j c, B[j]? = some c → w.cell? ⟨b, off + j, none⟩ = some (.int .u8 (c.toNat : Int)) := by
 obtain ⟨b, off, rfl, hc⟩ := El.Src.form h (by omega) (by omega)
 exact ⟨b, off, rfl, fun j c hj => hc j _ (by simp [hj, u8V])⟩
theorem u8_eq {c : UInt8} {n : Nat} (hn : n < 256) : ((c.toNat : Int) == (n : Int)) = decide (c = UInt8.ofNat n) := by
 rw [Bool.eq_iff_iff, decide_eq_true_iff, beq_iff_eq]
 constructor
 ·intro h
  have : c.toNat = n := by omega
  rw [← this]; simp
 ·rintro rfl
  simp
  omega
end Go.Proofs.YtgcdhffeacdegaaGreatDoor

/- Layer 8, the reference: the walks of hex, row, number. -/
namespace Go.Proofs.YtgcdhffeacdegaaGreatDoor
open Go.RowKit Go.El
theorem isDigit_nat (c : UInt8) : isDigit c = decide (48 ≤ c.toNat ∧ c.toNat ≤ 57) := all_bytes (p := fun c => isDigit c = decide (48 ≤ c.toNat ∧ c.toNat ≤ 57)) (by decide +kernel) c
theorem isHex_nat (c : UInt8) : isHex c = decide ((48 ≤ c.toNat ∧ c.toNat ≤ 57) ∨ (97 ≤ c.toNat ∧ c.toNat ≤ 102)) := all_bytes (p := fun c => isHex c = decide ((48 ≤ c.toNat ∧ c.toNat ≤ 57) ∨ (97 ≤ c.toNat ∧ c.toNat ≤ 102))) (by decide +kernel) c
theorem ret_int {k : IntKind} {a b : Int} (h : a = b) : Ending.returned (.int k a) = .returned (.int k b) := by rw [h]
end Go.Proofs.YtgcdhffeacdegaaGreatDoor

/- Bytes: strings out of bytes, bytes that a call gathers. -/
namespace Go.Proofs.YtgcdhffeacdegaaGreatDoor
open Go.RowKit Go.El
def strB (l : List UInt8) : ByteArray := ⟨l.toArray⟩
theorem strB_size (l : List UInt8) : (strB l).size = l.length := by simp [strB, ByteArray.size]
theorem strB_toList (l : List UInt8) : (strB l).data.toList = l := by simp [strB]
theorem strB_mk (s : ByteArray) : strB s.data.toList = s := by simp [strB]
theorem conv_str {w : World} {A : Option Addr} {l : List UInt8} (c : Nat) (h : BytesAt w A l) : (convert 23 9 (.slice A l.length c)).run Tryz.prog w = .ok (.string (strB l)) w := by
 rcases A with _ | a
 ·have hl : l = [] := by
   rcases l with _ | ⟨x, l⟩
   ·rfl
   ·obtain ⟨b, off, ha, _⟩ := bytes_at (k := 0) h (by simp)
    cases ha
  subst hl
  exact run_convert_bytes_nil w 23 5 Tryz.underlying23 Tryz.underlying5 _ _ 9 Tryz.underlying9
 ·refine run_convert_bytes_back w 23 9 5 a c l Tryz.underlying23 Tryz.underlying5 Tryz.underlying9 fun j hj => ?_
  obtain ⟨b, off, ha, hc⟩ := bytes_at (k := j) h hj
  injection ha with ha
  subst ha
  have e : (⟨b, off, none⟩ : Addr).add j = ⟨b, off + j, none⟩ := by simp [Addr.add]
  rw [e]
  exact hc j _ (List.getElem?_eq_getElem hj)
theorem bytes_sub {w : World} {b off : Nat} {l : List UInt8} (h : BytesAt w (some ⟨b, off, none⟩) l) (i j : Nat) (hij : i ≤ j) (hj : j ≤ l.length) : BytesAt w (some ⟨b, off + i, none⟩) (sub l i j) := by
 have h1 := El.Src.drop (n := i) h (by omega)
 have h2 := El.Src.take (n := j - i) h1 (by omega)
 have e1 : (⟨b, off, none⟩ : Addr).add (i * 1) = ⟨b, off + i, none⟩ := by simp [Addr.add]
 have e2 : (sub l i j).length = j - i := by unfold sub; simp; omega
 unfold BytesAt
 rw [e2]
 rw [e1] at h2
 have e3 : ((l.map u8V).drop (i * 1)).take ((j - i) * 1) = (sub l i j).map u8V := by unfold sub; simp [List.map_drop, List.map_take]
 rw [e3] at h2
 exact h2
theorem sub_length {l : List UInt8} {i j : Nat} (hj : j ≤ l.length) : (sub l i j).length = j - i := by unfold sub; simp; omega
theorem ext_mods {X V w' : World} {S : List Nat} (h : Ext X V) (hm : Mods S V w') (hS : ∀ k, k ∈ S → X.heap.size ≤ k) : Ext X w' := (Mods.step (S := []) (Mods.ext h) hm (fun x hx => .inr (hS x hx))).toExt (by simp)
theorem mem_ownL {v : Value} {k : Nat} (h : k ∈ ownL v) : v.ownBlock = some k := by simpa [ownL] using h
theorem u8_one (l : List UInt8) : ∀ u ∈ l.map u8V, u.oneCell' = true := by
 intro u hu
 obtain ⟨c, _, rfl⟩ := List.mem_map.1 hu
 rfl
theorem u8Info : (Tryz.prog.info? 5).map (fun i => (i.zero, i.size, i.bytes)) = some (some (.int .u8 0), 1, 1) := by kernel_rfl
theorem infoP {P : Program} {t : TypeId} {z : Option Value} {n b : Nat} (h : (P.info? t).map (fun i => (i.zero, i.size, i.bytes)) = some (z, n, b)) : ∃ i, P.info? t = some i ∧ i.zero = z ∧ i.size = n ∧ i.bytes = b := by
 cases hi : P.info? t with
 | none => rw [hi] at h; cases h
 | some i =>
  rw [hi] at h
  injection h with h
  injection h with h1 h2
  injection h2 with h2 h3
  exact ⟨i, rfl, h1, h2, h3⟩
end Go.Proofs.YtgcdhffeacdegaaGreatDoor

/- Layer 8, the program: what package bytes answers; the scanner in memory; starts. -/
namespace Go.Proofs.YtgcdhffeacdegaaGreatDoor
open Go.RowKit Go.El
def intsB (l : List UInt8) : List Int := l.map fun c => (c.toNat : Int)
theorem intsB_len (l : List UInt8) : (intsB l).length = l.length := by simp [intsB]
theorem bytesOf_ints (l : List UInt8) : Lib.bytesOf (intsB l) = l := by
 unfold Lib.bytesOf intsB
 rw [List.map_map]
 conv => rhs; rw [← List.map_id l]
 apply List.map_congr_left
 intro c _
 simp
theorem intsB_range (l : List UInt8) : ∀ x ∈ intsB l, 0 ≤ x ∧ x < 256 := by
 intro x hx
 obtain ⟨c, _, rfl⟩ := List.mem_map.1 hx
 have := c.toNat_lt
 omega
theorem intsB_at {l : List UInt8} {i : Nat} (h : i < l.length) : (intsB l).getD i 0 = ((l[i]).toNat : Int) := by simp [intsB, List.getD, h]
theorem bytes_cells {w : World} {a : Addr} {l : List UInt8} (h : BytesAt w (some a) l) : ∀ i, i < l.length → w.cell? (a.add i) = some (.int .u8 ((intsB l).getD i 0)) := by
 intro i hi
 obtain ⟨b, off, ha, hc⟩ := bytes_at h hi
 injection ha with ha
 subst ha
 have e : (⟨b, off, none⟩ : Addr).add i = ⟨b, off + i, none⟩ := by simp [Addr.add]
 rw [e, intsB_at hi]
 exact hc i _ (List.getElem?_eq_getElem hi)
theorem bytes_in {w : World} {b off : Nat} {l : List UInt8} (h : BytesAt w (some ⟨b, off, none⟩) l) : Lib.BytesIn w (some ⟨b, off, none⟩) l.length (intsB l) := Lib.BytesIn.of_cells (bytes_cells h)
theorem hasPrefixB {w : World} {b off b2 off2 : Nat} {L M : List UInt8} (c d : Nat) (h : BytesAt w (some ⟨b, off, none⟩) L) (h2 : BytesAt w (some ⟨b2, off2, none⟩) M) (hc : L.length ≤ c) :
  Calls Tryz.prog 164 #[.slice (some ⟨b, off, none⟩) L.length c, .slice (some ⟨b2, off2, none⟩) M.length d] w fun e w' => e = .returned (.bool (M.isPrefixOf L)) ∧ w = w' := by
 have := Tryz.bytes_HasPrefix_all (some ⟨b, off, none⟩) (some ⟨b2, off2, none⟩) L.length c M.length d (intsB L) (intsB M) w (intsB_len L) (intsB_len M) hc (bytes_in h) (bytes_in h2)
 rw [bytesOf_ints, bytesOf_ints] at this
 refine this.mono ?_
 rintro e w' ⟨rfl, rfl⟩
 exact ⟨rfl, rfl⟩
theorem indexByteB {w : World} {a : Addr} {L : List UInt8} (c : Nat) (x : UInt8) (h : BytesAt w (some a) L) :
  Calls Tryz.prog 128 #[.slice (some a) L.length c, .int .u8 (x.toNat : Int)] w fun e w' => e = .returned (.int .i64 (Lib.indexByte L x)) ∧ w = w' := by
 have := Tryz.bytes_IndexByte_at a L.length c (intsB L) (x.toNat : Int) w (intsB_len L) (bytes_cells h)
 rw [bytesOf_ints] at this
 refine this.mono ?_
 rintro e w' ⟨rfl, rfl⟩
 exact ⟨by simp, rfl⟩
theorem indexB {w : World} {a a2 : Addr} {L M : List UInt8} (c d : Nat) (m : Int) (h : BytesAt w (some a) L) (h2 : BytesAt w (some a2) M) (hc : L.length ≤ c) (hL : L.length ≤ 70000) (hM : M.length ≤ 70000) (hm : w.cell? ⟨1, 0, none⟩ = some (.int .i64 m)) :
  Calls Tryz.prog 165 #[.slice (some a) L.length c, .slice (some a2) M.length d] w fun e w' => e = .returned (.int .i64 (Lib.index L M)) ∧ ∃ n, w' = w.drewN n := by
 have := Tryz.bytes_Index_at a a2 L.length c M.length d (intsB L) (intsB M) m w (intsB_len L) (intsB_len M) (intsB_range L) (intsB_range M) (bytes_cells h) (bytes_cells h2) hc (by omega) (by omega) hm
 rw [bytesOf_ints, bytesOf_ints] at this
 exact this
structure Glob (w : World) : Prop where
 max : ∃ m, w.cell? ⟨1, 0, none⟩ = some (.int .i64 m)
 err : ∃ te pe, w.cell? ⟨4, 0, none⟩ = some (.iface te pe)
theorem Glob.ext {w w' : World} (h : Glob w) (x : Ext w w') : Glob w' := by
 obtain ⟨⟨m, hm⟩, te, pe, he⟩ := h
 exact ⟨⟨m, x.cell hm⟩, te, pe, x.cell he⟩
theorem Glob.mods {w w' : World} {S : List Nat} (h : Glob w) (x : Mods S w w') (h1 : 1 ∉ S) (h2 : 4 ∉ S) : Glob w' := by
 obtain ⟨⟨m, hm⟩, te, pe, he⟩ := h
 exact ⟨⟨m, x.cell hm h1⟩, te, pe, x.cell he h2⟩
structure ScAt (w : World) (sb b off cap : Nat) (B : List UInt8) (i : Nat) : Prop where
 blk : Blk w sb 141 #[.slice (some ⟨b, off, none⟩) B.length cap, .int .i64 (i : Int)]
 src : BytesAt w (some ⟨b, off, none⟩) B
 ne : b ≠ sb
 len : B.length ≤ 65536
 cap : B.length ≤ cap
 at_ : i ≤ B.length
 glob : Glob w
 n1 : 1 ≠ sb
 n2 : 4 ≠ sb
theorem ScAt.ext {w w' : World} {sb b off cap : Nat} {B : List UInt8} {i : Nat} (h : ScAt w sb b off cap B i) (x : Ext w w') : ScAt w' sb b off cap B i := ⟨h.blk.ext x, h.src.ext x, h.ne, h.len, h.cap, h.at_, h.glob.ext x, h.n1, h.n2⟩
theorem ScAt.move {w : World} {sb b off cap : Nat} {B : List UInt8} {i : Nat} (h : ScAt w sb b off cap B i) {j : Nat} (hj : j ≤ B.length) : ScAt (w.setCell ⟨sb, 1, none⟩ (.int .i64 (j : Int))) sb b off cap B j := by
 refine ⟨h.blk.set_ 1 _, ?_, h.ne, h.len, h.cap, hj, h.glob.mods (S := [sb]) ((Mods.refl [sb] w).setCell (.inl (by simp)) _) (by simpa using h.n1) (by simpa using h.n2), h.n1, h.n2⟩
 exact El.Src.mods h.src ((Mods.refl [sb] w).setCell (.inl (by simp)) _) (fun a ha => by injection ha with ha; subst ha; simpa using h.ne)
theorem ScAt.c0 {w : World} {sb b off cap : Nat} {B : List UInt8} {i : Nat} (h : ScAt w sb b off cap B i) : w.cell? ⟨sb, 0, none⟩ = some (.slice (some ⟨b, off, none⟩) B.length cap) := h.blk.cell 0
theorem ScAt.c1 {w : World} {sb b off cap : Nat} {B : List UInt8} {i : Nat} (h : ScAt w sb b off cap B i) : w.cell? ⟨sb, 1, none⟩ = some (.int .i64 (i : Int)) := h.blk.cell 1
theorem bytes_drop {w : World} {b off : Nat} {l : List UInt8} (h : BytesAt w (some ⟨b, off, none⟩) l) (i : Nat) (hi : i ≤ l.length) : BytesAt w (some ⟨b, off + i, none⟩) (l.drop i) := by
 have h1 := El.Src.drop (n := i) h hi
 have e1 : (⟨b, off, none⟩ : Addr).add (i * 1) = ⟨b, off + i, none⟩ := by simp [Addr.add]
 unfold BytesAt
 rw [e1] at h1
 rw [List.length_drop, List.map_drop]
 simpa using h1
end Go.Proofs.YtgcdhffeacdegaaGreatDoor

/- Layer 8, the program: the walks of starts, row. -/
namespace Go.Proofs.YtgcdhffeacdegaaGreatDoor
open Go.RowKit Go.El
theorem ext_bytes (w : World) (e : TypeId) (s : ByteArray) : Ext w (Lib.bytesWorld w e s) := by
 refine ⟨rfl, rfl, rfl, by rw [Lib.bytesWorld_size]; omega, fun k hk => Lib.bytesWorld_at_old w e s k hk⟩
theorem bytes_new (w : World) (s : ByteArray) : BytesAt (Lib.bytesWorld w 5 s) (some ⟨w.heap.size, 0, none⟩) s.data.toList := by
 refine ⟨by simp, fun _ => ⟨_, rfl, fun j u hj => ?_⟩⟩
 have hjl : j < s.size := by
  have := (List.getElem?_eq_some_iff.1 hj).1
  simpa using this
 have e : (⟨w.heap.size, 0, none⟩ : Addr).add j = ⟨w.heap.size, j, none⟩ := by simp [Addr.add]; omega
 rw [e, Lib.bytesWorld_cell w _ s j hjl]
 have hj2 : j < s.data.toList.length := by simpa using hjl
 rw [List.getElem?_map, List.getElem?_eq_getElem hj2] at hj
 injection hj with hj
 rw [← hj]
 simp only [List.getD, List.getElem?_eq_getElem hj2, Option.getD_some, u8V]
set_option maxRecDepth 100000 in
set_option maxHeartbeats 4000000 in
theorem starts_any (sb b off cap : Nat) (B : List UInt8) (i : Nat) (s : ByteArray) (w : World) (h : ScAt w sb b off cap B i) :
  Calls Tryz.prog 129 #[.pointer (some ⟨sb, 0, none⟩), .string s] w fun e w' => e = .returned (.bool (s.data.toList.isPrefixOf (B.drop i))) ∧ Ext w w' := by
 have c0 := h.c0
 have c1 := h.c1
 have hat := h.at_
 have hcp := h.cap
 have hcv := fun W : World => Lib.run_convert_string_bytes (P := Tryz.prog) W 9 23 5 s Tryz.underlying9 Tryz.underlying23 Tryz.underlying5
 have H := Lib.hid h
 clear h
 have hxw : Ext w (Lib.bytesWorld w.drew 5 s) := ((Ext.refl w).drew).trans (ext_bytes _ _ _)
 have hb2 := bytes_new w.drew s
 have c0b := hxw.cell c0
 have c1b := hxw.cell c1
 by_cases hci : cap = i
 ·have hib : i = B.length := by omega
  have hp := hasPrefixB (L := []) 0 (grownCap w.drew s.size 0 5) (El.Src.none (Lib.bytesWorld w.drew 5 s) (some ⟨b, off, none⟩) 1) hb2 (Nat.le_refl _)
  have hdr : B.drop i = [] := by rw [hib]; simp
  rw [hdr]
  subst hci
  subst hib
  have hz : s.data.toList.length = s.size := by simp
  rw [hz] at hp
  have HP := Lib.hid hp
  clear hp hb2 hz hdr
  go_enter Tryz.func129, Tryz.ntmps129
  go_upto_region 1 with fail
  go_region_with (go_at_call 164; refine HP.out.mono ?_; rintro e w' ⟨rfl, rfl⟩)
  all_goals
   go_wp2_with fail
   go_ret
   exact ⟨rfl, hxw⟩
 ·have hp := hasPrefixB (L := B.drop i) (cap - i) (grownCap w.drew s.size 0 5) (bytes_drop (H.out.src.ext hxw) i hat) hb2 (by rw [List.length_drop]; omega)
  have hz : s.data.toList.length = s.size := by simp
  rw [hz, List.length_drop] at hp
  have HP := Lib.hid hp
  clear hp hb2 hz
  go_enter Tryz.func129, Tryz.ntmps129
  go_upto_region 1 with fail
  go_region_with (go_at_call 164; refine HP.out.mono ?_; rintro e w' ⟨rfl, rfl⟩)
  all_goals
   go_wp2_with fail
   go_ret
   exact ⟨rfl, hxw⟩
end Go.Proofs.YtgcdhffeacdegaaGreatDoor

/- Layer 8, the reference: the walks of number, escape. -/
namespace Go.Proofs.YtgcdhffeacdegaaGreatDoor
open Go.RowKit Go.El
theorem numV_ge (n : Nat) : ∀ l : List UInt8, n ≤ l.foldl (fun n c => 10 * n + (c.toNat - 48)) n
 | [] => Nat.le_refl _
 | c :: l => by
  have := numV_ge (10 * n + (c.toNat - 48)) l
  simp only [List.foldl_cons]
  omega
end Go.Proofs.YtgcdhffeacdegaaGreatDoor

/- Layer 8, the reference: the walk of escape. -/
namespace Go.Proofs.YtgcdhffeacdegaaGreatDoor
open Go.RowKit Go.El
theorem hexV_lt (c : UInt8) (h : isHex c = true) : hexV c < 16 := by
 have := all_bytes (p := fun c => (!isHex c || decide (hexV c < 16)) = true) (by decide +kernel) c
 simpa [h] using this
theorem nat8 {n : Nat} (h : n < 256) : ((UInt8.ofNat n).toNat : Int) = (n : Int) := by
 rw [UInt8.toNat_ofNat']
 omega
theorem u8_ne {c : UInt8} {n : Nat} (hn : n < 256) (h : c ≠ UInt8.ofNat n) : ((c.toNat : Int) == (n : Int)) = false := by
 rw [u8_eq hn]
 simpa using h
end Go.Proofs.YtgcdhffeacdegaaGreatDoor

/- Layer 8, the reference: the walks of escape (whole), quoted. -/
namespace Go.Proofs.YtgcdhffeacdegaaGreatDoor
open Go.RowKit Go.El
theorem escS_end {B : List UInt8} {i : Nat} (h : B[i]? = none) : escS B i = none := by unfold escS; rw [h]
theorem escS_self {B : List UInt8} {i : Nat} {c : UInt8} (h : B[i]? = some c) (hc : c = 92 ∨ c = 39) : escS B i = some (c, i + 1) := by unfold escS; rw [h]; simp only; rw [if_pos hc]
theorem escS_n {B : List UInt8} {i : Nat} (h : B[i]? = some 110) : escS B i = some (10, i + 1) := by unfold escS; rw [h]; simp
theorem escS_t {B : List UInt8} {i : Nat} (h : B[i]? = some 116) : escS B i = some (9, i + 1) := by unfold escS; rw [h]; simp
theorem escS_no {B : List UInt8} {i : Nat} {c : UInt8} (h : B[i]? = some c) (h1 : c ≠ 92) (h2 : c ≠ 39) (h3 : c ≠ 110) (h4 : c ≠ 116) (h5 : c ≠ 120) : escS B i = none := by
 unfold escS; rw [h]; simp [h1, h2, h3, h4, h5]
theorem u8_ne' {c : UInt8} {n : Nat} {z : Int} (hz : (n : Int) = z) (hn : n < 256) (h : c ≠ UInt8.ofNat n) : ((c.toNat : Int) == z) = false := by rw [← hz]; exact u8_ne hn h
end Go.Proofs.YtgcdhffeacdegaaGreatDoor
