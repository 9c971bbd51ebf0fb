/- Layer 8 (token): which names may stand as they are, as a plain function on bytes. No program in sight. -/
import Derived.Lib.IndexAny
import Derived.Lib.Strings
import Derived.Test.YtkenjhchfidpbaaGreatDoorRows
import Derived.WalkKit
import Derived.WalkSpells
import Derived.WalkLawsBesides
import Derived.Deep.QuietTactic
import Derived.BigQuiet
import Derived.Lib.Hide
import Derived.Lib.Bytealg
import Derived.Lib.OthersKept
namespace Go.El

def isSmall (c : UInt8) : Bool := 97 ≤ c && c ≤ 122
def isWord (c : UInt8) : Bool := isSmall c || (65 ≤ c && c ≤ 90) || (48 ≤ c && c ≤ 57) || c == 95
def signL : List UInt8 := [43, 45, 42, 47, 92, 94, 60, 62, 61, 126, 58, 46, 63, 64, 35, 38, 36]
def smallL : List UInt8 := [97, 98, 99, 100, 101, 102, 103, 104, 105, 106, 107, 108, 109, 110, 111, 112, 113, 114, 115, 116, 117, 118, 119, 120, 121, 122]
def wordL : List UInt8 := [97, 98, 99, 100, 101, 102, 103, 104, 105, 106, 107, 108, 109, 110, 111, 112, 113, 114, 115, 116, 117, 118, 119, 120, 121, 122, 65, 66, 67, 68, 69, 70, 71, 72, 73, 74, 75, 76, 77, 78, 79, 80, 81, 82, 83, 84, 85, 86, 87, 88, 89, 90, 48, 49, 50, 51, 52, 53, 54, 55, 56, 57, 95]
def isSign (c : UInt8) : Bool := signL.contains c

theorem all_bytes {p : UInt8 → Prop} [DecidablePred p] (h : ∀ n : Fin 256, p (UInt8.ofNat n.val)) (c : UInt8) : p c := by
  have := h ⟨c.toNat, c.toNat_lt⟩
  simpa using this

theorem smallL_eq (c : UInt8) : smallL.contains c = isSmall c :=
  all_bytes (p := fun c => smallL.contains c = isSmall c) (by decide +kernel) c
theorem wordL_eq (c : UInt8) : wordL.contains c = isWord c :=
  all_bytes (p := fun c => wordL.contains c = isWord c) (by decide +kernel) c
theorem wordL_lt (c : UInt8) : wordL.contains c = true → c.toNat < 128 :=
  all_bytes (p := fun c => wordL.contains c = true → c.toNat < 128) (by decide +kernel) c
theorem signL_lt (c : UInt8) : signL.contains c = true → c.toNat < 128 :=
  all_bytes (p := fun c => signL.contains c = true → c.toNat < 128) (by decide +kernel) c

def hasB (s : ByteArray) (c : UInt8) : Bool := s.data.toList.contains c
def allB (nm cs : ByteArray) : Bool := nm.data.toList.all (hasB cs)

/-- May a name stand as it is? -/
def plainL (l : List UInt8) : Bool :=
  if l = [33] ∨ l = [59] ∨ l = [91, 93] ∨ l = [123, 125] then true
  else if l = [] ∨ l = [46] then false
  else if [47, 42].isPrefixOf l then false
  else (isSmall (l.headD 0) && l.all isWord) || l.all isSign

def plainB (s : ByteArray) : Bool := plainL s.data.toList

def smallN (n : Nat) : Bool := decide (97 ≤ n ∧ n ≤ 122)
def wordN (n : Nat) : Bool := decide ((97 ≤ n ∧ n ≤ 122) ∨ (65 ≤ n ∧ n ≤ 90) ∨ (48 ≤ n ∧ n ≤ 57) ∨ n = 95)
theorem isSmall_nat (c : UInt8) : isSmall c = smallN c.toNat := all_bytes (p := fun c => isSmall c = smallN c.toNat) (by decide +kernel) c
theorem isWord_nat (c : UInt8) : isWord c = wordN c.toNat := all_bytes (p := fun c => isWord c = wordN c.toNat) (by decide +kernel) c

/-- The three rows of bytes, as strings. -/
abbrev smallS : ByteArray := ⟨#[97, 98, 99, 100, 101, 102, 103, 104, 105, 106, 107, 108, 109, 110, 111, 112, 113, 114, 115, 116, 117, 118, 119, 120, 121, 122]⟩
abbrev wordS : ByteArray := ⟨#[97, 98, 99, 100, 101, 102, 103, 104, 105, 106, 107, 108, 109, 110, 111, 112, 113, 114, 115, 116, 117, 118, 119, 120, 121, 122, 65, 66, 67, 68, 69, 70, 71, 72, 73, 74, 75, 76, 77, 78, 79, 80, 81, 82, 83, 84, 85, 86, 87, 88, 89, 90, 48, 49, 50, 51, 52, 53, 54, 55, 56, 57, 95]⟩
abbrev signS : ByteArray := ⟨#[43, 45, 42, 47, 92, 94, 60, 62, 61, 126, 58, 46, 63, 64, 35, 38, 36]⟩

theorem hasB_small (c : UInt8) : hasB smallS c = isSmall c := smallL_eq c
theorem hasB_word (c : UInt8) : hasB wordS c = isWord c := wordL_eq c
theorem hasB_sign (c : UInt8) : hasB signS c = isSign c := rfl
theorem wordS_lt (c : UInt8) (h : hasB wordS c = true) : c.toNat < 128 := wordL_lt c h
theorem signS_lt (c : UInt8) (h : hasB signS c = true) : c.toNat < 128 := signL_lt c h

theorem lit_ne {s : ByteArray} {l : List UInt8} (h : s.data.toList ≠ l) : (s.toList == l) = false := by
  rw [ByteArray.toList_eq]; simpa using h
theorem mk_of {s : ByteArray} {l : List UInt8} (h : s.data.toList = l) : s = ⟨l.toArray⟩ := by
  subst h; exact (Lib.mk_data s).symm

def prefB (s p : ByteArray) : Bool := Lib.hasPrefix s.data.toList p.data.toList

theorem headD_eq (l : List UInt8) (h : 0 < l.length) : l.headD 0 = l[0] := by cases l <;> simp at h ⊢

theorem plain_else {s : ByteArray} (h1 : s.data.toList ≠ [33]) (h2 : s.data.toList ≠ [59]) (h3 : s.data.toList ≠ [91, 93]) (h4 : s.data.toList ≠ [123, 125]) (h5 : s.data.toList ≠ []) (h6 : s.data.toList ≠ [46]) :
    ∃ h : 0 < s.size, plainB s = if prefB s ⟨#[47, 42]⟩ then false else hasB smallS s[0] && allB s wordS || allB s signS := by
  have h0 : 0 < s.size := by
    rw [Lib.size_eq]
    rcases hl : s.data.toList with _ | ⟨a, l⟩
    · exact absurd hl h5
    · simp
  refine ⟨h0, ?_⟩
  have hh : s.data.toList.headD 0 = s[0] := by
    have e : s[0] = s.data.toList[0]'(by rw [← Lib.size_eq]; exact h0) := rfl
    rw [e]
    exact headD_eq _ _
  have ew : s.data.toList.all isWord = allB s wordS := by unfold allB; congr 1; funext c; exact (hasB_word c).symm
  have es : s.data.toList.all isSign = allB s signS := by unfold allB; congr 1
  unfold plainB plainL
  rw [if_neg (by simp [h1, h2, h3, h4]), if_neg (by simp [h5, h6]), hh, ew, es, hasB_small]
  rfl

end Go.El

/- Layer 8 (token), the walks of Plain and what it calls. -/
namespace Go.Proofs.YtkenjhchfidpbaaGreatDoor
open Go.RowKit Go.El

set_option maxRecDepth 100000 in
set_option maxHeartbeats 400000 in
theorem indexByteLite_any (s : ByteArray) (c : Int) (w : World) :
    Calls Tryz.prog 441 #[.string s, .int .u8 c] w fun e w' => e = .returned (.int .i64 (Lib.indexByte s.data.toList c.toNat.toUInt8)) ∧ w = w' := by
  go_enter Tryz.func441, Tryz.ntmps441
  go_wp2
  rw [run_callFunc_extern Tryz.func466 (by kernel_rfl) (by kernel_rfl) (by kernel_rfl) (e := Extern.BytealgIndexByte.indexByte) (by kernel_rfl), Lib.run_indexByteString]
  simp only [Result.andThen]
  rw [Oper.upon_value]
  go_wp2
  go_ret
  exact ⟨rfl, rfl⟩

set_option maxHeartbeats 400000 in
theorem in_any (c : Int) (s : ByteArray) (w : World) :
    Calls Tryz.prog 373 #[.int .u8 c, .string s] w fun e w' => e = .returned (.bool (hasB s (UInt8.ofNat c.toNat))) ∧ w = w' := by
  have h1 := Lib.indexByte_ge s.data.toList c.toNat.toUInt8
  have h2 : Lib.indexByte s.data.toList c.toNat.toUInt8 ≤ s.data.toList.length := by
    generalize s.data.toList = l
    induction l with
    | nil => simp [Lib.indexByte]
    | cons b l ih =>
      simp only [Lib.indexByte, List.length_cons]
      split
      · omega
      · split <;> omega
  have h3 := Lib.contains_iff_indexByte s.data.toList c.toNat.toUInt8
  simp only [Nat.toUInt8_eq] at h1 h2 h3
  have H3 := Lib.hid h3
  clear h3
  go_enter Tryz.func373, Tryz.ntmps373
  go_wp2_with (first
    | (go_at_call 441; refine (indexByteLite_any _ _ _).mono ?_; rintro e w' ⟨rfl, rfl⟩)
    | go_in)
  go_ret
  exact ⟨by unfold hasB; rw [H3.out]; rfl, rfl⟩

/-- What is known of a name up to a place: all bytes ahead of it are among some (so they are ASCII). -/
def AllTo (nm cs : ByteArray) (pos : Nat) : Prop := ∀ b ∈ nm.data.toList.take pos, hasB cs b = true

theorem AllTo.step {nm cs : ByteArray} {pos : Nat} (h : AllTo nm cs pos) (hp : pos < nm.size) (hb : hasB cs (nm[pos]'hp) = true) : AllTo nm cs (pos + 1) := by
  intro b hm
  have hl : pos < nm.data.toList.length := by simpa using hp
  rw [List.take_succ_eq_append_getElem hl, List.mem_append] at hm
  rcases hm with hm | hm
  · exact h b hm
  · rw [List.mem_singleton] at hm
    subst hm
    exact hb

theorem AllTo.no {nm cs : ByteArray} {pos : Nat} (hp : pos < nm.size) (hb : hasB cs (nm[pos]'hp) = false) : (allB nm cs) = false := by
  have hl : pos < nm.data.toList.length := by simpa using hp
  unfold allB
  rw [List.all_eq_false]
  have e : nm.data.toList[pos] = nm[pos]'hp := rfl
  exact ⟨nm.data.toList[pos], List.getElem_mem hl, by rw [e, hb]; simp⟩

theorem AllTo.yes {nm cs : ByteArray} {pos : Nat} (h : AllTo nm cs pos) (hp : ¬ pos < nm.size) : (allB nm cs) = true := by
  unfold allB
  rw [List.all_eq_true]
  intro b hb
  refine h b ?_
  rw [List.take_of_length_le (by simpa using Nat.le_of_not_lt hp)]
  exact hb

theorem toUInt8_nat (c : UInt8) : ((c.toNat : Int)).toNat.toUInt8 = c := by simp

theorem below_iter (w : World) (s : ByteArray) (pos : Nat) : Below w.heap.size w (w.iter s pos) := (Below.refl _ _).alloc (Nat.le_refl _) _

set_option maxHeartbeats 400000 in
theorem all_any (nm cs : ByteArray) (w : World) (hcs : ∀ c, hasB cs c = true → c.toNat < 128) :
    Calls Tryz.prog 374 #[.string nm, .string cs] w fun e w' => e = .returned (.bool (allB nm cs)) ∧ Below w.heap.size w w' := by
  go_enter Tryz.func374, Tryz.ntmps374
  go_wp2_with fail
  go_loopw [6] (fun _ wr => ∃ pos : Nat, wr = w.iter nm pos ∧ AllTo nm cs pos) (fun _ wr => nm.size - wr.iterPos w.heap.size)
  case atStart => exact ⟨0, rfl, by intro b hb; simp at hb⟩
  case round =>
    obtain ⟨pos, rfl, hall⟩ := hrel
    by_cases hlt : pos < nm.size
    · by_cases hhi : (nm[pos]'hlt).toNat < 128
      · have hn := fun ty => run_next_ascii (P := Tryz.prog) w nm pos ty hlt hhi
        by_cases hb : hasB cs (nm[pos]'hlt) = true
        · go_wp2_with (go_at_call 373; refine (in_any _ _ _).mono ?_; rintro e w' ⟨rfl, rfl⟩)
          go_roundw
          case rel => exact ⟨pos + 1, rfl, hall.step hlt hb⟩
          case measure => simp; omega
        · have hb' : hasB cs (nm[pos]'hlt) = false := by simpa using hb
          have HF := Lib.hid (AllTo.no hlt hb')
          go_wp2_with (go_at_call 373; refine (in_any _ _ _).mono ?_; rintro e w' ⟨rfl, rfl⟩)
          go_ret
          exact ⟨by rw [HF.out]; rfl, below_iter _ _ _⟩
      · have hn := fun ty => run_next_any (P := Tryz.prog) w nm pos ty hlt
        have hd := (decode_high nm pos hlt (by omega)).1
        have hb' : hasB cs (nm[pos]'hlt) = false := by
          cases h : hasB cs (nm[pos]'hlt) with
          | false => rfl
          | true => exact absurd (hcs _ h) hhi
        have HF := Lib.hid (AllTo.no hlt hb')
        clear hb' hcs
        go_wp2_with (go_at_call 373; refine (in_any _ _ _).mono ?_; rintro e w' ⟨rfl, rfl⟩)
        go_ret
        exact ⟨by rw [HF.out]; rfl, below_iter _ _ _⟩
    · have hn := fun ty => run_next_end (P := Tryz.prog) w nm pos ty hlt
      have HF := Lib.hid (hall.yes hlt)
      go_wp2_with fail
      go_ret
      exact ⟨by rw [HF.out]; rfl, below_iter _ _ _⟩

set_option maxHeartbeats 400000 in
theorem hasPrefixLite_any (s p : ByteArray) (w : World) :
    Calls Tryz.prog 402 #[.string s, .string p] w fun e w' => e = .returned (.bool (prefB s p)) ∧ w = w' := by
  unfold prefB
  rw [← Lib.hasPrefix_of_take, ← Lib.size_eq, ← Lib.size_eq]
  go_enter Tryz.func402, Tryz.ntmps402
  go_wp2
  · rename_i h
    go_ret
    refine ⟨?_, rfl⟩
    show Ending.returned (Value.bool ((s.extract 0 p.size).toList == p.toList)) = _
    rw [Lib.extract_toList, Lib.toList_data]
    simp [h]
  · rename_i h
    go_ret
    refine ⟨?_, rfl⟩
    show Ending.returned (Value.bool false) = _
    simp [h]

set_option maxHeartbeats 400000 in
theorem hasPrefix_any (s p : ByteArray) (w : World) :
    Calls Tryz.prog 372 #[.string s, .string p] w fun e w' => e = .returned (.bool (prefB s p)) ∧ w = w' := by
  go_enter Tryz.func372, Tryz.ntmps372
  go_wp2_with (go_at_call 402; refine (hasPrefixLite_any _ _ _).mono ?_; rintro e w' ⟨rfl, rfl⟩)
  go_ret
  exact ⟨rfl, rfl⟩

theorem ext_trans {a b c : World} (h : Below a.heap.size a b) (k : Below b.heap.size b c) : Below a.heap.size a c := h.trans (k.mono h.size)

theorem below_refl (w : World) : Below w.heap.size w w := Below.refl _ _

set_option maxHeartbeats 400000 in
theorem plain_any (s : ByteArray) (w : World) :
    Calls Tryz.prog 341 #[.string s] w fun e w' => e = .returned (.bool (plainB s)) ∧ Below w.heap.size w w' := by
  by_cases h1 : s.data.toList = [33]
  · obtain rfl := mk_of h1
    go_enter Tryz.func341, Tryz.ntmps341
    go_wp2
    go_ret
    exact ⟨rfl, below_refl _⟩
  by_cases h2 : s.data.toList = [59]
  · obtain rfl := mk_of h2
    go_enter Tryz.func341, Tryz.ntmps341
    go_wp2
    go_ret
    exact ⟨rfl, below_refl _⟩
  by_cases h3 : s.data.toList = [91, 93]
  · obtain rfl := mk_of h3
    go_enter Tryz.func341, Tryz.ntmps341
    go_wp2
    go_ret
    exact ⟨rfl, below_refl _⟩
  by_cases h4 : s.data.toList = [123, 125]
  · obtain rfl := mk_of h4
    go_enter Tryz.func341, Tryz.ntmps341
    go_wp2
    go_ret
    exact ⟨rfl, below_refl _⟩
  by_cases h5 : s.data.toList = []
  · obtain rfl := mk_of h5
    go_enter Tryz.func341, Tryz.ntmps341
    go_wp2
    go_ret
    exact ⟨rfl, below_refl _⟩
  by_cases h6 : s.data.toList = [46]
  · obtain rfl := mk_of h6
    go_enter Tryz.func341, Tryz.ntmps341
    go_wp2
    go_ret
    exact ⟨rfl, below_refl _⟩
  obtain ⟨h0, hp⟩ := plain_else h1 h2 h3 h4 h5 h6
  have e1 := lit_ne h1
  have e2 := lit_ne h2
  have e3 := lit_ne h3
  have e4 := lit_ne h4
  have e5 : s.toList.isEmpty = false := by rw [ByteArray.toList_eq]; simpa using h5
  have e6 := lit_ne h6
  have e8 : UInt8.ofNat (s[0]).toNat = s[0] := by simp
  clear h1 h2 h3 h4 h5 h6
  cases hpre : prefB s ⟨#[47, 42]⟩
  · rw [hpre] at hp
    cases hsm : hasB smallS s[0] <;> cases hw : allB s wordS <;> cases hg : allB s signS
    all_goals
      rw [hsm, hw, hg] at hp
      have HP := Lib.hid hp
      clear hp
      go_enter Tryz.func341, Tryz.ntmps341
      go_wp2_with (first
        | (go_at_call 373; refine (in_any _ _ _).mono ?_; rintro e w' ⟨rfl, rfl⟩)
        | (go_at_call 372; refine (hasPrefix_any _ _ _).mono ?_; rintro e w' ⟨rfl, rfl⟩)
        | (go_at_call 374; refine (all_any _ _ _ ?_).mono ?_; (first | exact wordS_lt | exact signS_lt); rintro e w' ⟨rfl, hb⟩))
      go_ret
      exact ⟨by rw [HP.out]; rfl, by first | assumption | exact ext_trans ‹Below w.heap.size w _› ‹_›⟩
  · rw [hpre] at hp
    have HP := Lib.hid hp
    clear hp
    go_enter Tryz.func341, Tryz.ntmps341
    go_wp2_with (go_at_call 372; refine (hasPrefix_any _ _ _).mono ?_; rintro e w' ⟨rfl, rfl⟩)
    go_ret
    exact ⟨by rw [HP.out]; rfl, below_refl _⟩

end Go.Proofs.YtkenjhchfidpbaaGreatDoor
