/- Layer 8 (token): which names may stand as they are, as a plain function on bytes. No program in sight. -/
import Derived.Lib.IndexAny
import Derived.Lib.Strings
namespace Go.El

def isSmall (c : UInt8) : Bool := 97 ≤ c && c ≤ 122
def isWord (c : UInt8) : Bool := isSmall c || (65 ≤ c && c ≤ 90) || (48 ≤ c && c ≤ 57) || c == 95
def signL : List UInt8 := [43, 45, 42, 47, 92, 94, 60, 62, 61, 126, 58, 46, 63, 64, 35, 38, 36]
def smallL : List UInt8 := [97, 98, 99, 100, 101, 102, 103, 104, 105, 106, 107, 108, 109, 110, 111, 112, 113, 114, 115, 116, 117, 118, 119, 120, 121, 122]
def wordL : List UInt8 := [97, 98, 99, 100, 101, 102, 103, 104, 105, 106, 107, 108, 109, 110, 111, 112, 113, 114, 115, 116, 117, 118, 119, 120, 121, 122, 65, 66, 67, 68, 69, 70, 71, 72, 73, 74, 75, 76, 77, 78, 79, 80, 81, 82, 83, 84, 85, 86, 87, 88, 89, 90, 48, 49, 50, 51, 52, 53, 54, 55, 56, 57, 95]
def isSign (c : UInt8) : Bool := signL.contains c

theorem all_bytes {p : UInt8 → Prop} [DecidablePred p] (h : ∀ n : Fin 256, p (UInt8.ofNat n.val)) (c : UInt8) : p c := by
  have := h ⟨c.toNat, c.toNat_lt⟩
  simpa using this

theorem smallL_eq (c : UInt8) : smallL.contains c = isSmall c :=
  all_bytes (p := fun c => smallL.contains c = isSmall c) (by decide +kernel) c
theorem wordL_eq (c : UInt8) : wordL.contains c = isWord c :=
  all_bytes (p := fun c => wordL.contains c = isWord c) (by decide +kernel) c
theorem wordL_lt (c : UInt8) : wordL.contains c = true → c.toNat < 128 :=
  all_bytes (p := fun c => wordL.contains c = true → c.toNat < 128) (by decide +kernel) c
theorem signL_lt (c : UInt8) : signL.contains c = true → c.toNat < 128 :=
  all_bytes (p := fun c => signL.contains c = true → c.toNat < 128) (by decide +kernel) c

def hasB (s : ByteArray) (c : UInt8) : Bool := s.data.toList.contains c
def allB (nm cs : ByteArray) : Bool := nm.data.toList.all (hasB cs)

/-- May a name stand as it is? -/
def plainL (l : List UInt8) : Bool :=
  if l = [33] ∨ l = [59] ∨ l = [91, 93] ∨ l = [123, 125] then true
  else if l = [] ∨ l = [46] then false
  else if [47, 42].isPrefixOf l then false
  else (isSmall (l.headD 0) && l.all isWord) || l.all isSign

def plainB (s : ByteArray) : Bool := plainL s.data.toList

def smallN (n : Nat) : Bool := decide (97 ≤ n ∧ n ≤ 122)
def wordN (n : Nat) : Bool := decide ((97 ≤ n ∧ n ≤ 122) ∨ (65 ≤ n ∧ n ≤ 90) ∨ (48 ≤ n ∧ n ≤ 57) ∨ n = 95)
theorem isSmall_nat (c : UInt8) : isSmall c = smallN c.toNat := all_bytes (p := fun c => isSmall c = smallN c.toNat) (by decide +kernel) c
theorem isWord_nat (c : UInt8) : isWord c = wordN c.toNat := all_bytes (p := fun c => isWord c = wordN c.toNat) (by decide +kernel) c

/-- The three rows of bytes, as strings. -/
abbrev smallS : ByteArray := ⟨#[97, 98, 99, 100, 101, 102, 103, 104, 105, 106, 107, 108, 109, 110, 111, 112, 113, 114, 115, 116, 117, 118, 119, 120, 121, 122]⟩
abbrev wordS : ByteArray := ⟨#[97, 98, 99, 100, 101, 102, 103, 104, 105, 106, 107, 108, 109, 110, 111, 112, 113, 114, 115, 116, 117, 118, 119, 120, 121, 122, 65, 66, 67, 68, 69, 70, 71, 72, 73, 74, 75, 76, 77, 78, 79, 80, 81, 82, 83, 84, 85, 86, 87, 88, 89, 90, 48, 49, 50, 51, 52, 53, 54, 55, 56, 57, 95]⟩
abbrev signS : ByteArray := ⟨#[43, 45, 42, 47, 92, 94, 60, 62, 61, 126, 58, 46, 63, 64, 35, 38, 36]⟩

theorem hasB_small (c : UInt8) : hasB smallS c = isSmall c := smallL_eq c
theorem hasB_word (c : UInt8) : hasB wordS c = isWord c := wordL_eq c
theorem hasB_sign (c : UInt8) : hasB signS c = isSign c := rfl
theorem wordS_lt (c : UInt8) (h : hasB wordS c = true) : c.toNat < 128 := wordL_lt c h
theorem signS_lt (c : UInt8) (h : hasB signS c = true) : c.toNat < 128 := signL_lt c h

theorem lit_ne {s : ByteArray} {l : List UInt8} (h : s.data.toList ≠ l) : (s.toList == l) = false := by
  rw [ByteArray.toList_eq]; simpa using h
theorem mk_of {s : ByteArray} {l : List UInt8} (h : s.data.toList = l) : s = ⟨l.toArray⟩ := by
  subst h; exact (Lib.mk_data s).symm

def prefB (s p : ByteArray) : Bool := Lib.hasPrefix s.data.toList p.data.toList

theorem headD_eq (l : List UInt8) (h : 0 < l.length) : l.headD 0 = l[0] := by cases l <;> simp at h ⊢

theorem plain_else {s : ByteArray} (h1 : s.data.toList ≠ [33]) (h2 : s.data.toList ≠ [59]) (h3 : s.data.toList ≠ [91, 93]) (h4 : s.data.toList ≠ [123, 125]) (h5 : s.data.toList ≠ []) (h6 : s.data.toList ≠ [46]) :
    ∃ h : 0 < s.size, plainB s = if prefB s ⟨#[47, 42]⟩ then false else hasB smallS s[0] && allB s wordS || allB s signS := by
  have h0 : 0 < s.size := by
    rw [Lib.size_eq]
    rcases hl : s.data.toList with _ | ⟨a, l⟩
    · exact absurd hl h5
    · simp
  refine ⟨h0, ?_⟩
  have hh : s.data.toList.headD 0 = s[0] := by
    have e : s[0] = s.data.toList[0]'(by rw [← Lib.size_eq]; exact h0) := rfl
    rw [e]
    exact headD_eq _ _
  have ew : s.data.toList.all isWord = allB s wordS := by unfold allB; congr 1; funext c; exact (hasB_word c).symm
  have es : s.data.toList.all isSign = allB s signS := by unfold allB; congr 1
  unfold plainB plainL
  rw [if_neg (by simp [h1, h2, h3, h4]), if_neg (by simp [h5, h6]), hh, ew, es, hasB_small]
  rfl

end Go.El
