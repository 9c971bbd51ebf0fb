/- Layer 11, plain: variables are numbered as one comes to them. No program in sight. -/
import Derived.Test.YtnedihbffiddpaaGreatDoorW13
import Derived.Test.YtnedihbffiddpaaGreatDoorMap
namespace Go.El

/-- Numbers behind others that are not among them. -/
def addV (n : Int) (l : List Int) : List Int := if n ∈ l then l else l ++ [n]
mutual
def vsT : Tm → List Int → List Int
  | .mk k n _ l, acc => if k = 1 then addV n acc else vsL l acc
def vsL : List Tm → List Int → List Int
  | [], acc => acc
  | a :: r, acc => vsL r (vsT a acc)
end
def plc (n : Int) : List Int → Nat
  | [] => 0
  | m :: l => if m = n then 0 else plc n l + 1
mutual
def rnT : Tm → List Int → Tm
  | .mk k n s l, acc => if k = 1 then .mk 1 (plc n (addV n acc)) ⟨#[]⟩ [] else .mk k n s (rnL l acc)
def rnL : List Tm → List Int → List Tm
  | [], _ => []
  | a :: r, acc => rnT a acc :: rnL r (vsT a acc)
end

theorem vsL_take : ∀ {l : List Tm} {j : Nat} {u : Tm} (acc : List Int), l[j]? = some u → vsL (l.take (j + 1)) acc = vsT u (vsL (l.take j) acc)
  | [], j, u, acc, h => by simp at h
  | a :: r, 0, u, acc, h => by
    simp at h
    subst h
    simp [vsL]
  | a :: r, j + 1, u, acc, h => by
    have := vsL_take (l := r) (j := j) (u := u) (vsT a acc) (by simpa using h)
    simp only [List.take_succ_cons, vsL]
    exact this
theorem rnL_take : ∀ {l : List Tm} {j : Nat} {u : Tm} (acc : List Int), l[j]? = some u → rnL (l.take (j + 1)) acc = rnL (l.take j) acc ++ [rnT u (vsL (l.take j) acc)]
  | [], j, u, acc, h => by simp at h
  | a :: r, 0, u, acc, h => by
    simp at h
    subst h
    simp [vsL, rnL]
  | a :: r, j + 1, u, acc, h => by
    have := rnL_take (l := r) (j := j) (u := u) (vsT a acc) (by simpa using h)
    simp only [List.take_succ_cons, vsL, rnL]
    rw [this]
    rfl
theorem rnL_len : ∀ (l : List Tm) (acc : List Int), (rnL l acc).length = l.length
  | [], _ => rfl
  | a :: r, acc => by simp [rnL, rnL_len r]
theorem addV_len (n : Int) (l : List Int) : (addV n l).length ≤ l.length + 1 ∧ l.length ≤ (addV n l).length := by
  unfold addV
  split
  · omega
  · simp
theorem addV_mem (n : Int) (l : List Int) : n ∈ addV n l := by
  unfold addV
  split
  · assumption
  · simp
theorem plc_lt {n : Int} : ∀ {l : List Int}, n ∈ l → plc n l < l.length
  | m :: l, h => by
    unfold plc
    split
    · simp
    · rename_i hne
      have : n ∈ l := by
        rcases List.mem_cons.1 h with e | e
        · exact absurd e.symm hne
        · exact e
      have := plc_lt this
      simp
      omega
mutual
theorem vsT_len : ∀ (t : Tm) (acc : List Int), (vsT t acc).length ≤ acc.length + szT t ∧ acc.length ≤ (vsT t acc).length
  | .mk k n _ l, acc => by
    have := vsL_len l acc
    have := addV_len n acc
    simp only [vsT, szT]
    split <;> omega
theorem vsL_len : ∀ (l : List Tm) (acc : List Int), (vsL l acc).length ≤ acc.length + szL l ∧ acc.length ≤ (vsL l acc).length
  | [], acc => by simp [vsL]
  | a :: r, acc => by
    have := vsT_len a acc
    have := vsL_len r (vsT a acc)
    simp only [vsL, szL]
    omega
end
theorem part_var {n : Int} {s : ByteArray} {m : Nat} (h : partK 1 n s m = true) : 0 ≤ n ∧ n < 1073741824 ∧ s.size = 0 ∧ m = 0 := by
  simpa [partK] using h
mutual
theorem rnT_size : ∀ (t : Tm) (acc : List Int), okT t = true → szT (rnT t acc) = szT t ∧ dpT (rnT t acc) = dpT t ∧ (acc.length + szT t ≤ 1073741824 → okT (rnT t acc) = true)
  | .mk k n s l, acc, h => by
    simp only [okT, Bool.and_eq_true] at h
    have hl := rnL_size l acc h.2
    simp only [rnT]
    split
    · rename_i hk
      subst hk
      have hp := part_var h.1
      have := List.length_eq_zero_iff.1 hp.2.2.2
      subst this
      refine ⟨by simp [szT, szL], by simp [dpT, dpL], fun hb => ?_⟩
      simp only [szT, szL] at hb
      have h1 := plc_lt (addV_mem n acc)
      have h2 := addV_len n acc
      simp only [okT, okL, Bool.and_true]
      unfold partK
      rw [if_pos rfl]
      refine decide_eq_true ⟨by omega, by omega, rfl, rfl⟩
    · simp only [szT, dpT, okT, rnL_len, Bool.and_eq_true]
      exact ⟨by omega, by omega, fun hb => ⟨h.1, hl.2.2 (by omega)⟩⟩
theorem rnL_size : ∀ (l : List Tm) (acc : List Int), okL l = true → szL (rnL l acc) = szL l ∧ dpL (rnL l acc) = dpL l ∧ (acc.length + szL l ≤ 1073741824 → okL (rnL l acc) = true)
  | [], acc, _ => by simp [rnL, okL]
  | a :: r, acc, h => by
    simp only [okL, Bool.and_eq_true] at h
    have h1 := rnT_size a acc h.1
    have h2 := rnL_size r (vsT a acc) h.2
    have h3 := vsT_len a acc
    simp only [rnL, szL, dpL, okL, Bool.and_eq_true]
    exact ⟨by omega, by omega, fun hb => ⟨h1.2.2 (by omega), h2.2.2 (by omega)⟩⟩
end
theorem rnT_may {t : Tm} {acc : List Int} (h : mayT t = true) (hl : acc.length ≤ 1000000000) : mayT (rnT t acc) = true := by
  obtain ⟨h1, h2, h3⟩ := mayT_iff.1 h
  obtain ⟨a, b, c⟩ := rnT_size t acc h1
  exact mayT_iff.2 ⟨c (by omega), by omega, by omega⟩

/-! ## The map of numbers -/
def numF (i : Nat) : List Int → List (Int × Value)
  | [] => []
  | n :: l => (n, .int .i64 (i : Int)) :: numF (i + 1) l
def numP (l : List Int) : List (Int × Value) := numF 0 l
theorem numF_len : ∀ (l : List Int) (i : Nat), (numF i l).length = l.length
  | [], _ => rfl
  | n :: l, i => by simp [numF, numF_len l]
theorem numF_find (n : Int) : ∀ (l : List Int) (i : Nat), findP n (numF i l) = if n ∈ l then some (.int .i64 ((i + plc n l : Nat) : Int)) else none
  | [], i => by simp [numF, findP]
  | m :: l, i => by
    have ih := numF_find n l (i + 1)
    simp only [numF, findP, plc]
    by_cases h : m = n
    · simp [h]
    · have h2 : ¬ n = m := fun e => h e.symm
      rw [if_neg h, ih]
      simp only [List.mem_cons, h2, false_or, if_neg h]
      split
      · congr 2
        omega
      · rfl
theorem numP_find (n : Int) (l : List Int) : findP n (numP l) = if n ∈ l then some (.int .i64 (plc n l : Int)) else none := by
  have := numF_find n l 0
  simpa [numP] using this
theorem numF_set {n : Int} : ∀ {l : List Int} {i : Nat}, n ∉ l → setP n (.int .i64 ((i + l.length : Nat) : Int)) (numF i l) = numF i (l ++ [n])
  | [], i, _ => by simp [numF, setP]
  | m :: l, i, h => by
    have h1 : m ≠ n := fun e => h (by simp [e])
    have h2 : n ∉ l := fun e => h (by simp [e])
    have ih := numF_set (l := l) (i := i + 1) h2
    simp only [numF, setP, List.cons_append, if_neg h1, List.length_cons]
    rw [← ih]
    congr 3
    simp
    omega
theorem numP_set {n : Int} {l : List Int} (h : n ∉ l) : setP n (.int .i64 (l.length : Int)) (numP l) = numP (l ++ [n]) := by
  have := numF_set (i := 0) h
  simpa [numP] using this
theorem plc_new {n : Int} : ∀ {l : List Int}, n ∉ l → plc n (l ++ [n]) = l.length
  | [], _ => by simp [plc]
  | m :: l, h => by
    have h1 : m ≠ n := fun e => h (by simp [e])
    have h2 : n ∉ l := fun e => h (by simp [e])
    simp [plc, h1, plc_new h2]

end Go.El

/- Layer 11, plain: the text of an answer. No program in sight. -/
namespace Go.El

def sepF (F : List UInt8) : List UInt8 := if F = [] then [] else [44, 32]
/-- One name and its term, behind others. -/
def bdS (a : List UInt8 × List Int) (x : ByteArray × Tm) : List UInt8 × List Int :=
  if x.1.data.toList = [95] then a else (a.1 ++ sepF a.1 ++ (x.1.data.toList ++ [32, 61, 32]) ++ txT none (rnT x.2 a.2) 1200, vsT x.2 a.2)
def bdL (l : List (ByteArray × Tm)) : List UInt8 × List Int := l.foldl bdS ([], [])
theorem bdL_take {l : List (ByteArray × Tm)} {j : Nat} {x : ByteArray × Tm} (h : l[j]? = some x) : bdL (l.take (j + 1)) = bdS (bdL (l.take j)) x := by
  obtain ⟨hj, e⟩ := List.getElem?_eq_some_iff.1 h
  unfold bdL
  rw [List.take_succ_eq_append_getElem hj, List.foldl_append, e]
  rfl
def fstBad : List Tm → Int
  | [] => 0
  | t :: r => if chkT t = 0 then fstBad r else chkT t
theorem fstBad_first : ∀ {l : List Tm} {j : Nat} {u : Tm}, (∀ t ∈ l.take j, chkT t = 0) → l[j]? = some u → chkT u ≠ 0 → fstBad l = chkT u
  | [], j, u, _, h, _ => by simp at h
  | a :: r, 0, u, _, h, hu => by
    simp at h
    subst h
    simp [fstBad, hu]
  | a :: r, j + 1, u, ha, h, hu => by
    have h1 : chkT a = 0 := ha a (by simp)
    have := fstBad_first (l := r) (j := j) (u := u) (fun t ht => ha t (by simp [ht])) (by simpa using h) hu
    simp [fstBad, h1, this]
theorem fstBad_none : ∀ {l : List Tm}, (∀ t ∈ l, chkT t = 0) → fstBad l = 0
  | [], _ => rfl
  | a :: r, h => by
    have h1 : chkT a = 0 := h a (by simp)
    have := fstBad_none (l := r) (fun t ht => h t (by simp [ht]))
    simp [fstBad, h1, this]
/-- The text of an answer. -/
def bndF (ns : List ByteArray) (l : List Tm) : List UInt8 := if (bdL (ns.zip l)).1 = [] then [116, 114, 117, 101] else (bdL (ns.zip l)).1
theorem bdS_len {a : List UInt8 × List Int} {x : ByteArray × Tm} (hx : x.1.size ≤ 1000) (ht : mayT x.2 = true) (ha : a.2.length ≤ 1000000000) : (bdS a x).1.length ≤ a.1.length + 2000000 ∧ (bdS a x).2.length ≤ a.2.length + 4096 := by
  obtain ⟨h1, _, h3⟩ := mayT_iff.1 ht
  have hv := (vsT_len x.2 a.2).1
  have hm := rnT_may ht ha
  obtain ⟨g1, _, g3⟩ := mayT_iff.1 hm
  have hl := txT_le none (rnT x.2 a.2) 1200 g1
  have hs : (sepF a.1).length ≤ 2 := by
    unfold sepF
    split <;> simp
  have e : x.1.data.toList.length = x.1.size := by simp
  unfold bdS
  split
  · omega
  · simp only [List.length_append, List.length_cons, List.length_nil]
    omega
theorem bdL_len : ∀ {l : List (ByteArray × Tm)} {j : Nat}, (∀ x ∈ l, x.1.size ≤ 1000 ∧ mayT x.2 = true) → l.length ≤ 100 → (bdL (l.take j)).1.length ≤ j * 2000000 ∧ (bdL (l.take j)).2.length ≤ j * 4096
  | l, 0, _, _ => by simp [bdL]
  | l, j + 1, h, hl => by
    have ih := bdL_len (l := l) (j := j) h hl
    by_cases hj : j < l.length
    · have ho : l[j]? = some l[j] := List.getElem?_eq_getElem hj
      rw [bdL_take ho]
      have hx := h l[j] (List.getElem_mem hj)
      have := bdS_len (a := bdL (l.take j)) hx.1 hx.2 (by omega)
      omega
    · have e1 : l.take j = l := List.take_of_length_le (by omega)
      have e2 : l.take (j + 1) = l := List.take_of_length_le (by omega)
      rw [e1] at ih
      rw [e2]
      exact ⟨Nat.le_trans ih.1 (Nat.mul_le_mul_right _ (Nat.le_succ j)), Nat.le_trans ih.2 (Nat.mul_le_mul_right _ (Nat.le_succ j))⟩

end Go.El
