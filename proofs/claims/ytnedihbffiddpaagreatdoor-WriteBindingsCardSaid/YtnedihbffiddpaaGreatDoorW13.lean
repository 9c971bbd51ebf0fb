/- Layer 11, plain: how long a term's text is. -/
import Derived.Test.YtnedihbffiddpaaGreatDoorW1
namespace Go.El

theorem hexL_le (c : UInt8) : (hexL c).length ≤ 2 := by
  unfold hexL
  split <;> simp
theorem sgnF_le (c : UInt8) : (sgnF c).length ≤ 5 := by
  have h1 := hexL_le c
  unfold sgnF
  split
  · simp only [List.length_append, List.length_cons, List.length_nil]; omega
  · unfold sgnS
    split
    · decide
    · split
      · decide
      · split <;> simp
theorem sgnW_le : ∀ l : List UInt8, (sgnW l).length ≤ 5 * l.length
  | [] => Nat.le_refl _
  | c :: l => by
    have := sgnW_le l
    have := sgnF_le c
    simp only [sgnW, List.flatMap_cons, List.length_append, List.length_cons] at *
    omega
theorem quoF_le (l : List UInt8) : (quoF l).length ≤ 5 * l.length + 2 := by
  have := sgnW_le l
  unfold quoF
  split
  · omega
  · simp only [List.length_append, List.length_cons, List.length_nil]; omega
theorem decDigits_le : ∀ (k u : Nat), u < 10 ^ (k + 1) → (Lib.decDigits u).length ≤ k + 1
  | 0, u, h => by
    rw [Lib.decDigits, dif_pos (by simpa using h)]
    simp
  | k + 1, u, h => by
    rw [Lib.decDigits]
    split
    · simp
    · have := decDigits_le k (u / 10) (by rw [Nat.pow_succ] at h; omega)
      simp only [List.length_append, List.length_cons, List.length_nil]
      omega
theorem itoa_le {n : Int} (h1 : -9007199254740991 ≤ n) (h2 : n ≤ 9007199254740991) : (Lib.itoa n).length ≤ 17 := by
  unfold Lib.itoa
  split
  · have := decDigits_le 15 n.natAbs (by omega)
    simp only [List.length_cons]
    omega
  · have := decDigits_le 15 n.toNat (by omega)
    omega
theorem brk_le (b : Bool) (x : List UInt8) : (brk b x).length ≤ x.length + 2 := by
  unfold brk
  split
  · simp
  · omega
theorem part_bd {k n : Int} {s : ByteArray} {m : Nat} (h : partK k n s m = true) : -9007199254740991 ≤ n ∧ n ≤ 9007199254740991 ∧ s.size ≤ 64 := by
  unfold partK at h
  split at h
  · have := of_decide_eq_true h; omega
  · split at h
    · have := of_decide_eq_true h; omega
    · split at h
      · have := of_decide_eq_true h; omega
      · split at h
        · have := of_decide_eq_true h; omega
        · cases h
theorem midF_le {s : ByteArray} (h : s.size ≤ 64) : (midF s).length ≤ 324 := by
  have := quoF_le s.data.toList
  have e : s.data.toList.length = s.size := by simp
  unfold midF
  split
  · simp
  · simp only [List.length_append, List.length_cons, List.length_nil]; omega
theorem operF_le {I Q : List OpV} {k : Int} {s : ByteArray} {l : List Tm} {most : Int} {a0 a1 : Int → List UInt8} {R : Nat} (hs : s.size ≤ 64) (ha : ∀ m m', (a0 m).length + (a1 m').length ≤ R) {x : List UInt8} (h : operF I Q k s l most a0 a1 = some x) : x.length ≤ 340 + R := by
  have hq := quoF_le s.data.toList
  have e : s.data.toList.length = s.size := by simp
  have hm := midF_le hs
  unfold operF at h
  split at h
  · injection h with h
    subst h
    have := ha 1200 0
    simp only [List.length_append, List.length_cons, List.length_nil]
    omega
  · split at h
    · cases h
    · rename_i p _
      split at h
      · injection h with h
        subst h
        have h1 := ha (leftF I Q p l) (rightI p.p p.t)
        have b0 := brk_le ((l.head?.map (bareT (some (I, Q)))).getD false) (a0 (leftF I Q p l))
        have b1 := brk_le ((l.tail.head?.map (bareT (some (I, Q)))).getD false) (a1 (rightI p.p p.t))
        refine Nat.le_trans (brk_le _ _) ?_
        simp only [List.length_append, besF]
        omega
      · injection h with h
        subst h
        have h1 := ha (rightI p.p p.t) 0
        have b0 := brk_le ((l.head?.map (bareT (some (I, Q)))).getD false) (a0 (rightI p.p p.t))
        refine Nat.le_trans (brk_le _ _) ?_
        simp only [List.length_append, besF, List.length_cons, List.length_nil]
        omega
theorem hdF_le {o : OpsV} {k n : Int} {s : ByteArray} {l : List Tm} {m : Nat} {most : Int} {row : List UInt8} {a0 a1 : Int → List UInt8} {R : Nat} (hp : partK k n s m = true) (hr : row.length ≤ R) (ha : ∀ m m', (a0 m).length + (a1 m').length ≤ R) : (hdF o k n s l most row a0 a1).length ≤ 340 + R := by
  obtain ⟨h1, h2, hs⟩ := part_bd hp
  have hi := itoa_le h1 h2
  have hq := quoF_le s.data.toList
  have e : s.data.toList.length = s.size := by simp
  unfold hdF
  split
  · simp only [List.length_append, List.length_cons, List.length_nil]; omega
  · split
    · omega
    · split
      · omega
      · split
        · rename_i x hx
          cases o with
          | none => cases hx
          | some q =>
            obtain ⟨I, Q⟩ := q
            exact operF_le hs ha hx
        · simp only [List.length_append, List.length_cons, List.length_nil]; omega

mutual
theorem txT_le (o : OpsV) : ∀ (t : Tm) (most : Int), okT t = true → (txT o t most).length + 2 ≤ 400 * szT t
  | .mk k n s l, most, h => by
    simp only [okT, Bool.and_eq_true] at h
    have h1 := lsT_le o l h.2
    have h2 := rwT_le o l h.2
    have h3 := aT_le o l h.2
    simp only [txT, szT]
    split
    · simp only [List.length_append, List.length_cons, List.length_nil]; omega
    · have := hdF_le (o := o) (l := l) (most := most) h.1 (show (rwT o l).length ≤ 400 * szL l by omega) h3
      omega
theorem lsT_le (o : OpsV) : ∀ (l : List Tm), okL l = true → (lsT o l).length ≤ 400 * szL l
  | [], _ => by simp [lsT]
  | a :: r, h => by
    simp only [okL, Bool.and_eq_true] at h
    have h1 := txT_le o a 999 h.1
    have h2 := lrT_le o r h.2
    simp only [lsT, szL, List.length_append]
    omega
theorem lrT_le (o : OpsV) : ∀ (l : List Tm), okL l = true → (lrT o l).length ≤ 400 * szL l
  | [], _ => by simp [lrT]
  | b :: r, h => by
    simp only [okL, Bool.and_eq_true] at h
    have h1 := endT_le o b h.1
    simp only [lrT, szL]
    omega
theorem endT_le (o : OpsV) : ∀ (t : Tm), okT t = true → (endT o t).length + 2 ≤ 400 * szT t
  | .mk k n s l, h => by
    simp only [okT, Bool.and_eq_true] at h
    have h1 := lsT_le o l h.2
    have h2 := rwT_le o l h.2
    have h3 := aT_le o l h.2
    simp only [endT, szT]
    split
    · simp only [List.length_append, List.length_cons, List.length_nil]; omega
    · split
      · simp only [List.length_cons, List.length_nil]; omega
      · have := hdF_le (o := o) (l := l) (most := 999) h.1 (show (rwT o l).length ≤ 400 * szL l by omega) h3
        simp only [List.length_append, List.length_cons, List.length_nil]
        omega
theorem rwT_le (o : OpsV) : ∀ (l : List Tm), okL l = true → (rwT o l).length + l.length ≤ 400 * szL l
  | [], _ => by simp [rwT]
  | a :: r, h => by
    simp only [okL, Bool.and_eq_true] at h
    have h1 := txT_le o a 999 h.1
    have h2 := rrT_le o r h.2
    simp only [rwT, szL, List.length_append, List.length_cons]
    omega
theorem rrT_le (o : OpsV) : ∀ (l : List Tm), okL l = true → (rrT o l).length + l.length ≤ 400 * szL l
  | [], _ => by simp [rrT]
  | a :: r, h => by
    simp only [okL, Bool.and_eq_true] at h
    have h1 := txT_le o a 999 h.1
    have h2 := rrT_le o r h.2
    simp only [rrT, szL, List.length_append, List.length_cons, List.length_nil]
    omega
theorem aT_le (o : OpsV) : ∀ (l : List Tm), okL l = true → ∀ m m', (a0T o l m).length + (a1T o l m').length ≤ 400 * szL l
  | [], _, m, m' => by simp [a0T, a1T]
  | a :: r, h, m, m' => by
    simp only [okL, Bool.and_eq_true] at h
    have h1 := txT_le o a m h.1
    have h2 := aT_le o r h.2 m' 0
    simp only [a0T, a1T, szL]
    omega
end
theorem rwT_take_le (o : OpsV) (l : List Tm) (h : okL l = true) (j : Nat) : (rwT o (l.take j)).length + min j l.length ≤ 400 * szL (l.take j) := by
  have hk : ∀ (l : List Tm) (j : Nat), okL l = true → okL (l.take j) = true := by
    intro l
    induction l with
    | nil => intro j _; simp [okL]
    | cons a r ih =>
      intro j h
      cases j with
      | zero => simp [okL]
      | succ j =>
        simp only [okL, Bool.and_eq_true] at h
        simp only [List.take_succ_cons, okL, Bool.and_eq_true]
        exact ⟨h.1, ih j h.2⟩
  have := rwT_le o (l.take j) (hk l j h)
  rw [List.length_take] at this
  exact this

end Go.El

/- Layers 6 and 11, plain: a list's items and its text. -/
namespace Go.El

theorem ls_split {t : Tm} (h : isLs t.k t.s t.l.length = true) : ∃ a b, t.l = [a, b] ∧ itT t = a :: itT b ∧ tlT t = tlT b := by
  have hd := of_decide_eq_true h
  cases t with
  | mk k n s l =>
    simp only [Tm.k, Tm.s, Tm.l] at h hd ⊢
    obtain ⟨_, _, h3⟩ := hd
    match l, h3 with
    | [a, b], _ =>
      refine ⟨a, b, rfl, ?_, ?_⟩
      · simp only [itT]
        rw [if_pos h]
        rfl
      · simp only [tlT]
        rw [if_pos h]
        rfl
theorem ls_none {t : Tm} (h : isLs t.k t.s t.l.length = false) : itT t = [] ∧ tlT t = t := by
  cases t with
  | mk k n s l =>
    simp only [Tm.k, Tm.s, Tm.l] at h
    simp only [itT, tlT, h]
    exact ⟨rfl, rfl⟩
/-- The items and the tail are smaller, and may be. -/
theorem it_size : ∀ (N : Nat) (t : Tm), szT t ≤ N → szL (itT t) + szT (tlT t) ≤ szT t ∧ (mayT t = true → (∀ u ∈ itT t, mayT u = true) ∧ mayT (tlT t) = true)
  | 0, t, h => by have := szT_pos t; omega
  | N + 1, t, h => by
    cases hl : isLs t.k t.s t.l.length
    · obtain ⟨h1, h2⟩ := ls_none hl
      rw [h1, h2]
      exact ⟨by simp [szL], fun hm => ⟨fun u hu => by simp at hu, hm⟩⟩
    · obtain ⟨a, b, hab, h1, h2⟩ := ls_split hl
      have hsz : szT t = 1 + (szT a + szT b) := by
        cases t with
        | mk k n s l =>
          simp only [Tm.l] at hab
          subst hab
          simp [szT, szL]
      obtain ⟨i1, i2⟩ := it_size N b (by omega)
      rw [h1, h2]
      refine ⟨by simp only [szL]; omega, fun hm => ?_⟩
      have ha : mayT a = true := mayT_get hm (j := 0) (by rw [hab]; rfl)
      have hb : mayT b = true := mayT_get hm (j := 1) (by rw [hab]; rfl)
      refine ⟨fun u hu => ?_, (i2 hb).2⟩
      rcases List.mem_cons.1 hu with e | e
      · exact e ▸ ha
      · exact (i2 hb).1 u e
theorem it_lt {t : Tm} (h : isLs t.k t.s t.l.length = true) : szL (itT t) + szT (tlT t) + 1 ≤ szT t := by
  obtain ⟨a, b, hab, h1, h2⟩ := ls_split h
  have := (it_size (szT b) b (Nat.le_refl _)).1
  rw [h1, h2]
  cases t with
  | mk k n s l =>
    simp only [Tm.l] at hab
    subst hab
    simp only [szT, szL]
    omega
theorem okL_of : ∀ {l : List Tm}, (∀ u ∈ l, mayT u = true) → okL l = true
  | [], _ => rfl
  | t :: r, h => by
    simp only [okL, Bool.and_eq_true]
    exact ⟨(mayT_iff.1 (h t (by simp))).1, okL_of (fun u hu => h u (by simp [hu]))⟩
def tailF (o : OpsV) (u : Tm) : List UInt8 := if u.k = 3 ∧ u.s.data.toList = [91, 93] then [93] else [124] ++ txT o u 999 ++ [93]
theorem end_items (o : OpsV) : ∀ (N : Nat) (b : Tm), szT b ≤ N → endT o b = rrT o (itT b) ++ tailF o (tlT b)
  | 0, t, h => by have := szT_pos t; omega
  | N + 1, t, h => by
    cases hl : isLs t.k t.s t.l.length
    · obtain ⟨h1, h2⟩ := ls_none hl
      rw [h1, h2]
      cases t with
      | mk k n s l =>
        simp only [Tm.k, Tm.s, Tm.l] at hl
        simp only [endT, hl, tailF, txT, Tm.k, Tm.s, rrT]
        simp
    · obtain ⟨a, b, hab, h1, h2⟩ := ls_split hl
      rw [h1, h2]
      cases t with
      | mk k n s l =>
        simp only [Tm.k, Tm.s, Tm.l] at hl hab
        subst hab
        have ih := end_items o N b (by simp only [szT, szL] at h; omega)
        simp only [endT, hl, if_true, lsT, lrT, rrT]
        rw [ih]
        simp
theorem txT_list (o : OpsV) (most : Int) {t : Tm} (h : isLs t.k t.s t.l.length = true) : txT o t most = [91] ++ rwT o (itT t) ++ tailF o (tlT t) := by
  obtain ⟨a, b, hab, h1, h2⟩ := ls_split h
  rw [h1, h2]
  cases t with
  | mk k n s l =>
    simp only [Tm.k, Tm.s, Tm.l] at h hab
    subst hab
    simp only [txT, h, if_true, lsT, lrT, rwT]
    rw [end_items o (szT b) b (Nat.le_refl _)]
    simp

end Go.El
