/- Layers 6 and 11, plain: terms, whether they may be, and their texts. No program in sight. -/
import Derived.Test.YtkenjhchfidpbaaGreatDoorC36
import Derived.Test.YtkenjhchfidpbaaGreatDoorC35
import Derived.Lib.ItoaNum
namespace Go.El

inductive Tm where
  | mk (k n : Int) (s : ByteArray) (l : List Tm)
def Tm.k : Tm → Int | .mk k _ _ _ => k
def Tm.n : Tm → Int | .mk _ n _ _ => n
def Tm.s : Tm → ByteArray | .mk _ _ s _ => s
def Tm.l : Tm → List Tm | .mk _ _ _ l => l

mutual
def szT : Tm → Nat
  | .mk _ _ _ l => 1 + szL l
def szL : List Tm → Nat
  | [] => 0
  | t :: r => szT t + szL r
end
mutual
def dpT : Tm → Nat
  | .mk _ _ _ l => 1 + dpL l
def dpL : List Tm → Nat
  | [] => 0
  | t :: r => max (dpT t) (dpL r)
end
/-- May a part be so, its arguments not asked? -/
def partK (k n : Int) (s : ByteArray) (m : Nat) : Bool :=
  if k = 1 then decide (0 ≤ n ∧ n < 1073741824 ∧ s.size = 0 ∧ m = 0)
  else if k = 2 then decide (-9007199254740991 ≤ n ∧ n ≤ 9007199254740991 ∧ s.size = 0 ∧ m = 0)
  else if k = 3 then decide (n = 0 ∧ s.size ≤ 64 ∧ m = 0)
  else if k = 4 then decide (n = 0 ∧ s.size ≤ 64 ∧ 1 ≤ m ∧ m ≤ 16)
  else false
def partT : Tm → Bool
  | .mk k n s l => partK k n s l.length
mutual
def okT : Tm → Bool
  | .mk k n s l => partK k n s l.length && okL l
def okL : List Tm → Bool
  | [] => true
  | t :: r => okT t && okL r
end
/-- What is wrong with a term; 0: nothing. -/
def chkT (t : Tm) : Int := if okT t = false then 60 else if 200 < dpT t then 61 else if 4096 < szT t then 62 else 0

theorem szT_pos (t : Tm) : 1 ≤ szT t := by cases t; simp [szT]
theorem dpT_pos (t : Tm) : 1 ≤ dpT t := by cases t; simp [dpT]
theorem szL_append : ∀ a b : List Tm, szL (a ++ b) = szL a + szL b
  | [], b => by simp [szL]
  | t :: a, b => by simp [szL, szL_append a b]; omega
theorem szL_get : ∀ {l : List Tm} {j : Nat} {t : Tm}, l[j]? = some t → szT t ≤ szL l
  | [], j, t, h => by simp at h
  | a :: r, 0, t, h => by
    simp at h
    subst h
    simp [szL]
  | a :: r, j + 1, t, h => by
    have := szL_get (l := r) (j := j) (t := t) (by simpa using h)
    simp only [szL]
    omega
theorem szT_lt {t u : Tm} {j : Nat} (h : t.l[j]? = some u) : szT u < szT t := by
  cases t with
  | mk k n s l =>
    have := szL_get h
    simp only [szT, Tm.l] at *
    omega
theorem szL_take : ∀ {l : List Tm} {j : Nat} {t : Tm}, l[j]? = some t → szL (l.take (j + 1)) = szL (l.take j) + szT t
  | [], j, t, h => by simp at h
  | a :: r, 0, t, h => by
    simp at h
    subst h
    simp [szL]
  | a :: r, j + 1, t, h => by
    have := szL_take (l := r) (j := j) (t := t) (by simpa using h)
    simp only [List.take_succ_cons, szL]
    rw [this]
    omega
theorem szL_take_le : ∀ (l : List Tm) (j : Nat), szL (l.take j) ≤ szL l
  | [], j => by simp [szL]
  | a :: r, 0 => by simp [szL]
  | a :: r, j + 1 => by
    have := szL_take_le r j
    simp only [List.take_succ_cons, szL]
    omega
theorem len_szL : ∀ l : List Tm, l.length ≤ szL l
  | [] => Nat.le_refl _
  | t :: l => by
    have := len_szL l
    have := szT_pos t
    simp only [List.length_cons, szL]
    omega
theorem dpL_get : ∀ {l : List Tm} {j : Nat} {t : Tm}, l[j]? = some t → dpT t ≤ dpL l
  | [], j, t, h => by simp at h
  | a :: r, 0, t, h => by
    simp at h
    subst h
    simp only [dpL]
    omega
  | a :: r, j + 1, t, h => by
    have := dpL_get (l := r) (j := j) (t := t) (by simpa using h)
    simp only [dpL]
    omega
theorem dpL_take : ∀ {l : List Tm} {j : Nat} {t : Tm}, l[j]? = some t → dpL (l.take (j + 1)) = max (dpL (l.take j)) (dpT t)
  | [], j, t, h => by simp at h
  | a :: r, 0, t, h => by
    simp at h
    subst h
    simp [dpL]
  | a :: r, j + 1, t, h => by
    have := dpL_take (l := r) (j := j) (t := t) (by simpa using h)
    simp only [List.take_succ_cons, dpL]
    rw [this]
    omega
theorem okL_take : ∀ {l : List Tm} {j : Nat} {t : Tm}, l[j]? = some t → okL (l.take (j + 1)) = (okL (l.take j) && okT t)
  | [], j, t, h => by simp at h
  | a :: r, 0, t, h => by
    simp at h
    subst h
    simp [okL]
  | a :: r, j + 1, t, h => by
    have := okL_take (l := r) (j := j) (t := t) (by simpa using h)
    simp only [List.take_succ_cons, okL]
    rw [this, Bool.and_assoc]
theorem okL_get : ∀ {l : List Tm} {j : Nat} {t : Tm}, okL l = true → l[j]? = some t → okT t = true
  | [], j, t, _, h => by simp at h
  | a :: r, 0, t, ho, h => by
    simp at h
    subst h
    simp only [okL, Bool.and_eq_true] at ho
    exact ho.1
  | a :: r, j + 1, t, ho, h => by
    simp only [okL, Bool.and_eq_true] at ho
    exact okL_get (l := r) (j := j) ho.2 (by simpa using h)

/-- A term that may be. -/
def mayT (t : Tm) : Bool := chkT t == 0
theorem mayT_iff {t : Tm} : mayT t = true ↔ okT t = true ∧ dpT t ≤ 200 ∧ szT t ≤ 4096 := by
  unfold mayT chkT
  cases okT t
  · simp
  · by_cases h1 : 200 < dpT t
    · simp [h1]; omega
    · by_cases h2 : 4096 < szT t
      · simp [h1, h2]
      · simp [h1, h2]; omega
theorem mayT_get {t u : Tm} {j : Nat} (ht : mayT t = true) (h : t.l[j]? = some u) : mayT u = true := by
  obtain ⟨h1, h2, h3⟩ := mayT_iff.1 ht
  have hlt := szT_lt h
  cases t with
  | mk k n s l =>
    simp only [Tm.l] at h
    simp only [okT, Bool.and_eq_true] at h1
    have hd := dpL_get h
    simp only [dpT] at h2
    exact mayT_iff.2 ⟨okL_get h1.2 h, by omega, by omega⟩

/-- Is a term one of a list's? -/
def isLs (k : Int) (s : ByteArray) (m : Nat) : Bool := decide (k = 4 ∧ s.data.toList = [46] ∧ m = 2)
mutual
def itT : Tm → List Tm
  | .mk k _ s l => if isLs k s l.length then itL l else []
def itL : List Tm → List Tm
  | [] => []
  | a :: r => a :: itR r
def itR : List Tm → List Tm
  | [] => []
  | b :: _ => itT b
end
mutual
def tlT : Tm → Tm
  | .mk k n s l => if isLs k s l.length then tlL l else .mk k n s l
def tlL : List Tm → Tm
  | [] => .mk 0 0 ⟨#[]⟩ []
  | _ :: r => tlR r
def tlR : List Tm → Tm
  | [] => .mk 0 0 ⟨#[]⟩ []
  | b :: _ => tlT b
end

mutual
theorem itT_len : ∀ t : Tm, (itT t).length < szT t
  | .mk k n s l => by
    have := itL_len l
    simp only [itT, szT]
    split
    · omega
    · simp only [List.length_nil]; omega
theorem itL_len : ∀ l : List Tm, (itL l).length ≤ szL l
  | [] => by simp [itL]
  | a :: r => by
    have := itR_len r
    have := szT_pos a
    simp only [itL, szL, List.length_cons]
    omega
theorem itR_len : ∀ l : List Tm, (itR l).length ≤ szL l
  | [] => by simp [itR]
  | b :: r => by
    have := itT_len b
    simp only [itR, szL]
    omega
end

abbrev OpsV := Option (List OpV × List OpV)
def isOp (o : OpsV) (s : ByteArray) : Bool := match o with
  | none => false
  | some (I, Q) => (findO s I).isSome || (findO s Q).isSome
def isBraces (s : ByteArray) (m : Nat) : Bool := decide (s.data.toList = [123, 125] ∧ m = 1)
def isMinus (s : ByteArray) (l : List Tm) : Bool := s.data.toList == [45] && (l.head?.map Tm.k == some 2)
/-- The operator by which a term is written. -/
def oprK (I Q : List OpV) (k : Int) (s : ByteArray) (l : List Tm) : Option OpV :=
  if k ≠ 4 ∨ (s.data.toList = [46] ∧ l.length = 2) ∨ (s.data.toList = [123, 125] ∧ l.length = 1) then none
  else if l.length = 2 then findO s I
  else if l.length = 1 ∧ isMinus s l = false then findO s Q
  else none
def oprT (I Q : List OpV) (t : Tm) : Option OpV := oprK I Q t.k t.s t.l
def brk (b : Bool) (x : List UInt8) : List UInt8 := if b then [40] ++ x ++ [41] else x
/-- Does a term stand in brackets beside an operator, whatever its precedence? -/
def bareT (o : OpsV) (t : Tm) : Bool := (t.k == 3 && isOp o t.s) || (t.k == 2 && decide (t.n < 0))
def besF (o : OpsV) (l : List Tm) (x : List UInt8) : List UInt8 := brk ((l.head?.map (bareT o)).getD false) x
def midF (s : ByteArray) : List UInt8 := if s.data.toList = [44] then [44, 32] else [32] ++ quoF s.data.toList ++ [32]
/-- What the operator on the left takes. -/
def leftF (I Q : List OpV) (p : OpV) (l : List Tm) : Int := match l.head?.bind (oprT I Q) with
  | none => leftI p.p p.t
  | some x => if p.p ≤ rightI x.p x.t then 0 else leftI p.p p.t
def operF (I Q : List OpV) (k : Int) (s : ByteArray) (l : List Tm) (most : Int) (a0 a1 : Int → List UInt8) : Option (List UInt8) :=
  if isBraces s l.length then some ([123] ++ a0 1200 ++ [125])
  else match oprK I Q k s l with
    | none => none
    | some p =>
      if l.length = 2 then some (brk (decide (most < p.p)) (besF (some (I, Q)) l (a0 (leftF I Q p l)) ++ midF s ++ besF (some (I, Q)) l.tail (a1 (rightI p.p p.t))))
      else some (brk (decide (most < p.p)) (quoF s.data.toList ++ [32] ++ besF (some (I, Q)) l (a0 (rightI p.p p.t))))
/-- The text of what is no list's. -/
def hdF (o : OpsV) (k n : Int) (s : ByteArray) (l : List Tm) (most : Int) (row : List UInt8) (a0 a1 : Int → List UInt8) : List UInt8 :=
  if k = 1 then [95] ++ Lib.itoa n
  else if k = 2 then Lib.itoa n
  else if k = 3 then quoF s.data.toList
  else match o.bind (fun q => operF q.1 q.2 k s l most a0 a1) with
    | some x => x
    | none => quoF s.data.toList ++ [40] ++ row ++ [41]

mutual
def txT (o : OpsV) : Tm → Int → List UInt8
  | .mk k n s l => fun most => if isLs k s l.length then [91] ++ lsT o l else hdF o k n s l most (rwT o l) (a0T o l) (a1T o l)
def lsT (o : OpsV) : List Tm → List UInt8
  | [] => []
  | a :: r => txT o a 999 ++ lrT o r
def lrT (o : OpsV) : List Tm → List UInt8
  | [] => []
  | b :: _ => endT o b
def endT (o : OpsV) : Tm → List UInt8
  | .mk k n s l => if isLs k s l.length then [44] ++ lsT o l else if k = 3 ∧ s.data.toList = [91, 93] then [93] else [124] ++ hdF o k n s l 999 (rwT o l) (a0T o l) (a1T o l) ++ [93]
def rwT (o : OpsV) : List Tm → List UInt8
  | [] => []
  | a :: r => txT o a 999 ++ rrT o r
def rrT (o : OpsV) : List Tm → List UInt8
  | [] => []
  | a :: r => [44] ++ txT o a 999 ++ rrT o r
def a0T (o : OpsV) : List Tm → Int → List UInt8
  | [] => fun _ => []
  | a :: _ => fun m => txT o a m
def a1T (o : OpsV) : List Tm → Int → List UInt8
  | [] => fun _ => []
  | _ :: r => fun m => a0T o r m
end

theorem rwT_take (o : OpsV) : ∀ {l : List Tm} {j : Nat} {t : Tm}, l[j]? = some t → rwT o (l.take (j + 1)) = rwT o (l.take j) ++ (if j = 0 then [] else [44]) ++ txT o t 999 := by
  have key : ∀ {l : List Tm} {j : Nat} {t : Tm}, l[j]? = some t → rrT o (l.take (j + 1)) = rrT o (l.take j) ++ [44] ++ txT o t 999 := by
    intro l
    induction l with
    | nil => intro j t h; simp at h
    | cons a r ih =>
      intro j t h
      cases j with
      | zero =>
        simp at h
        subst h
        simp [rrT]
      | succ j =>
        have := ih (j := j) (t := t) (by simpa using h)
        simp only [List.take_succ_cons, rrT]
        rw [this]
        simp
  intro l j t h
  cases l with
  | nil => simp at h
  | cons a r =>
    cases j with
    | zero =>
      simp at h
      subst h
      simp [rwT, rrT]
    | succ j =>
      have := key (l := r) (j := j) (t := t) (by simpa using h)
      simp only [List.take_succ_cons, rwT]
      rw [this]
      simp

end Go.El

/- Terms in memory, and the state of a writer. -/
namespace Go.El
open Go.RowKit

/-- A term in memory: where its arguments lie; the blocks below lie in D. -/
inductive TmIn (D : Nat → Prop) (w : World) : Tm → Option Addr → Nat → Prop
  | mk (k n : Int) (s : ByteArray) (l : List Tm) (A : Option Addr) (cap : Nat) (ch : List (Option Addr × Nat))
      (hl : ch.length = l.length)
      (hr : ∀ (j : Nat) (t : Tm) (c : Option Addr × Nat), l[j]? = some t → ch[j]? = some c → TmIn D w t c.1 c.2)
      (hs : l ≠ [] → ∃ b off, A = some ⟨b, off, none⟩ ∧ D b ∧ ∀ (j : Nat) (t : Tm) (c : Option Addr × Nat), l[j]? = some t → ch[j]? = some c → w.cell? ⟨b, off + j * 4, none⟩ = some (.int .i64 t.k) ∧ w.cell? ⟨b, off + j * 4 + 1, none⟩ = some (.int .i64 t.n) ∧ w.cell? ⟨b, off + j * 4 + 2, none⟩ = some (.string t.s) ∧ w.cell? ⟨b, off + j * 4 + 3, none⟩ = some (.slice c.1 t.l.length c.2))
      (hc : l.length ≤ cap) : TmIn D w (.mk k n s l) A cap

/-- A term as a value. -/
def tmVal (t : Tm) (A : Option Addr) (cap : Nat) : Value := .agg #[.int .i64 t.k, .int .i64 t.n, .string t.s, .slice A t.l.length cap]

theorem TmIn.mods {D D' : Nat → Prop} {S : List Nat} {w w' : World} (hm : Mods S w w') (hS : ∀ k, D k → k ∉ S) (hD : ∀ k, D k → D' k) {t : Tm} {A : Option Addr} {c : Nat} (h : TmIn D w t A c) : TmIn D' w' t A c := by
  induction h with
  | mk k n s l A cap ch hl hr hs hc ih =>
    refine .mk k n s l A cap ch hl ih (fun hne => ?_) hc
    obtain ⟨b, off, hA, hb, hcell⟩ := hs hne
    refine ⟨b, off, hA, hD b hb, fun j t c ht hcj => ?_⟩
    obtain ⟨h0, h1, h2, h3⟩ := hcell j t c ht hcj
    exact ⟨hm.cell h0 (hS b hb), hm.cell h1 (hS b hb), hm.cell h2 (hS b hb), hm.cell h3 (hS b hb)⟩
theorem TmIn.ext {D : Nat → Prop} {w w' : World} (hx : Ext w w') {t : Tm} {A : Option Addr} {c : Nat} (h : TmIn D w t A c) : TmIn D w' t A c :=
  TmIn.mods (Mods.ext (S := []) hx) (fun _ _ => by simp) (fun _ h => h) h
theorem TmIn.mono {D D' : Nat → Prop} {w : World} (hD : ∀ k, D k → D' k) {t : Tm} {A : Option Addr} {c : Nat} (h : TmIn D w t A c) : TmIn D' w t A c :=
  TmIn.mods (Mods.refl [] w) (fun _ _ => by simp) hD h
theorem TmIn.cap_ {D : Nat → Prop} {w : World} {t : Tm} {A : Option Addr} {c : Nat} (h : TmIn D w t A c) : t.l.length ≤ c := by
  cases h
  assumption
/-- An argument of a term. -/
theorem TmIn.child {D : Nat → Prop} {w : World} {t : Tm} {A : Option Addr} {c : Nat} (h : TmIn D w t A c) {j : Nat} {u : Tm} (hj : t.l[j]? = some u) : ∃ b off A' c', A = some ⟨b, off, none⟩ ∧ D b ∧ TmIn D w u A' c' ∧ w.cell? ⟨b, off + j * 4, none⟩ = some (.int .i64 u.k) ∧ w.cell? ⟨b, off + j * 4 + 1, none⟩ = some (.int .i64 u.n) ∧ w.cell? ⟨b, off + j * 4 + 2, none⟩ = some (.string u.s) ∧ w.cell? ⟨b, off + j * 4 + 3, none⟩ = some (.slice A' u.l.length c') := by
  cases h with
  | mk k n s l A cap ch hl hr hs hc =>
    simp only [Tm.l] at hj
    have hlt := (List.getElem?_eq_some_iff.1 hj).1
    have hne : l ≠ [] := by
      rintro rfl
      simp at hlt
    obtain ⟨b, off, hA, hb, hcell⟩ := hs hne
    have hcj : ch[j]? = some (ch[j]'(by omega)) := List.getElem?_eq_getElem (by omega)
    obtain ⟨h0, h1, h2, h3⟩ := hcell j u _ hj hcj
    exact ⟨b, off, _, _, hA, hb, hr j u _ hj hcj, h0, h1, h2, h3⟩

/-- A list of terms in memory. -/
def TmsIn (D : Nat → Prop) (w : World) (l : List Tm) (A : Option Addr) (cap : Nat) : Prop := TmIn D w (.mk 0 0 ⟨#[]⟩ l) A cap
theorem TmIn.args {D : Nat → Prop} {w : World} {t : Tm} {A : Option Addr} {c : Nat} (h : TmIn D w t A c) : TmsIn D w t.l A c := by
  cases h with
  | mk k n s l A cap ch hl hr hs hc => exact .mk 0 0 _ _ _ _ ch hl hr hs hc
theorem TmsIn.term {D : Nat → Prop} {w : World} {l : List Tm} {A : Option Addr} {c : Nat} (h : TmsIn D w l A c) (k n : Int) (s : ByteArray) : TmIn D w (.mk k n s l) A c := by
  cases h with
  | mk _ _ _ _ _ _ ch hl hr hs hc => exact .mk k n s l A c ch hl hr hs hc
theorem TmsIn.nil (D : Nat → Prop) (w : World) (A : Option Addr) (c : Nat) : TmsIn D w [] A c :=
  .mk 0 0 _ [] A c [] rfl (fun j t c h => by simp at h) (fun h => absurd rfl h) (Nat.zero_le _)

/-- The blocks that writing does not turn. -/
def Clr (w : World) (b : Nat) (v : Value) (k : Nat) : Prop := k ≠ b ∧ v.ownBlock ≠ some k ∧ k < w.heap.size
/-- What writing does. -/
structure WStep (b : Nat) (v : Value) (w : World) (v' : Value) (w' : World) : Prop where
  mods : Mods (b :: ownL v) w w'
  own : ∀ k, v'.ownBlock = some k → v.ownBlock = some k ∨ w.heap.size ≤ k
theorem Clr.no {w : World} {b : Nat} {v : Value} {k : Nat} (h : Clr w b v k) : k ∉ b :: ownL v := by
  intro hm
  rcases List.mem_cons.1 hm with e | e
  · exact h.1 e
  · exact h.2.1 (by simpa [ownL] using e)
theorem WStep.clr {b : Nat} {v v' : Value} {w w' : World} (h : WStep b v w v' w') {k : Nat} (hk : Clr w b v k) : Clr w' b v' k := by
  refine ⟨hk.1, fun e => ?_, Nat.lt_of_lt_of_le hk.2.2 h.mods.size⟩
  rcases h.own k e with e | e
  · exact hk.2.1 e
  · exact absurd hk.2.2 (by omega)
theorem WStep.tm {b : Nat} {v v' : Value} {w w' : World} (h : WStep b v w v' w') {t : Tm} {A : Option Addr} {c : Nat} (ht : TmIn (Clr w b v) w t A c) : TmIn (Clr w' b v') w' t A c :=
  TmIn.mods h.mods (fun _ hk => hk.no) (fun _ hk => h.clr hk) ht
theorem WStep.refl (b : Nat) (v : Value) (w : World) : WStep b v w v w := ⟨Mods.refl _ w, fun _ h => .inl h⟩
theorem WStep.ext {b : Nat} {v : Value} {w w' : World} (h : Ext w w') : WStep b v w v w' := ⟨Mods.ext h, fun _ h => .inl h⟩
theorem WStep.trans {b : Nat} {v v1 v2 : Value} {w w1 w2 : World} (h : WStep b v w v1 w1) (k : WStep b v1 w1 v2 w2) : WStep b v w v2 w2 := by
  refine ⟨h.mods.step k.mods (fun x hx => ?_), fun x hx => ?_⟩
  · rcases List.mem_cons.1 hx with e | e
    · exact .inl (by simp [e])
    · have e1 : v1.ownBlock = some x := by simpa [ownL] using e
      rcases h.own x e1 with e2 | e2
      · exact .inl (by simp [ownL, e2])
      · exact .inr e2
  · rcases k.own x hx with e | e
    · exact h.own x e
    · exact .inr (Nat.le_trans h.mods.size e)

end Go.El

/- Layer 6, the program: the walks of bare, part, of, measure, Check, may. -/
namespace Go.Proofs.YtkenjhchfidpbaaGreatDoor
open Go.RowKit Go.El

theorem size_nil (s : ByteArray) : (s.toList == ([] : List UInt8)) = decide (s.size = 0) := by
  rw [ByteArray.toList_eq, Bool.eq_iff_iff, beq_iff_eq, decide_eq_true_iff]
  rw [← List.length_eq_zero_iff]
  simp
theorem ret_boolP {a b : Bool} (h : a = true ↔ b = true) : Ending.returned (.bool a) = .returned (.bool b) := by rw [Bool.eq_iff_iff.2 h]

set_option maxRecDepth 100000 in
set_option maxHeartbeats 1000000 in
theorem bare_any (t : Tm) (A : Option Addr) (c : Nat) (w : World) :
    Calls Tryz.prog 236 #[tmVal t A c] w fun e w' => e = .returned (.bool (decide (t.s.size = 0 ∧ t.l.length = 0))) ∧ Ext w w' := by
  have h0 := size_nil t.s
  unfold tmVal
  by_cases h1 : t.s.size = 0
  · rw [decide_eq_true h1] at h0
    go_enter Tryz.func236, Tryz.ntmps236
    go_wp2_with fail
    all_goals
      go_ret
      exact ⟨ret_boolP (by simp [h1]), ext_box _ _⟩
  · rw [decide_eq_false h1] at h0
    go_enter Tryz.func236, Tryz.ntmps236
    go_wp2_with fail
    all_goals
      go_ret
      exact ⟨ret_boolP (by simp [h1]), ext_box _ _⟩

set_option maxRecDepth 100000 in
set_option maxHeartbeats 4000000 in
theorem part_any (t : Tm) (A : Option Addr) (c : Nat) (w : World) :
    Calls Tryz.prog 175 #[tmVal t A c] w fun e w' => e = .returned (.bool (partK t.k t.n t.s t.l.length)) ∧ Ext w w' := by
  unfold tmVal
  have hB := fun W => Lib.hid (bare_any t A c W)
  unfold tmVal at hB
  generalize t.l.length = m at *
  generalize t.s = s at *
  generalize t.n = n at *
  generalize t.k = k at *
  by_cases hn : n = 0
  · subst hn
    by_cases hz : (s.size : Int) ≤ 64
    · by_cases k1 : k = 1
      · subst k1
        go_enter Tryz.func175, Tryz.ntmps175
        go_wp2_with (go_at_call 236; refine (hB _).out.mono ?_; rintro e W1 ⟨rfl, hx⟩; have HX := Lib.hid ((ext_box w _).trans hx); clear hx)
        go_ret
        refine ⟨ret_boolP (by first | (simp [partK]; done) | (simp [partK]; omega) | (simp [partK, c1, c2]; done)), ?_⟩
        first | exact HX.out | exact ext_box _ _
      by_cases k2 : k = 2
      · subst k2
        go_enter Tryz.func175, Tryz.ntmps175
        go_wp2_with (go_at_call 236; refine (hB _).out.mono ?_; rintro e W1 ⟨rfl, hx⟩; have HX := Lib.hid ((ext_box w _).trans hx); clear hx)
        go_ret
        refine ⟨ret_boolP (by first | (simp [partK]; done) | (simp [partK]; omega) | (simp [partK, c1, c2]; done)), ?_⟩
        first | exact HX.out | exact ext_box _ _
      by_cases k3 : k = 3
      · subst k3
        by_cases c1 : m = 0
        · go_enter Tryz.func175, Tryz.ntmps175
          go_wp2_with fail
          go_ret
          refine ⟨ret_boolP (by first | (simp [partK]; done) | (simp [partK]; omega) | (simp [partK, c1, c2]; done)), ?_⟩
          first | exact HX.out | exact ext_box _ _
        · go_enter Tryz.func175, Tryz.ntmps175
          go_wp2_with fail
          go_ret
          refine ⟨ret_boolP (by first | (simp [partK]; done) | (simp [partK]; omega) | (simp [partK, c1, c2]; done)), ?_⟩
          first | exact HX.out | exact ext_box _ _
      by_cases k4 : k = 4
      · subst k4
        by_cases c1 : 1 ≤ (m : Int)
        · by_cases c2 : (m : Int) ≤ 16
          · go_enter Tryz.func175, Tryz.ntmps175
            go_wp2_with fail
            go_ret
            refine ⟨ret_boolP (by first | (simp [partK]; done) | (simp [partK]; omega) | (simp [partK, c1, c2]; done)), ?_⟩
            first | exact HX.out | exact ext_box _ _
          · go_enter Tryz.func175, Tryz.ntmps175
            go_wp2_with fail
            go_ret
            refine ⟨ret_boolP (by first | (simp [partK]; done) | (simp [partK]; omega) | (simp [partK, c1, c2]; done)), ?_⟩
            first | exact HX.out | exact ext_box _ _
        · go_enter Tryz.func175, Tryz.ntmps175
          go_wp2_with fail
          go_ret
          refine ⟨ret_boolP (by first | (simp [partK]; done) | (simp [partK]; omega) | (simp [partK, c1, c2]; done)), ?_⟩
          first | exact HX.out | exact ext_box _ _
      have q1 : (k == 1) = false := by simpa using k1
      have q2 : (k == 2) = false := by simpa using k2
      have q3 : (k == 3) = false := by simpa using k3
      have q4 : (k == 4) = false := by simpa using k4
      go_enter Tryz.func175, Tryz.ntmps175
      go_wp2_with fail
      go_ret
      refine ⟨ret_boolP (by simp [partK, k1, k2, k3, k4]), ?_⟩
      exact ext_box _ _
    · by_cases k1 : k = 1
      · subst k1
        go_enter Tryz.func175, Tryz.ntmps175
        go_wp2_with (go_at_call 236; refine (hB _).out.mono ?_; rintro e W1 ⟨rfl, hx⟩; have HX := Lib.hid ((ext_box w _).trans hx); clear hx)
        go_ret
        refine ⟨ret_boolP (by first | (simp [partK]; done) | (simp [partK]; omega) | (simp [partK, c1, c2]; done)), ?_⟩
        first | exact HX.out | exact ext_box _ _
      by_cases k2 : k = 2
      · subst k2
        go_enter Tryz.func175, Tryz.ntmps175
        go_wp2_with (go_at_call 236; refine (hB _).out.mono ?_; rintro e W1 ⟨rfl, hx⟩; have HX := Lib.hid ((ext_box w _).trans hx); clear hx)
        go_ret
        refine ⟨ret_boolP (by first | (simp [partK]; done) | (simp [partK]; omega) | (simp [partK, c1, c2]; done)), ?_⟩
        first | exact HX.out | exact ext_box _ _
      by_cases k3 : k = 3
      · subst k3
        go_enter Tryz.func175, Tryz.ntmps175
        go_wp2_with fail
        go_ret
        refine ⟨ret_boolP (by first | (simp [partK]; done) | (simp [partK]; omega) | (simp [partK, c1, c2]; done)), ?_⟩
        first | exact HX.out | exact ext_box _ _
      by_cases k4 : k = 4
      · subst k4
        go_enter Tryz.func175, Tryz.ntmps175
        go_wp2_with fail
        go_ret
        refine ⟨ret_boolP (by first | (simp [partK]; done) | (simp [partK]; omega) | (simp [partK, c1, c2]; done)), ?_⟩
        first | exact HX.out | exact ext_box _ _
      have q1 : (k == 1) = false := by simpa using k1
      have q2 : (k == 2) = false := by simpa using k2
      have q3 : (k == 3) = false := by simpa using k3
      have q4 : (k == 4) = false := by simpa using k4
      go_enter Tryz.func175, Tryz.ntmps175
      go_wp2_with fail
      go_ret
      refine ⟨ret_boolP (by simp [partK, k1, k2, k3, k4]), ?_⟩
      exact ext_box _ _
  · have hn2 : (n == 0) = false := by simpa using hn
    by_cases k1 : k = 1
    · subst k1
      by_cases c1 : 0 ≤ n
      · by_cases c2 : n < 1073741824
        · go_enter Tryz.func175, Tryz.ntmps175
          go_wp2_with (go_at_call 236; refine (hB _).out.mono ?_; rintro e W1 ⟨rfl, hx⟩; have HX := Lib.hid ((ext_box w _).trans hx); clear hx)
          go_ret
          refine ⟨ret_boolP (by first | (simp [partK]; done) | (simp [partK]; omega) | (simp [partK, c1, c2]; done)), ?_⟩
          first | exact HX.out | exact ext_box _ _
        · go_enter Tryz.func175, Tryz.ntmps175
          go_wp2_with (go_at_call 236; refine (hB _).out.mono ?_; rintro e W1 ⟨rfl, hx⟩; have HX := Lib.hid ((ext_box w _).trans hx); clear hx)
          go_ret
          refine ⟨ret_boolP (by first | (simp [partK]; done) | (simp [partK]; omega) | (simp [partK, c1, c2]; done)), ?_⟩
          first | exact HX.out | exact ext_box _ _
      · go_enter Tryz.func175, Tryz.ntmps175
        go_wp2_with (go_at_call 236; refine (hB _).out.mono ?_; rintro e W1 ⟨rfl, hx⟩; have HX := Lib.hid ((ext_box w _).trans hx); clear hx)
        go_ret
        refine ⟨ret_boolP (by first | (simp [partK]; done) | (simp [partK]; omega) | (simp [partK, c1, c2]; done)), ?_⟩
        first | exact HX.out | exact ext_box _ _
    by_cases k2 : k = 2
    · subst k2
      by_cases c1 : -9007199254740991 ≤ n
      · by_cases c2 : n ≤ 9007199254740991
        · go_enter Tryz.func175, Tryz.ntmps175
          go_wp2_with (go_at_call 236; refine (hB _).out.mono ?_; rintro e W1 ⟨rfl, hx⟩; have HX := Lib.hid ((ext_box w _).trans hx); clear hx)
          go_ret
          refine ⟨ret_boolP (by first | (simp [partK]; done) | (simp [partK]; omega) | (simp [partK, c1, c2]; done)), ?_⟩
          first | exact HX.out | exact ext_box _ _
        · go_enter Tryz.func175, Tryz.ntmps175
          go_wp2_with (go_at_call 236; refine (hB _).out.mono ?_; rintro e W1 ⟨rfl, hx⟩; have HX := Lib.hid ((ext_box w _).trans hx); clear hx)
          go_ret
          refine ⟨ret_boolP (by first | (simp [partK]; done) | (simp [partK]; omega) | (simp [partK, c1, c2]; done)), ?_⟩
          first | exact HX.out | exact ext_box _ _
      · go_enter Tryz.func175, Tryz.ntmps175
        go_wp2_with (go_at_call 236; refine (hB _).out.mono ?_; rintro e W1 ⟨rfl, hx⟩; have HX := Lib.hid ((ext_box w _).trans hx); clear hx)
        go_ret
        refine ⟨ret_boolP (by first | (simp [partK]; done) | (simp [partK]; omega) | (simp [partK, c1, c2]; done)), ?_⟩
        first | exact HX.out | exact ext_box _ _
    by_cases k3 : k = 3
    · subst k3
      go_enter Tryz.func175, Tryz.ntmps175
      go_wp2_with fail
      go_ret
      refine ⟨ret_boolP (by first | (simp [partK]; done) | (simp [partK]; omega) | (simp [partK, c1, c2]; done)), ?_⟩
      first | exact HX.out | exact ext_box _ _
    by_cases k4 : k = 4
    · subst k4
      go_enter Tryz.func175, Tryz.ntmps175
      go_wp2_with fail
      go_ret
      refine ⟨ret_boolP (by first | (simp [partK]; done) | (simp [partK]; omega) | (simp [partK, c1, c2]; done)), ?_⟩
      first | exact HX.out | exact ext_box _ _
    have q1 : (k == 1) = false := by simpa using k1
    have q2 : (k == 2) = false := by simpa using k2
    have q3 : (k == 3) = false := by simpa using k3
    have q4 : (k == 4) = false := by simpa using k4
    go_enter Tryz.func175, Tryz.ntmps175
    go_wp2_with fail
    go_ret
    refine ⟨ret_boolP (by simp [partK, k1, k2, k3, k4]), ?_⟩
    exact ext_box _ _

end Go.Proofs.YtkenjhchfidpbaaGreatDoor
