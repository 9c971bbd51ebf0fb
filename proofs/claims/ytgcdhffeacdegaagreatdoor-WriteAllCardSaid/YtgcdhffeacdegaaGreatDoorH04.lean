/- Layers 6 and 11, plain: terms, whether they may be, and their texts. No program in sight. -/
import Derived.Test.YtgcdhffeacdegaaGreatDoorH02
import Derived.Test.YtgcdhffeacdegaaGreatDoorH03
import Derived.Lib.ItoaNum
import Derived.Shelf.Strings.Builder1
import Derived.Shelf.Small.Strs
import Derived.Shelf.Strings.BuilderF
import Derived.Shelf.Strings.BuilderK
import Derived.Shelf.Strconv.Itoa0
import Derived.Shelf.Strconv.Itoa1
import Derived.Shelf.LaysM
import Derived.Shelf.Strconv.Itoa2
import Derived.Shelf.Strconv.Itoa3
import Derived.Shelf.Strconv.ParseIntEmpty
import Derived.Shelf.Strconv.Clone
import Derived.Shelf.Strconv.SyntaxError
import Derived.Shelf.LaysC
import Derived.Shelf.Strconv.ToError
import Derived.Shelf.Strconv.Lower
import Derived.Shelf.Strconv.ParseUint10
import Derived.Shelf.Strconv.ParseUint10Empty
import Derived.Shelf.Strconv.ParseUint10Any
import Derived.Shelf.Strconv.ParseInt10
import Derived.Shelf.Strconv.RangeError
import Derived.Shelf.Strconv.ToErrorRange
import Derived.Shelf.Strconv.ParseUintEmpty
import Derived.Shelf.Strconv.ParseUint10b64
import Derived.Shelf.Strconv.ParseUint10b32
import Derived.Shelf.Strconv.ParseUint10b16
import Derived.Shelf.Strconv.ParseUint10b8
import Derived.Shelf.Strconv.ParseUint10At
import Derived.Shelf.Strconv.ParseInt10At64
import Derived.Shelf.Strconv.ParseInt10At32
import Derived.Shelf.Strconv.ParseInt10At16
import Derived.Shelf.Strconv.ParseInt10At8
import Derived.Shelf.Strconv.ParseInt10All
import Derived.Shelf.Strconv.ParseIntPublic10
import Derived.Shelf.Strconv.ErrVarParseInt
import Derived.Shelf.Strings.Search1
import Derived.Shelf.Strings.Prefix
import Derived.Shelf.Bytes.SlIndexSmall
import Derived.Shelf.Bytes.SlIndexAt
import Derived.Shelf.Bytes.SlSearch0
import Derived.Shelf.Bytes.SlSearch1
import Derived.Shelf.Bytes.SlSearch2
import Derived.Shelf.Bytes.SlIndexWhole
import Derived.Shelf.Bytes.SlSmallAll
import Derived.Shelf.Bytes.Small
import Derived.Shelf.Bytes.IndexByte
import Derived.Test.YtgcdhffeacdegaaGreatDoorProg
namespace Go.El
inductive Tm where
 | mk (k n : Int) (s : ByteArray) (l : List Tm)
def Tm.k : Tm → Int | .mk k _ _ _ => k
def Tm.n : Tm → Int | .mk _ n _ _ => n
def Tm.s : Tm → ByteArray | .mk _ _ s _ => s
def Tm.l : Tm → List Tm | .mk _ _ _ l => l
mutual
def szT : Tm → Nat
 | .mk _ _ _ l => 1 + szL l
def szL : List Tm → Nat
 | [] => 0
 | t :: r => szT t + szL r
end
mutual
def dpT : Tm → Nat
 | .mk _ _ _ l => 1 + dpL l
def dpL : List Tm → Nat
 | [] => 0
 | t :: r => max (dpT t) (dpL r)
end
def partK (k n : Int) (s : ByteArray) (m : Nat) : Bool :=
 if k = 1 then decide (0 ≤ n ∧ n < 1073741824 ∧ s.size = 0 ∧ m = 0)
 else if k = 2 then decide (-9007199254740991 ≤ n ∧ n ≤ 9007199254740991 ∧ s.size = 0 ∧ m = 0)
 else if k = 3 then decide (n = 0 ∧ s.size ≤ 64 ∧ m = 0)
 else if k = 4 then decide (n = 0 ∧ s.size ≤ 64 ∧ 1 ≤ m ∧ m ≤ 16)
 else false
mutual
def okT : Tm → Bool
 | .mk k n s l => partK k n s l.length && okL l
def okL : List Tm → Bool
 | [] => true
 | t :: r => okT t && okL r
end
def chkT (t : Tm) : Int := if okT t = false then 60 else if 200 < dpT t then 61 else if 4096 < szT t then 62 else 0
theorem szT_pos (t : Tm) : 1 ≤ szT t := by cases t; simp [szT]
theorem dpT_pos (t : Tm) : 1 ≤ dpT t := by cases t; simp [dpT]
theorem szL_get : ∀ {l : List Tm} {j : Nat} {t : Tm}, l[j]? = some t → szT t ≤ szL l
 | [], j, t, h => by simp at h
 | a :: r, 0, t, h => by
  simp at h
  subst h
  simp [szL]
 | a :: r, j + 1, t, h => by
  have := szL_get (l := r) (j := j) (t := t) (by simpa using h)
  simp only [szL]
  omega
theorem szT_lt {t u : Tm} {j : Nat} (h : t.l[j]? = some u) : szT u < szT t := by
 cases t with
 | mk k n s l =>
  have := szL_get h
  simp only [szT, Tm.l] at *
  omega
theorem szL_take : ∀ {l : List Tm} {j : Nat} {t : Tm}, l[j]? = some t → szL (l.take (j + 1)) = szL (l.take j) + szT t
 | [], j, t, h => by simp at h
 | a :: r, 0, t, h => by
  simp at h
  subst h
  simp [szL]
 | a :: r, j + 1, t, h => by
  have := szL_take (l := r) (j := j) (t := t) (by simpa using h)
  simp only [List.take_succ_cons, szL]
  rw [this]
  omega
theorem szL_take_le : ∀ (l : List Tm) (j : Nat), szL (l.take j) ≤ szL l
 | [], j => by simp [szL]
 | a :: r, 0 => by simp [szL]
 | a :: r, j + 1 => by
  have := szL_take_le r j
  simp only [List.take_succ_cons, szL]
  omega
theorem len_szL : ∀ l : List Tm, l.length ≤ szL l
 | [] => Nat.le_refl _
 | t :: l => by
  have := len_szL l
  have := szT_pos t
  simp only [List.length_cons, szL]
  omega
theorem dpL_get : ∀ {l : List Tm} {j : Nat} {t : Tm}, l[j]? = some t → dpT t ≤ dpL l
 | [], j, t, h => by simp at h
 | a :: r, 0, t, h => by
  simp at h
  subst h
  simp only [dpL]
  omega
 | a :: r, j + 1, t, h => by
  have := dpL_get (l := r) (j := j) (t := t) (by simpa using h)
  simp only [dpL]
  omega
theorem dpL_take : ∀ {l : List Tm} {j : Nat} {t : Tm}, l[j]? = some t → dpL (l.take (j + 1)) = max (dpL (l.take j)) (dpT t)
 | [], j, t, h => by simp at h
 | a :: r, 0, t, h => by
  simp at h
  subst h
  simp [dpL]
 | a :: r, j + 1, t, h => by
  have := dpL_take (l := r) (j := j) (t := t) (by simpa using h)
  simp only [List.take_succ_cons, dpL]
  rw [this]
  omega
theorem okL_take : ∀ {l : List Tm} {j : Nat} {t : Tm}, l[j]? = some t → okL (l.take (j + 1)) = (okL (l.take j) && okT t)
 | [], j, t, h => by simp at h
 | a :: r, 0, t, h => by
  simp at h
  subst h
  simp [okL]
 | a :: r, j + 1, t, h => by
  have := okL_take (l := r) (j := j) (t := t) (by simpa using h)
  simp only [List.take_succ_cons, okL]
  rw [this, Bool.and_assoc]
theorem okL_get : ∀ {l : List Tm} {j : Nat} {t : Tm}, okL l = true → l[j]? = some t → okT t = true
 | [], j, t, _, h => by simp at h
 | a :: r, 0, t, ho, h => by
  simp at h
  subst h
  simp only [okL, Bool.and_eq_true] at ho
  exact ho.1
 | a :: r, j + 1, t, ho, h => by
  simp only [okL, Bool.and_eq_true] at ho
  exact okL_get (l := r) (j := j) ho.2 (by simpa using h)
def mayT (t : Tm) : Bool := chkT t == 0
theorem mayT_iff {t : Tm} : mayT t = true ↔ okT t = true ∧ dpT t ≤ 200 ∧ szT t ≤ 4096 := by
 unfold mayT chkT
 cases okT t
 ·simp
 ·by_cases h1 : 200 < dpT t
  ·simp [h1]; omega
  ·by_cases h2 : 4096 < szT t
   ·simp [h1, h2]
   ·simp [h1, h2]; omega
theorem mayT_get {t u : Tm} {j : Nat} (ht : mayT t = true) (h : t.l[j]? = some u) : mayT u = true := by
 obtain ⟨h1, h2, h3⟩ := mayT_iff.1 ht
 have hlt := szT_lt h
 cases t with
 | mk k n s l =>
  simp only [Tm.l] at h
  simp only [okT, Bool.and_eq_true] at h1
  have hd := dpL_get h
  simp only [dpT] at h2
  exact mayT_iff.2 ⟨okL_get h1.2 h, by omega, by omega⟩
def isLs (k : Int) (s : ByteArray) (m : Nat) : Bool := decide (k = 4 ∧ s.data.toList = [46] ∧ m = 2)
mutual
def itT : Tm → List Tm
 | .mk k _ s l => if isLs k s l.length then itL l else []
def itL : List Tm → List Tm
 | [] => []
 | a :: r => a :: itR r
def itR : List Tm → List Tm
 | [] => []
 | b :: _ => itT b
end
mutual
def tlT : Tm → Tm
 | .mk k n s l => if isLs k s l.length then tlL l else .mk k n s l
def tlL : List Tm → Tm
 | [] => .mk 0 0 ⟨#[]⟩ []
 | _ :: r => tlR r
def tlR : List Tm → Tm
 | [] => .mk 0 0 ⟨#[]⟩ []
 | b :: _ => tlT b
end
mutual
theorem itT_len : ∀ t : Tm, (itT t).length < szT t
 | .mk k n s l => by
  have := itL_len l
  simp only [itT, szT]
  split
  ·omega
  ·simp only [List.length_nil]; omega
theorem itL_len : ∀ l : List Tm, (itL l).length ≤ szL l
 | [] => by simp [itL]
 | a :: r => by
  have := itR_len r
  have := szT_pos a
  simp only [itL, szL, List.length_cons]
  omega
theorem itR_len : ∀ l : List Tm, (itR l).length ≤ szL l
 | [] => by simp [itR]
 | b :: r => by
  have := itT_len b
  simp only [itR, szL]
  omega
end
abbrev OpsV := Option (List OpV × List OpV)
def isOp (o : OpsV) (s : ByteArray) : Bool := match o with
 | none => false
 | some (I, Q) => (findO s I).isSome || (findO s Q).isSome
def isBraces (s : ByteArray) (m : Nat) : Bool := decide (s.data.toList = [123, 125] ∧ m = 1)
def isMinus (s : ByteArray) (l : List Tm) : Bool := s.data.toList == [45] && (l.head?.map Tm.k == some 2)
def oprK (I Q : List OpV) (k : Int) (s : ByteArray) (l : List Tm) : Option OpV :=
 if k ≠ 4 ∨ (s.data.toList = [46] ∧ l.length = 2) ∨ (s.data.toList = [123, 125] ∧ l.length = 1) then none
 else if l.length = 2 then findO s I
 else if l.length = 1 ∧ isMinus s l = false then findO s Q
 else none
def oprT (I Q : List OpV) (t : Tm) : Option OpV := oprK I Q t.k t.s t.l
def brk (b : Bool) (x : List UInt8) : List UInt8 := if b then [40] ++ x ++ [41] else x
def bareT (o : OpsV) (t : Tm) : Bool := (t.k == 3 && isOp o t.s) || (t.k == 2 && decide (t.n < 0))
def besF (o : OpsV) (l : List Tm) (x : List UInt8) : List UInt8 := brk ((l.head?.map (bareT o)).getD false) x
def midF (s : ByteArray) : List UInt8 := if s.data.toList = [44] then [44, 32] else [32] ++ quoF s.data.toList ++ [32]
def leftF (I Q : List OpV) (p : OpV) (l : List Tm) : Int := match l.head?.bind (oprT I Q) with
 | none => leftI p.p p.t
 | some x => if p.p ≤ rightI x.p x.t then 0 else leftI p.p p.t
def operF (I Q : List OpV) (k : Int) (s : ByteArray) (l : List Tm) (most : Int) (a0 a1 : Int → List UInt8) : Option (List UInt8) :=
 if isBraces s l.length then some ([123] ++ a0 1200 ++ [125])
 else match oprK I Q k s l with
  | none => none
  | some p =>
   if l.length = 2 then some (brk (decide (most < p.p)) (besF (some (I, Q)) l (a0 (leftF I Q p l)) ++ midF s ++ besF (some (I, Q)) l.tail (a1 (rightI p.p p.t))))
   else some (brk (decide (most < p.p)) (quoF s.data.toList ++ [32] ++ besF (some (I, Q)) l (a0 (rightI p.p p.t))))
def hdF (o : OpsV) (k n : Int) (s : ByteArray) (l : List Tm) (most : Int) (row : List UInt8) (a0 a1 : Int → List UInt8) : List UInt8 :=
 if k = 1 then [95] ++ Lib.itoa n
 else if k = 2 then Lib.itoa n
 else if k = 3 then quoF s.data.toList
 else match o.bind (fun q => operF q.1 q.2 k s l most a0 a1) with
  | some x => x
  | none => quoF s.data.toList ++ [40] ++ row ++ [41]
mutual
def txT (o : OpsV) : Tm → Int → List UInt8
 | .mk k n s l => fun most => if isLs k s l.length then [91] ++ lsT o l else hdF o k n s l most (rwT o l) (a0T o l) (a1T o l)
def lsT (o : OpsV) : List Tm → List UInt8
 | [] => []
 | a :: r => txT o a 999 ++ lrT o r
def lrT (o : OpsV) : List Tm → List UInt8
 | [] => []
 | b :: _ => endT o b
def endT (o : OpsV) : Tm → List UInt8
 | .mk k n s l => if isLs k s l.length then [44] ++ lsT o l else if k = 3 ∧ s.data.toList = [91, 93] then [93] else [124] ++ hdF o k n s l 999 (rwT o l) (a0T o l) (a1T o l) ++ [93]
def rwT (o : OpsV) : List Tm → List UInt8
 | [] => []
 | a :: r => txT o a 999 ++ rrT o r
def rrT (o : OpsV) : List Tm → List UInt8
 | [] => []
 | a :: r => [44] ++ txT o a 999 ++ rrT o r
def a0T (o : OpsV) : List Tm → Int → List UInt8
 | [] => fun _ => []
 | a :: _ => fun m => txT o a m
def a1T (o : OpsV) : List Tm → Int → List UInt8
 | [] => fun _ => []
 | _ :: r => fun m => a0T o r m
end
theorem rwT_take (o : OpsV) : ∀ {l : List Tm} {j : Nat} {t : Tm}, l[j]? = some t → rwT o (l.take (j + 1)) = rwT o (l.take j) ++ (if j = 0 then [] else [44]) ++ txT o t 999 := by
 have key : ∀ {l : List Tm} {j : Nat} {t : Tm}, l[j]? = some t → rrT o (l.take (j + 1)) = rrT o (l.take j) ++ [44] ++ txT o t 999 := by
  intro l
  induction l with
  | nil => intro j t h; simp at h
  | cons a r ih =>
   intro j t h
   cases j with
   | zero =>
    simp at h
    subst h
    simp [rrT]
   | succ j =>
    have := ih (j := j) (t := t) (by simpa using h)
    simp only [List.take_succ_cons, rrT]
    rw [this]
    simp
 intro l j t h
 cases l with
 | nil => simp at h
 | cons a r =>
  cases j with
  | zero =>
   simp at h
   subst h
   simp [rwT, rrT]
  | succ j =>
   have := key (l := r) (j := j) (t := t) (by simpa using h)
   simp only [List.take_succ_cons, rwT]
   rw [this]
   simp
end Go.El

/- Layer 10, plain: tokens as terms. No program in sight. -/
namespace Go.El
open Go.RowKit
inductive PR (α : Type) where
 | bad (r : List TokV)
 | ok (a : α) (r : List TokV) (ns : List ByteArray)
structure Ops where
 fi : ByteArray → Option OpV
 fp : ByteArray → Option OpV
def isPu (r : List TokV) (c : UInt8) : Bool := match r with
 | [] => false
 | t :: _ => decide (t.kind = 5) && decide (t.s.data.toList = [c])
def layB (r : List TokV) : Bool := match r with
 | [] => false
 | t :: _ => t.lay
def opensB (r : List TokV) : Bool := isPu r 40 && !layB r
def infixF (O : Ops) (r : List TokV) : Option OpV := match r with
 | [] => none
 | t :: _ => if t.kind = 1 ∨ isPu r 44 = true then O.fi t.s else none
def beginsB (O : Ops) (r : List TokV) : Bool := match r with
 | [] => false
 | t :: q => if t.kind = 2 ∨ t.kind = 3 ∨ t.kind = 4 then true
  else if t.kind = 5 then isPu r 40 || isPu r 91 || isPu r 123
  else if t.kind = 1 then !(O.fi t.s).isSome || (O.fp t.s).isSome || opensB q
  else false
def usB : ByteArray := ⟨#[95]⟩
def varI (s : ByteArray) (ns : List ByteArray) : Option Nat := if s = usB then none else ns.findIdx? (fun x => decide (x = s))
def varN (s : ByteArray) (ns : List ByteArray) : List ByteArray := match varI s ns with
 | some _ => ns
 | none => ns ++ [s]
def varT (s : ByteArray) (ns : List ByteArray) : Tm := match varI s ns with
 | some k => .mk 1 k ⟨#[]⟩ []
 | none => .mk 1 ns.length ⟨#[]⟩ []
def intT (n : Int) : Tm := .mk 2 n ⟨#[]⟩ []
def atomT (s : ByteArray) : Tm := .mk 3 0 s []
def compT (s : ByteArray) (l : List Tm) : Tm := if l = [] then atomT s else .mk 4 0 s l
def dotB : ByteArray := ⟨#[46]⟩
def nilB : ByteArray := ⟨#[91, 93]⟩
def curB : ByteArray := ⟨#[123, 125]⟩
def minB : ByteArray := ⟨#[45]⟩
def listT (items : List Tm) (tail : Tm) : Tm := items.foldr (fun x t => .mk 4 0 dotB [x, t]) tail
def wantP {α : Type} (c : UInt8) (a : α) (r : List TokV) (ns : List ByteArray) : PR α := if isPu r c then .ok a r.tail ns else .bad r
def numB (r : List TokV) : Bool := match r with
 | [] => false
 | t :: _ => decide (t.kind = 4) && !t.lay
def headN (r : List TokV) : Int := match r with
 | [] => 0
 | t :: _ => t.n
mutual
def termN (O : Ops) : Nat → Int → List TokV → List ByteArray → PR Tm
 | 0, _, r, _ => .bad r
 | n + 1, most, r, ns => match operN O n most r ns with
  | .bad q => .bad q
  | .ok (t, p) q ms => loopN O n most t p q ms
def loopN (O : Ops) : Nat → Int → Tm → Int → List TokV → List ByteArray → PR Tm
 | 0, _, _, _, r, _ => .bad r
 | n + 1, most, t, p, r, ns => match infixF O r with
  | none => .ok t r ns
  | some o => if most < o.p ∨ leftI o.p o.t < p then .ok t r ns
   else match termN O n (rightI o.p o.t) r.tail ns with
    | .bad q => .bad q
    | .ok u q ms => loopN O n most (.mk 4 0 o.s [t, u]) o.p q ms
def operN (O : Ops) : Nat → Int → List TokV → List ByteArray → PR (Tm × Int)
 | 0, _, r, _ => .bad r
 | _ + 1, _, [], _ => .bad []
 | n + 1, most, t :: r, ns =>
  if t.kind = 5 then bracN O n t r ns
  else if t.kind = 6 then .bad (t :: r)
  else if t.kind = 4 then .ok (intT t.n, 0) r ns
  else if t.kind = 3 then .ok (varT t.s ns, 0) r (varN t.s ns)
  else if t.kind = 2 then namedN O n t.s r ns
  else signN O n t.s most r ns
def bracN (O : Ops) : Nat → TokV → List TokV → List ByteArray → PR (Tm × Int)
 | 0, t, r, _ => .bad (t :: r)
 | n + 1, t, r, ns =>
  if t.s.data.toList = [40] then (match termN O n 1200 r ns with
   | .bad q => .bad q
   | .ok u q ms => wantP 41 (u, 0) q ms)
  else if t.s.data.toList = [91] then
   (if isPu r 93 then namedN O n nilB r.tail ns
    else match rowN O n false [] r ns with
    | .bad q => .bad q
    | .ok l q ms => if isPu q 124 then (match termN O n 999 q.tail ms with
      | .bad q2 => .bad q2
      | .ok u q2 m2 => wantP 93 (listT l u, 0) q2 m2)
     else wantP 93 (listT l (atomT nilB), 0) q ms)
  else if t.s.data.toList = [123] then
   (if isPu r 125 then namedN O n curB r.tail ns
    else match termN O n 1200 r ns with
    | .bad q => .bad q
    | .ok u q ms => wantP 125 (compT curB [u], 0) q ms)
  else .bad (t :: r)
def namedN (O : Ops) : Nat → ByteArray → List TokV → List ByteArray → PR (Tm × Int)
 | 0, _, r, _ => .bad r
 | n + 1, s, r, ns => if opensB r then (match rowN O n true [] r.tail ns with
   | .bad q => .bad q
   | .ok l q ms => wantP 41 (compT s l, 0) q ms)
  else .ok (atomT s, 0) r ns
def rowN (O : Ops) : Nat → Bool → List Tm → List TokV → List ByteArray → PR (List Tm)
 | 0, _, _, r, _ => .bad r
 | n + 1, lim, acc, r, ns => match termN O n 999 r ns with
  | .bad q => .bad q
  | .ok u q ms => if isPu q 44 then (if lim = true ∧ 16 ≤ acc.length + 1 then .bad q else rowN O n lim (acc ++ [u]) q.tail ms)
   else .ok (acc ++ [u]) q ms
def signN (O : Ops) : Nat → ByteArray → Int → List TokV → List ByteArray → PR (Tm × Int)
 | 0, _, _, r, _ => .bad r
 | n + 1, s, most, r, ns =>
  if opensB r then namedN O n s r ns
  else if s = minB ∧ numB r = true then .ok (intT (-headN r), 0) r.tail ns
  else match O.fp s with
   | none => .ok (atomT s, 0) r ns
   | some o => if o.p ≤ most ∧ beginsB O r = true then (match termN O n (rightI o.p o.t) r ns with
     | .bad q => .bad q
     | .ok u q ms => .ok (compT s [u], o.p) q ms)
    else .ok (atomT s, 0) r ns
end
def ctoksN : Nat → List UInt8 → Nat → List TokV → Except (Nat × Int) (List TokV × Nat)
 | 0, _, i, _ => .error (i, 4)
 | n + 1, B, i, acc => match scanS B i with
  | (t, e, x) => if x = 4 ∧ acc ≠ [] then .error (e, 101)
   else if x ≠ 0 then .error (e, x)
   else if t.kind = 6 then .ok (acc ++ [t], e)
   else ctoksN n B e (acc ++ [t])
def ctoks (B : List UInt8) (i : Nat) : Except (Nat × Int) (List TokV × Nat) := ctoksN (B.length + 1 - i) B i []
structure ReadV where
 t : Tm
 ns : List ByteArray
 nx : Int
def zeroR : ReadV := ⟨.mk 0 0 ⟨#[]⟩ [], [], 0⟩
def headA (r : List TokV) : Int := match r with
 | [] => 0
 | t :: _ => t.at_
def readT (O : Ops) (l : List TokV) (e : Nat) : ReadV × Int × Int :=
 match termN O (5 * l.length + 5) 1200 l [] with
 | .bad q => (zeroR, headA q, 100)
 | .ok t q ns => if (q.map TokV.kind).head? = some 6 then (if chkT t = 0 then (⟨t, ns, e⟩, e, 0) else (zeroR, headA l, chkT t)) else (zeroR, headA q, 100)
def clauseS (O : Ops) (B : List UInt8) (i : Nat) : ReadV × Int × Int := match ctoks B i with
 | .error (e, x) => (zeroR, e, x)
 | .ok (l, e) => readT O l e
end Go.El

/- Contracts of the library at this program, laid in plain words. -/
namespace Go.Proofs.YtgcdhffeacdegaaGreatDoor
open Go.Shelf Go.Proofs
def Tryz.laysM171_ren : Go.Shelf.Ren := ⟨fun | 171 => 118 | 243 => 153 | 246 => 173 | 283 => 188 | 284 => 189 | 285 => 190 | 286 => 191 | 129 => 205 | 317 => 204 | 318 => 206 | 319 => 207 | 320 => 208 | 337 => 214 | 338 => 215 | n => n, fun | 3 => 3 | 9 => 9 | 2 => 2 | 4 => 4 | 171 => 201 | 0 => 0 | 53 => 194 | 37 => 23 | 5 => 5 | 173 => 204 | 212 => 218 | 51 => 207 | 20 => 20 | 213 => 219 | 46 => 196 | 232 => 229 | 233 => 230 | n => n, fun | 17 => 2 | 18 => 5 | 19 => 6 | n => n⟩
theorem Tryz.laysM171 : Go.Proofs.LaysM.n171 Tryz.prog Tryz.laysM171_ren := {
 mixed := by kernel_rfl
 f129 := Tryz.func205.trans (congrArg some (by kernel_rfl))
 f171 := Tryz.func118.trans (congrArg some (by kernel_rfl))
 f243 := Tryz.func153.trans (congrArg some (by kernel_rfl))
 f246 := Tryz.func173.trans (congrArg some (by kernel_rfl))
 f283 := Tryz.func188.trans (congrArg some (by kernel_rfl))
 f284 := Tryz.func189.trans (congrArg some (by kernel_rfl))
 f285 := Tryz.func190.trans (congrArg some (by kernel_rfl))
 f286 := Tryz.func191.trans (congrArg some (by kernel_rfl))
 f317 := Tryz.func204.trans (congrArg some (by kernel_rfl))
 f318 := Tryz.func206.trans (congrArg some (by kernel_rfl))
 f319 := Tryz.func207.trans (congrArg some (by kernel_rfl))
 f320 := Tryz.func208.trans (congrArg some (by kernel_rfl))
 f337 := Tryz.func214.trans (congrArg some (by kernel_rfl))
 f338 := Tryz.func215.trans (congrArg some (by kernel_rfl))
 t0 := Tryz.underlying0
 a0 := Tryz.isAgg0
 z0 := Tryz.sizeOf0
 v0 := Tryz.zeroValue0
 t2 := Tryz.underlying2
 a2 := Tryz.isAgg2
 z2 := Tryz.sizeOf2
 v2 := Tryz.zeroValue2
 t3 := Tryz.underlying3
 a3 := Tryz.isAgg3
 z3 := Tryz.sizeOf3
 v3 := Tryz.zeroValue3
 t4 := Tryz.underlying4
 a4 := Tryz.isAgg4
 z4 := Tryz.sizeOf4
 v4 := Tryz.zeroValue4
 t5 := Tryz.underlying5
 a5 := Tryz.isAgg5
 z5 := Tryz.sizeOf5
 v5 := Tryz.zeroValue5
 t9 := Tryz.underlying9
 a9 := Tryz.isAgg9
 z9 := Tryz.sizeOf9
 v9 := Tryz.zeroValue9
 t20 := Tryz.underlying20
 a20 := Tryz.isAgg20
 z20 := Tryz.sizeOf20
 v20 := Tryz.zeroValue20
 t37 := Tryz.underlying23
 a37 := Tryz.isAgg23
 z37 := Tryz.sizeOf23
 v37 := Tryz.zeroValue23
 t46 := Tryz.underlying196
 a46 := Tryz.isAgg196
 z46 := Tryz.sizeOf196
 v46 := Tryz.zeroValue196
 t51 := Tryz.underlying207
 a51 := Tryz.isAgg207
 z51 := Tryz.sizeOf207
 v51 := Tryz.zeroValue207
 t53 := Tryz.underlying194
 a53 := Tryz.isAgg194
 z53 := Tryz.sizeOf194
 v53 := Tryz.zeroValue194
 t171 := Tryz.underlying201
 a171 := Tryz.isAgg201
 z171 := Tryz.sizeOf201
 v171 := Tryz.zeroValue201
 t173 := Tryz.underlying204
 a173 := Tryz.isAgg204
 z173 := Tryz.sizeOf204
 v173 := Tryz.zeroValue204
 t212 := Tryz.underlying218
 a212 := Tryz.isAgg218
 z212 := Tryz.sizeOf218
 v212 := Tryz.zeroValue218
 t213 := Tryz.underlying219
 a213 := Tryz.isAgg219
 z213 := Tryz.sizeOf219
 t232 := Tryz.underlying229
 a232 := Tryz.isAgg229
 z232 := Tryz.sizeOf229
 v232 := Tryz.zeroValue229
 t233 := Tryz.underlying230
 a233 := Tryz.isAgg230
 z233 := Tryz.sizeOf230
 v233 := Tryz.zeroValue230
 g17 := by kernel_rfl
 g18 := by kernel_rfl
 g19 := by kernel_rfl
 i0 := by kernel_rfl
 i2 := by kernel_rfl
 i3 := by kernel_rfl
 i4 := by kernel_rfl
 i5 := by kernel_rfl
 i9 := by kernel_rfl
 i20 := by kernel_rfl
 i37 := by kernel_rfl
 i46 := by kernel_rfl
 i51 := by kernel_rfl
 i53 := by kernel_rfl
 i171 := by kernel_rfl
 i173 := by kernel_rfl
 i212 := by kernel_rfl
 i232 := by kernel_rfl
 i233 := by kernel_rfl
 m17 := by kernel_rfl
 m18 := by kernel_rfl
 m19 := by kernel_rfl }
open Go.RowKit Go.Sort Go.Lib in
theorem Tryz.strconv_Itoa (n : Int) (h0 : -9223372036854775808 ≤ n) (h1 : n ≤ 9223372036854775807) (w : World) (htab : Lib.TabIs Tryz.prog w "internal/strconv.uint64pow10" .u64 Lib.pow10Tab) :
  Calls Tryz.prog 118 #[.int .i64 n] w fun e w' => e = .returned (.string ⟨(Lib.itoa n).toArray⟩) ∧ ∃ k os, w' = grow (w.drewN k) os := Any.strconv_Itoa Tryz.laysM171 n h0 h1 w htab
def Tryz.lays321_ren : Go.Shelf.Ren := ⟨fun | 321 => 210 | n => n, fun | 5 => 5 | n => n, fun | n => n⟩
theorem Tryz.lays321 : Go.Proofs.Lays.n321 Tryz.prog Tryz.lays321_ren := {
 mixed := by kernel_rfl
 f321 := Tryz.func210.trans (congrArg some (by kernel_rfl))
 t5 := Tryz.underlying5
 a5 := Tryz.isAgg5
 z5 := Tryz.sizeOf5
 v5 := Tryz.zeroValue5 }
open Go.RowKit in
theorem Tryz.internal_strconv_lower (c : Int) (w : World) :
  Calls Tryz.prog 210 #[.int .u8 c] w fun e w' => e = .returned (.int .u8 (bits .or .u8 c 32)) ∧ w' = w := Any.internal_strconv_lower Tryz.lays321 c w
def Tryz.laysC174_ren : Go.Shelf.Ren := ⟨fun | 174 => 166 | 247 => 184 | 245 => 185 | 287 => 197 | 279 => 198 | 280 => 199 | 281 => 200 | 282 => 201 | 321 => 210 | 322 => 211 | 316 => 212 | 171 => 118 | 205 => 213 | 243 => 153 | 246 => 173 | 283 => 188 | 284 => 189 | 285 => 190 | 286 => 191 | 129 => 205 | 317 => 204 | 318 => 206 | 319 => 207 | 320 => 208 | 337 => 214 | 338 => 215 | n => n, fun | 9 => 9 | 3 => 3 | 2 => 2 | 75 => 127 | 85 => 187 | 4 => 4 | 167 => 210 | 5 => 5 | 53 => 194 | 175 => 211 | 46 => 196 | 168 => 213 | 37 => 23 | 0 => 0 | 210 => 223 | 21 => 21 | 127 => 184 | 145 => 228 | 143 => 226 | 171 => 201 | 173 => 204 | 212 => 218 | 51 => 207 | 20 => 20 | 213 => 219 | 232 => 229 | 233 => 230 | 80 => 164 | n => n, fun | 15 => 3 | 16 => 4 | 17 => 2 | 18 => 5 | 19 => 6 | n => n⟩
theorem Tryz.laysC174 : Go.Proofs.LaysC.n174 Tryz.prog Tryz.laysC174_ren := {
 mixed := by kernel_rfl
 f129 := Tryz.func205.trans (congrArg some (by kernel_rfl))
 f171 := Tryz.func118.trans (congrArg some (by kernel_rfl))
 f174 := Tryz.func166.trans (congrArg some (by kernel_rfl))
 f205 := Tryz.func213.trans (congrArg some (by kernel_rfl))
 f243 := Tryz.func153.trans (congrArg some (by kernel_rfl))
 f245 := Tryz.func185.trans (congrArg some (by kernel_rfl))
 f246 := Tryz.func173.trans (congrArg some (by kernel_rfl))
 f247 := Tryz.func184.trans (congrArg some (by kernel_rfl))
 f279 := Tryz.func198.trans (congrArg some (by kernel_rfl))
 f280 := Tryz.func199.trans (congrArg some (by kernel_rfl))
 f281 := Tryz.func200.trans (congrArg some (by kernel_rfl))
 f282 := Tryz.func201.trans (congrArg some (by kernel_rfl))
 f283 := Tryz.func188.trans (congrArg some (by kernel_rfl))
 f284 := Tryz.func189.trans (congrArg some (by kernel_rfl))
 f285 := Tryz.func190.trans (congrArg some (by kernel_rfl))
 f286 := Tryz.func191.trans (congrArg some (by kernel_rfl))
 f287 := Tryz.func197.trans (congrArg some (by kernel_rfl))
 f316 := Tryz.func212.trans (congrArg some (by kernel_rfl))
 f317 := Tryz.func204.trans (congrArg some (by kernel_rfl))
 f318 := Tryz.func206.trans (congrArg some (by kernel_rfl))
 f319 := Tryz.func207.trans (congrArg some (by kernel_rfl))
 f320 := Tryz.func208.trans (congrArg some (by kernel_rfl))
 f321 := Tryz.func210.trans (congrArg some (by kernel_rfl))
 f322 := Tryz.func211.trans (congrArg some (by kernel_rfl))
 f337 := Tryz.func214.trans (congrArg some (by kernel_rfl))
 f338 := Tryz.func215.trans (congrArg some (by kernel_rfl))
 t0 := Tryz.underlying0
 a0 := Tryz.isAgg0
 z0 := Tryz.sizeOf0
 v0 := Tryz.zeroValue0
 t2 := Tryz.underlying2
 a2 := Tryz.isAgg2
 z2 := Tryz.sizeOf2
 v2 := Tryz.zeroValue2
 t3 := Tryz.underlying3
 a3 := Tryz.isAgg3
 z3 := Tryz.sizeOf3
 v3 := Tryz.zeroValue3
 t4 := Tryz.underlying4
 a4 := Tryz.isAgg4
 z4 := Tryz.sizeOf4
 v4 := Tryz.zeroValue4
 t5 := Tryz.underlying5
 a5 := Tryz.isAgg5
 z5 := Tryz.sizeOf5
 v5 := Tryz.zeroValue5
 t9 := Tryz.underlying9
 a9 := Tryz.isAgg9
 z9 := Tryz.sizeOf9
 v9 := Tryz.zeroValue9
 t20 := Tryz.underlying20
 a20 := Tryz.isAgg20
 z20 := Tryz.sizeOf20
 v20 := Tryz.zeroValue20
 t21 := Tryz.underlying21
 a21 := Tryz.isAgg21
 z21 := Tryz.sizeOf21
 v21 := Tryz.zeroValue21
 t37 := Tryz.underlying23
 a37 := Tryz.isAgg23
 z37 := Tryz.sizeOf23
 v37 := Tryz.zeroValue23
 t46 := Tryz.underlying196
 a46 := Tryz.isAgg196
 z46 := Tryz.sizeOf196
 v46 := Tryz.zeroValue196
 t51 := Tryz.underlying207
 a51 := Tryz.isAgg207
 z51 := Tryz.sizeOf207
 v51 := Tryz.zeroValue207
 t53 := Tryz.underlying194
 a53 := Tryz.isAgg194
 z53 := Tryz.sizeOf194
 v53 := Tryz.zeroValue194
 t75 := Tryz.underlying127
 a75 := Tryz.isAgg127
 z75 := Tryz.sizeOf127
 v75 := Tryz.zeroValue127
 t85 := Tryz.underlying187
 a85 := Tryz.isAgg187
 z85 := Tryz.sizeOf187
 v85 := Tryz.zeroValue187
 t127 := Tryz.underlying184
 a127 := Tryz.isAgg184
 z127 := Tryz.sizeOf184
 v127 := Tryz.zeroValue184
 t143 := Tryz.underlying226
 a143 := Tryz.isAgg226
 z143 := Tryz.sizeOf226
 v143 := Tryz.zeroValue226
 t145 := Tryz.underlying228
 a145 := Tryz.isAgg228
 z145 := Tryz.sizeOf228
 v145 := Tryz.zeroValue228
 t167 := Tryz.underlying210
 a167 := Tryz.isAgg210
 z167 := Tryz.sizeOf210
 v167 := Tryz.zeroValue210
 t168 := Tryz.underlying213
 a168 := Tryz.isAgg213
 z168 := Tryz.sizeOf213
 v168 := Tryz.zeroValue213
 t171 := Tryz.underlying201
 a171 := Tryz.isAgg201
 z171 := Tryz.sizeOf201
 v171 := Tryz.zeroValue201
 t173 := Tryz.underlying204
 a173 := Tryz.isAgg204
 z173 := Tryz.sizeOf204
 v173 := Tryz.zeroValue204
 t175 := Tryz.underlying211
 a175 := Tryz.isAgg211
 z175 := Tryz.sizeOf211
 v175 := Tryz.zeroValue211
 t210 := Tryz.underlying223
 a210 := Tryz.isAgg223
 z210 := Tryz.sizeOf223
 v210 := Tryz.zeroValue223
 t212 := Tryz.underlying218
 a212 := Tryz.isAgg218
 z212 := Tryz.sizeOf218
 v212 := Tryz.zeroValue218
 t213 := Tryz.underlying219
 a213 := Tryz.isAgg219
 z213 := Tryz.sizeOf219
 t232 := Tryz.underlying229
 a232 := Tryz.isAgg229
 z232 := Tryz.sizeOf229
 v232 := Tryz.zeroValue229
 t233 := Tryz.underlying230
 a233 := Tryz.isAgg230
 z233 := Tryz.sizeOf230
 v233 := Tryz.zeroValue230
 g15 := by kernel_rfl
 g16 := by kernel_rfl
 g17 := by kernel_rfl
 g18 := by kernel_rfl
 g19 := by kernel_rfl
 t80 := Tryz.underlying164
 a80 := Tryz.isAgg164
 z80 := Tryz.sizeOf164
 v80 := Tryz.zeroValue164
 i0 := by kernel_rfl
 i2 := by kernel_rfl
 i3 := by kernel_rfl
 i4 := by kernel_rfl
 i5 := by kernel_rfl
 i9 := by kernel_rfl
 i20 := by kernel_rfl
 i21 := by kernel_rfl
 i37 := by kernel_rfl
 i46 := by kernel_rfl
 i51 := by kernel_rfl
 i53 := by kernel_rfl
 i75 := by kernel_rfl
 i80 := by kernel_rfl
 i85 := by kernel_rfl
 i127 := by kernel_rfl
 i143 := by kernel_rfl
 i145 := by kernel_rfl
 i167 := by kernel_rfl
 i168 := by kernel_rfl
 i171 := by kernel_rfl
 i173 := by kernel_rfl
 i175 := by kernel_rfl
 i210 := by kernel_rfl
 i212 := by kernel_rfl
 i232 := by kernel_rfl
 i233 := by kernel_rfl
 m15 := by kernel_rfl
 m16 := by kernel_rfl
 m17 := by kernel_rfl
 m18 := by kernel_rfl
 m19 := by kernel_rfl
 c0 := by kernel_rfl
 c2 := by kernel_rfl
 c3 := by kernel_rfl
 c4 := by kernel_rfl
 c5 := by kernel_rfl
 c9 := by kernel_rfl
 c20 := by kernel_rfl
 c21 := by kernel_rfl
 c37 := by kernel_rfl
 c46 := by kernel_rfl
 c51 := by kernel_rfl
 c53 := by kernel_rfl
 c75 := by kernel_rfl
 c80 := by kernel_rfl
 c85 := by kernel_rfl
 c127 := by kernel_rfl
 c143 := by kernel_rfl
 c145 := by kernel_rfl
 c167 := by kernel_rfl
 c168 := by kernel_rfl
 c171 := by kernel_rfl
 c173 := by kernel_rfl
 c175 := by kernel_rfl
 c210 := by kernel_rfl
 c212 := by kernel_rfl
 c213 := by kernel_rfl
 c232 := by kernel_rfl
 c233 := by kernel_rfl }
open Go.RowKit in
theorem Tryz.strconv_ParseInt_10_at64_ok (s : ByteArray) (hmax : s.size ≤ 9223372036854775806) (v : Int) (h : Lib.parseIntB 64 s.data.toList = .ok v) (w : World) :
  Calls Tryz.prog 166 #[.string s, .int .i64 10, .int .i64 64] w fun e w' => e = .returned (.tuple #[.int .i64 v, .nilIface]) ∧ (w' = w ∨ ∃ t, w' = Lib.bytesWorld w 5 t) := Any.strconv_ParseInt_10_at64_ok Tryz.laysC174 s hmax v h w
open Go.RowKit in
def Tryz.lays185_ren : Go.Shelf.Ren := ⟨fun | 185 => 165 | 187 => 128 | 115 => 180 | 253 => 181 | 224 => 182 | 254 => 183 | 255 => 163 | 291 => 196 | n => n, fun | 37 => 23 | 3 => 3 | 4 => 4 | 0 => 0 | 5 => 5 | 46 => 196 | 9 => 9 | 146 => 208 | 51 => 207 | n => n, fun | 1 => 1 | n => n⟩
theorem Tryz.lays185 : Go.Proofs.Lays.n185 Tryz.prog Tryz.lays185_ren := {
 mixed := by kernel_rfl
 f115 := Tryz.func180.trans (congrArg some (by kernel_rfl))
 f185 := Tryz.func165.trans (congrArg some (by kernel_rfl))
 f187 := Tryz.func128.trans (congrArg some (by kernel_rfl))
 f224 := Tryz.func182.trans (congrArg some (by kernel_rfl))
 f253 := Tryz.func181.trans (congrArg some (by kernel_rfl))
 f254 := Tryz.func183.trans (congrArg some (by kernel_rfl))
 f255 := Tryz.func163.trans (congrArg some (by kernel_rfl))
 f291 := Tryz.func196.trans (congrArg some (by kernel_rfl))
 t0 := Tryz.underlying0
 a0 := Tryz.isAgg0
 z0 := Tryz.sizeOf0
 v0 := Tryz.zeroValue0
 t3 := Tryz.underlying3
 a3 := Tryz.isAgg3
 z3 := Tryz.sizeOf3
 v3 := Tryz.zeroValue3
 t4 := Tryz.underlying4
 a4 := Tryz.isAgg4
 z4 := Tryz.sizeOf4
 v4 := Tryz.zeroValue4
 t5 := Tryz.underlying5
 a5 := Tryz.isAgg5
 z5 := Tryz.sizeOf5
 v5 := Tryz.zeroValue5
 t9 := Tryz.underlying9
 a9 := Tryz.isAgg9
 z9 := Tryz.sizeOf9
 v9 := Tryz.zeroValue9
 t37 := Tryz.underlying23
 a37 := Tryz.isAgg23
 z37 := Tryz.sizeOf23
 v37 := Tryz.zeroValue23
 t46 := Tryz.underlying196
 a46 := Tryz.isAgg196
 z46 := Tryz.sizeOf196
 v46 := Tryz.zeroValue196
 t51 := Tryz.underlying207
 a51 := Tryz.isAgg207
 z51 := Tryz.sizeOf207
 v51 := Tryz.zeroValue207
 t146 := Tryz.underlying208
 a146 := Tryz.isAgg208
 z146 := Tryz.sizeOf208
 v146 := Tryz.zeroValue208
 g1 := by kernel_rfl }
def Tryz.lays187_ren : Go.Shelf.Ren := ⟨fun | 187 => 128 | 255 => 163 | n => n, fun | 37 => 23 | 5 => 5 | 3 => 3 | n => n, fun | n => n⟩
theorem Tryz.lays187 : Go.Proofs.Lays.n187 Tryz.prog Tryz.lays187_ren := {
 mixed := by kernel_rfl
 f187 := Tryz.func128.trans (congrArg some (by kernel_rfl))
 f255 := Tryz.func163.trans (congrArg some (by kernel_rfl))
 t3 := Tryz.underlying3
 a3 := Tryz.isAgg3
 z3 := Tryz.sizeOf3
 v3 := Tryz.zeroValue3
 t5 := Tryz.underlying5
 a5 := Tryz.isAgg5
 z5 := Tryz.sizeOf5
 v5 := Tryz.zeroValue5
 t37 := Tryz.underlying23
 a37 := Tryz.isAgg23
 z37 := Tryz.sizeOf23
 v37 := Tryz.zeroValue23 }
open Go.RowKit Go.Lib in
theorem Tryz.bytes_IndexByte_at (a : Addr) (n c : Nat) (xs : List Int) (cv : Int) (w : World) (hx : xs.length = n) (hc : ∀ i, i < n → w.cell? (a.add i) = some (.int .u8 (xs.getD i 0))) :
  Calls Tryz.prog 128 #[.slice (some a) n c, .int .u8 cv] w fun e w' => e = .returned (.int .i64 (Lib.indexByte (Lib.bytesOf xs) cv.toNat.toUInt8)) ∧ w' = w := Any.bytes_IndexByte_at Tryz.lays187 a n c xs cv w hx hc
open Go.Proofs Go.RowKit Go.Lib in
theorem Tryz.bytes_Index_at (a1 a2 : Addr) (n c1 k c2 : Nat) (xs ys : List Int) (m : Int) (w : World) (hx : xs.length = n) (hy : ys.length = k) (hr1 : ∀ x ∈ xs, 0 ≤ x ∧ x < 256) (hr2 : ∀ y ∈ ys, 0 ≤ y ∧ y < 256) (hc1 : ∀ i, i < n → w.cell? (a1.add i) = some (.int .u8 (xs.getD i 0))) (hc2 : ∀ i, i < k → w.cell? (a2.add i) = some (.int .u8 (ys.getD i 0))) (hcap : n ≤ c1) (hs : n < 4294967281) (hk : k ≤ 9223372036854775807) (hm : w.cell? ⟨1, 0, none⟩ = some (.int .i64 m)) :
  Calls Tryz.prog 165 #[.slice (some a1) n c1, .slice (some a2) k c2] w fun e w' => e = .returned (.int .i64 (Lib.index (Lib.bytesOf xs) (Lib.bytesOf ys))) ∧ ∃ q, w' = w.drewN q := Any.bytes_Index_at Tryz.lays185 a1 a2 n c1 k c2 xs ys m w hx hy hr1 hr2 hc1 hc2 hcap hs hk hm
def Tryz.laysnb116_ren : Go.Shelf.Ren := ⟨fun | 116 => 164 | 115 => 180 | n => n, fun | 37 => 23 | 4 => 4 | 3 => 3 | 9 => 9 | 5 => 5 | n => n, fun | n => n⟩
theorem Tryz.laysnb116 : Go.Proofs.Lays.nb116 Tryz.prog Tryz.laysnb116_ren := {
 mixed := by kernel_rfl
 f115 := Tryz.func180.trans (congrArg some (by kernel_rfl))
 f116 := Tryz.func164.trans (congrArg some (by kernel_rfl))
 t3 := Tryz.underlying3
 a3 := Tryz.isAgg3
 z3 := Tryz.sizeOf3
 v3 := Tryz.zeroValue3
 t4 := Tryz.underlying4
 a4 := Tryz.isAgg4
 z4 := Tryz.sizeOf4
 v4 := Tryz.zeroValue4
 t9 := Tryz.underlying9
 a9 := Tryz.isAgg9
 z9 := Tryz.sizeOf9
 v9 := Tryz.zeroValue9
 t37 := Tryz.underlying23
 a37 := Tryz.isAgg23
 z37 := Tryz.sizeOf23
 v37 := Tryz.zeroValue23
 t5 := Tryz.underlying5
 a5 := Tryz.isAgg5
 z5 := Tryz.sizeOf5
 v5 := Tryz.zeroValue5 }
theorem Tryz.bytes_HasPrefix_all (p1 p2 : Option Addr) (n c m d : Nat) (xs ys : List Int) (w : World) (hx : xs.length = n) (hy : ys.length = m) (hnc : n ≤ c) (h1 : Lib.BytesIn w p1 n xs) (h2 : Lib.BytesIn w p2 m ys) :
  Calls Tryz.prog 164 #[.slice p1 n c, .slice p2 m d] w fun e w' => e = .returned (.bool (Lib.hasPrefix (Lib.bytesOf xs) (Lib.bytesOf ys))) ∧ w' = w := Any.bytes_HasPrefix_all Tryz.laysnb116 p1 p2 n c m d xs ys w hx hy hnc h1 h2
end Go.Proofs.YtgcdhffeacdegaaGreatDoor
