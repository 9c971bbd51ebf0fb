/- Slices in memory: 'Src' (what is read), 'ownsRow' (what a call owns), of elements of any number of cells. append, as it goes. Over any program. -/
import Derived.Test.YtgcdhffeacdegaaGreatDoorG01
import Derived.Maps.AppendAt
namespace Go.El
open Go.RowKit

theorem addr_add_add (a : Addr) (i j : Nat) : (a.add i).add j = a.add (i + j) := by
  unfold Addr.add
  by_cases hi : i = 0 <;> by_cases hj : j = 0 <;> simp [hi, hj, Nat.add_assoc]
theorem addr_block (a : Addr) (i : Nat) : (a.add i).block = a.block := by
  unfold Addr.add
  split <;> rfl

/-- What a slice's first m elements (k cells each) hold. -/
def Src (w : World) (A : Option Addr) (m k : Nat) (xs : List Value) : Prop :=
  xs.length = m * k ∧ (0 < m → ∃ a, A = some a ∧ ∀ j u, xs[j]? = some u → w.cell? (a.add j) = some u)

section
variable {w w' : World} {A : Option Addr} {m k : Nat} {xs : List Value}
theorem Src.ext (h : Src w A m k xs) (he : Ext w w') : Src w' A m k xs :=
  ⟨h.1, fun hm => let ⟨a, ha, hc⟩ := h.2 hm; ⟨a, ha, fun j u hu => he.cell (hc j u hu)⟩⟩
theorem Src.mods {S : List Nat} (h : Src w A m k xs) (he : Mods S w w') (hS : ∀ a, A = some a → a.block ∉ S) : Src w' A m k xs :=
  ⟨h.1, fun hm => let ⟨a, ha, hc⟩ := h.2 hm; ⟨a, ha, fun j u hu => he.cell (hc j u hu) (by rw [addr_block]; exact hS a ha)⟩⟩
theorem Src.none (w : World) (A : Option Addr) (k : Nat) : Src w A 0 k [] := ⟨by simp, fun h => absurd h (by omega)⟩
theorem Src.at_ {b off : Nat} (h : Src w (some ⟨b, off, Option.none⟩) m k xs) (hm : 0 < m) {j : Nat} {u : Value} (hj : xs[j]? = some u) : w.cell? ⟨b, off + j, Option.none⟩ = some u := by
  obtain ⟨a, ha, hc⟩ := h.2 hm
  injection ha with ha
  subst ha
  have := hc j u hj
  rw [Addr.add_lit] at this
  exact this
theorem Src.take {n : Nat} (h : Src w A m k xs) (hn : n ≤ m) : Src w A n k (xs.take (n * k)) :=
  ⟨by rw [List.length_take, h.1]; exact Nat.min_eq_left (Nat.mul_le_mul_right k hn), fun h0 => let ⟨a, ha, hc⟩ := h.2 (by omega); ⟨a, ha, fun j u hu => hc j u (by
    rw [List.getElem?_take] at hu
    split at hu
    · exact hu
    · cases hu)⟩⟩
theorem Src.drop {n : Nat} {a : Addr} (h : Src w (some a) m k xs) (hn : n ≤ m) : Src w (some (a.add (n * k))) (m - n) k (xs.drop (n * k)) :=
  ⟨by rw [List.length_drop, h.1, Nat.sub_mul], fun h0 => by
    obtain ⟨a', ha, hc⟩ := h.2 (by omega)
    injection ha with ha
    subst ha
    exact ⟨_, rfl, fun j u hu => by rw [addr_add_add]; exact hc _ u (by rw [List.getElem?_drop] at hu; exact hu)⟩⟩

theorem Src.form {B : Option Addr} (h : Src w B m k xs) (hm : 0 < m) (hk : 0 < k) : ∃ b off, B = some ⟨b, off, Option.none⟩ ∧ ∀ j u, xs[j]? = some u → w.cell? ⟨b, off + j, Option.none⟩ = some u := by
  obtain ⟨a, rfl, hc⟩ := h.2 hm
  have hl : 0 < xs.length := by rw [h.1]; exact Nat.mul_pos hm hk
  have h0 := hc 0 xs[0] (List.getElem?_eq_getElem hl)
  have hs : a.spot = Option.none := by
    cases hsp : a.spot with
    | none => rfl
    | some x =>
      have e : a.add 0 = a := by simp [Addr.add]
      rw [e] at h0
      simp only [World.cell?, hsp] at h0
      split at h0 <;> simp at h0
  obtain ⟨b, off, sp⟩ := a
  simp at hs
  subst hs
  exact ⟨b, off, rfl, fun j u hu => by have := hc j u hu; rw [Addr.add_lit] at this; exact this⟩

theorem Src.new (w : World) (cs : Array Value) (t : TypeId) (m k : Nat) (h : cs.size = m * k) : Src (w.alloc (.cells cs t)) (some ⟨w.heap.size, 0, Option.none⟩) m k cs.toList :=
  ⟨by simpa using h, fun _ => ⟨_, rfl, fun j u hu => by
    rw [Addr.add_lit, Nat.zero_add, (Blk.new w t cs).cell]
    simpa using hu⟩⟩

/-- What is owned can be read. -/
theorem Src.of_own {base : Nat} {e : TypeId} {c : Nat} (h : w.ownsRow base e k (.slice A m c) m xs) : Src w A m k xs := by
  refine ⟨h.1, fun hm => ?_⟩
  rcases h.2 with ⟨hv, h0⟩ | ⟨g, cap, cur, hv, _⟩
  · omega
  · injection hv with hA _ _
    subst hA
    exact ⟨_, rfl, h.cells (g := g) rfl⟩

theorem own_value {base : Nat} {e : TypeId} {v : Value} (h : w.ownsRow base e k v m xs) : ∃ A c, v = .slice A m c := by
  rcases h.2 with ⟨hv, h0⟩ | ⟨g, cap, cur, hv, _⟩
  · exact ⟨Option.none, 0, by rw [hv, h0]⟩
  · exact ⟨_, _, hv⟩
end

/-- The blocks of an owned slice. -/
def ownL (v : Value) : List Nat := v.ownBlock.toList

theorem own_mods {w w' : World} {base : Nat} {e : TypeId} {k : Nat} {v : Value} {n : Nat} {xs : List Value} {S : List Nat} (h : w.ownsRow base e k v n xs) (hm : Mods S w w') (hS : ∀ b, v.ownBlock = some b → b ∉ S) : w'.ownsRow base e k v n xs := by
  refine ⟨h.1, ?_⟩
  rcases h.2 with h2 | ⟨g, cap, cur, hv, hg, hh, r⟩
  · exact .inl h2
  · exact .inr ⟨g, cap, cur, hv, hg, hm.heap hh (hS g (by rw [hv]; rfl)), r⟩
theorem own_ext {w w' : World} {base : Nat} {e : TypeId} {k : Nat} {v : Value} {n : Nat} {xs : List Value} (h : w.ownsRow base e k v n xs) (hm : Ext w w') : w'.ownsRow base e k v n xs := own_mods (S := []) h (Mods.ext hm) (by simp)
theorem own_lt {w : World} {base : Nat} {e : TypeId} {k : Nat} {v : Value} {n : Nat} {xs : List Value} (h : w.ownsRow base e k v n xs) {b : Nat} (hb : v.ownBlock = some b) : b < w.heap.size := (h.lt b hb).2
theorem grown_mods {w w' : World} {v : Value} (h : w.grownBy w' v.ownBlock) : Mods (ownL v) w w' :=
  ⟨h.os, h.tape, h.output, h.size, fun i hi hS => h.block i hi (fun e => hS (by simp [ownL, ← e]))⟩

/-- append, the source nil, empty or not. -/
theorem run_append_src {P : Program} (w : World) (t ty e : TypeId) (i : TypeInfo) (z : Value) (size bytes : Nat) (ht : P.underlying t = some (.slice e)) (hi : P.info? e = some i) (hz : i.zero = some z)
    (hsize : i.size = size) (hby : i.bytes = bytes) (hzs : z.cells.size = size) (hsz : 0 < size) (v : Value) (n : Nat) (xs : List Value) (hown : w.ownsRow 0 e size v n xs)
    (A : Option Addr) (m c : Nat) (news : List Value) (hs : Src w A m size news) (h1 : ∀ u ∈ news, u.oneCell' = true) (h63 : n + m ≤ maxLen) (hbytes : (n + m) * bytes ≤ 140737488355328) :
    ∃ v' w', (Builtin.append_ #[t, t] ty #[v, .slice A m c]).run P w = .ok v' w' ∧ w'.ownsRow 0 e size v' (n + m) (xs ++ news) ∧ Mods (ownL v) w w' ∧ (v'.ownBlock = v.ownBlock ∨ v'.ownBlock = some w.heap.size) := by
  rcases A with _ | a
  · have hm : m = 0 := by
      rcases Nat.eq_zero_or_pos m with h | h
      · exact h
      · obtain ⟨a, ha, _⟩ := hs.2 h
        cases ha
    subst hm
    have hnil : news = [] := List.eq_nil_of_length_eq_zero (by simpa using hs.1)
    subst hnil
    refine ⟨v, w, ?_, by simpa using hown, Mods.refl _ _, .inl rfl⟩
    rcases hown.2 with ⟨rfl, rfl⟩ | ⟨g, cap, cur, rfl, _, _, hnc, _⟩
    · simp [Builtin.append_, run_underlying ht, Go.sizeOf, typeInfo, hi, Builtin.lenOf, Builtin.firstCells]
    · simp [Builtin.append_, run_underlying ht, Go.sizeOf, typeInfo, hi, Builtin.lenOf, Builtin.firstCells, hnc, storeCells]
  · have hcells : ∀ j u, news[j]? = some u → w.cell? (a.add j) = some u := by
      intro j u hu
      rcases Nat.eq_zero_or_pos m with h | h
      · subst h
        have hnil : news = [] := List.eq_nil_of_length_eq_zero (by simpa using hs.1)
        subst hnil
        simp at hu
      · obtain ⟨a', ha, hc⟩ := hs.2 h
        injection ha with ha
        subst ha
        exact hc j u hu
    obtain ⟨v', w', hr, h2, h3, _, h5⟩ := run_append_own_at (P := P) w 0 t ty e i z size bytes ht hi hz hsize hby hzs hsz v n xs hown a m c news hs.1 hcells h1 h63 hbytes (Nat.zero_le _)
    exact ⟨v', w', hr, h2, grown_mods h3, h5⟩

theorem wpList_append_src {P : Program} {w : World} {ops : Array Oper} {rest : List Oper} {o : Oper} {a : Act} {Q : Exit → Act → World → Prop} (hgd : o.guard = none) (s x : Operand) (t : TypeId)
    (ho : o.op = .call { callee := .builtin .append, args := #[s, x], argTypes := #[t, t] })
    (e : TypeId) (i : TypeInfo) (z : Value) (size bytes : Nat) (ht : P.underlying t = some (.slice e)) (hi : P.info? e = some i) (hz : i.zero = some z)
    (hsize : i.size = size) (hby : i.bytes = bytes) (hzs : z.cells.size = size) (hsz : 0 < size) (v : Value) (hs : a.eval s = v) (A : Option Addr) (m c : Nat) (hx : a.eval x = .slice A m c)
    (n : Nat) (xs : List Value) (hown : w.ownsRow 0 e size v n xs) (news : List Value) (hr : Src w A m size news) (h1 : ∀ u ∈ news, u.oneCell' = true)
    (h63 : n + m ≤ maxLen) (hbytes : (n + m) * bytes ≤ 140737488355328)
    (h : ∀ v' w', w'.ownsRow 0 e size v' (n + m) (xs ++ news) → Mods (ownL v) w w' → (v'.ownBlock = v.ownBlock ∨ v'.ownBlock = some w.heap.size) → wpList P ops Q rest (a.put o.dst v') w') : wpList P ops Q (o :: rest) a w := by
  refine wpList_plain hgd fun K hK => ?_
  obtain ⟨v', w', hrun, h2, h3, h4⟩ := run_append_src (P := P) w t o.type e i z size bytes ht hi hz hsize hby hzs hsz v n xs hown A m c news hr h1 h63 hbytes
  unfold Oper.wp execOp
  simp only [ho, resolve, invoke, builtin, Sem.run_bind, Sem.run_pure, Result.andThen_ok, List.map_toArray, List.map_cons, List.map_nil, hs, hx, hrun]
  exact hK _ _ (h v' w' h2 h3 h4)

/-- The same, as one step of a region that draws its order. -/
theorem step_append_src {P : Program} {w : World} {ops : Array Oper} {o : Oper} {a : Act} {K : Act → World → Prop} {Q : Exit → Act → World → Prop} {E : Prop} (hgd : o.guard = none) (s x : Operand) (t : TypeId)
    (ho : o.op = .call { callee := .builtin .append, args := #[s, x], argTypes := #[t, t] })
    (e : TypeId) (i : TypeInfo) (z : Value) (size bytes : Nat) (ht : P.underlying t = some (.slice e)) (hi : P.info? e = some i) (hz : i.zero = some z)
    (hsize : i.size = size) (hby : i.bytes = bytes) (hzs : z.cells.size = size) (hsz : 0 < size) (v : Value) (hs : a.eval s = v) (A : Option Addr) (m c : Nat) (hx : a.eval x = .slice A m c)
    (n : Nat) (xs : List Value) (hown : w.ownsRow 0 e size v n xs) (news : List Value) (hr : Src w A m size news) (h1 : ∀ u ∈ news, u.oneCell' = true)
    (h63 : n + m ≤ maxLen) (hbytes : (n + m) * bytes ≤ 140737488355328)
    (h : ∀ v' w', w'.ownsRow 0 e size v' (n + m) (xs ++ news) → Mods (ownL v) w w' → (v'.ownBlock = v.ownBlock ∨ v'.ownBlock = some w.heap.size) → K (a.put o.dst v') w') :
    if Region.wanted o (yielded ops a.tmps) = true then Oper.wp P o a w K Q else E := by
  have hw : Region.wanted o (yielded ops a.tmps) = true := by simp [Region.wanted, hgd]
  rw [if_pos hw]
  obtain ⟨v', w', hrun, h2, h3, h4⟩ := run_append_src (P := P) w t o.type e i z size bytes ht hi hz hsize hby hzs hsz v n xs hown A m c news hr h1 h63 hbytes
  unfold Oper.wp execOp
  simp only [ho, resolve, invoke, builtin, Sem.run_bind, Sem.run_pure, Result.andThen_ok, List.map_toArray, List.map_cons, List.map_nil, hs, hx, hrun]
  exact h v' w' h2 h3 h4

/-- The cells of a list of things of k cells each. -/
def flat {α : Type} (enc : α → List Value) (l : List α) : List Value := l.flatMap enc
section
variable {α : Type} {enc : α → List Value} {k : Nat}
theorem flat_len (hk : ∀ x, (enc x).length = k) : ∀ l : List α, (flat enc l).length = l.length * k
  | [] => by simp [flat]
  | x :: l => by
    have ih := flat_len hk l
    simp only [flat] at ih
    simp [flat, hk, ih, Nat.add_mul, Nat.add_comm]
theorem flat_append (l m : List α) : flat enc (l ++ m) = flat enc l ++ flat enc m := by simp [flat]
theorem flat_at (hk : ∀ x, (enc x).length = k) : ∀ (l : List α) (i j : Nat) (x : α), l[i]? = some x → j < k → (flat enc l)[i * k + j]? = (enc x)[j]?
  | [], i, j, x, h, _ => by simp at h
  | y :: l, 0, j, x, h, hj => by
    simp at h
    subst h
    simp only [flat, List.flatMap_cons, Nat.zero_mul, Nat.zero_add]
    rw [List.getElem?_append_left (by rw [hk]; exact hj)]
  | y :: l, i + 1, j, x, h, hj => by
    have ih := flat_at hk l i j x (by simpa using h) hj
    simp only [flat] at ih
    simp only [flat, List.flatMap_cons]
    rw [List.getElem?_append_right (by rw [hk, Nat.add_mul]; omega), hk]
    have e : (i + 1) * k + j - k = i * k + j := by rw [Nat.add_mul]; omega
    rw [e]
    exact ih
theorem flat_take (hk : ∀ x, (enc x).length = k) : ∀ (l : List α) (n : Nat), (flat enc l).take (n * k) = flat enc (l.take n)
  | [], n => by simp [flat]
  | x :: l, 0 => by simp [flat]
  | x :: l, n + 1 => by
    have ih := flat_take hk l n
    simp only [flat] at ih
    simp only [flat, List.flatMap_cons, List.take_succ_cons]
    rw [List.take_append, hk, List.take_of_length_le (by rw [hk, Nat.add_mul]; omega)]
    have e : (n + 1) * k - k = n * k := by rw [Nat.add_mul]; omega
    rw [e, ih]
theorem flat_drop (hk : ∀ x, (enc x).length = k) : ∀ (l : List α) (n : Nat), (flat enc l).drop (n * k) = flat enc (l.drop n)
  | [], n => by simp [flat]
  | x :: l, 0 => by simp [flat]
  | x :: l, n + 1 => by
    have ih := flat_drop hk l n
    simp only [flat] at ih
    simp only [flat, List.flatMap_cons, List.drop_succ_cons]
    rw [List.drop_append, hk, List.drop_of_length_le (by rw [hk, Nat.add_mul]; omega)]
    have e : (n + 1) * k - k = n * k := by rw [Nat.add_mul]; omega
    rw [e, ih]; simp
theorem flat_one (h1 : ∀ x, ∀ u ∈ enc x, u.oneCell' = true) (l : List α) : ∀ u ∈ flat enc l, u.oneCell' = true := by
  intro u hu
  obtain ⟨x, _, hx⟩ := List.mem_flatMap.1 hu
  exact h1 x u hx
end

end Go.El

/- Layer 9 (oper): operators as data, and what the calls compute, as plain functions. No program in sight. -/
namespace Go.El
open Go.RowKit

structure OpV where
  p : Int
  t : Int
  s : ByteArray
  deriving DecidableEq

def opVal (o : OpV) : Value := .agg #[.int .i64 o.p, .int .i64 o.t, .string o.s]
def zeroO : OpV := ⟨0, 0, ⟨#[]⟩⟩
def preB (t : Int) : Bool := t == 4 || t == 5
def opsP (l : List OpV) : List (ByteArray × Value) := l.map fun o => (o.s, opVal o)
def findO (s : ByteArray) : List OpV → Option OpV
  | [] => none
  | o :: l => if o.s = s then some o else findO s l
def setO (o : OpV) : List OpV → List OpV
  | [] => [o]
  | q :: l => if q.s = o.s then o :: l else q :: setO o l
def delO (s : ByteArray) : List OpV → List OpV
  | [] => []
  | q :: l => if q.s = s then l else q :: delO s l

theorem findP_ops (s : ByteArray) : ∀ l, findP s (opsP l) = (findO s l).map opVal
  | [] => rfl
  | o :: l => by
    have ih := findP_ops s l
    simp only [opsP] at ih
    simp only [opsP, List.map_cons, findP, findO]
    split <;> simp [ih]
theorem setP_ops (o : OpV) : ∀ l, setP o.s (opVal o) (opsP l) = opsP (setO o l)
  | [] => rfl
  | q :: l => by
    have ih := setP_ops o l
    simp only [opsP] at ih
    simp only [opsP, List.map_cons, setP, setO]
    split <;> simp [ih]
theorem delP_ops (s : ByteArray) : ∀ l, delP s (opsP l) = opsP (delO s l)
  | [] => rfl
  | q :: l => by
    have ih := delP_ops s l
    simp only [opsP] at ih
    simp only [opsP, List.map_cons, delP, delO]
    split <;> simp [ih]

def tnameS (n : Int) : ByteArray :=
  if n = 1 then ⟨#[120, 102, 120]⟩ else if n = 2 then ⟨#[120, 102, 121]⟩ else if n = 3 then ⟨#[121, 102, 120]⟩ else if n = 4 then ⟨#[102, 121]⟩ else if n = 5 then ⟨#[102, 120]⟩ else ⟨#[]⟩
def mayB (p t : Int) : Bool := decide (1 ≤ p ∧ p ≤ 1200 ∧ 1 ≤ t ∧ t ≤ 5)
def leftI (p t : Int) : Int := if mayB p t = false ∨ preB t = true then 0 else if t = 3 then p else p - 1
def rightI (p t : Int) : Int := if mayB p t = false then 0 else if t = 2 ∨ t = 4 then p else p - 1
/-- What the package-level array of names holds. -/
structure TypesAt (g : Nat) (w : World) : Prop where
  h0 : w.cell? ⟨g, 0, none⟩ = some (.string ⟨#[]⟩)
  h1 : w.cell? ⟨g, 1, none⟩ = some (.string ⟨#[120, 102, 120]⟩)
  h2 : w.cell? ⟨g, 2, none⟩ = some (.string ⟨#[120, 102, 121]⟩)
  h3 : w.cell? ⟨g, 3, none⟩ = some (.string ⟨#[121, 102, 120]⟩)
  h4 : w.cell? ⟨g, 4, none⟩ = some (.string ⟨#[102, 121]⟩)
  h5 : w.cell? ⟨g, 5, none⟩ = some (.string ⟨#[102, 120]⟩)
theorem TypesAt.mods {g : Nat} {S : List Nat} {w w' : World} (h : TypesAt g w) (he : Mods S w w') (hS : g ∉ S) : TypesAt g w' :=
  ⟨he.cell h.h0 hS, he.cell h.h1 hS, he.cell h.h2 hS, he.cell h.h3 hS, he.cell h.h4 hS, he.cell h.h5 hS⟩
theorem TypesAt.ext {g : Nat} {w w' : World} (h : TypesAt g w) (he : Ext w w') : TypesAt g w' := h.mods (S := []) (Mods.ext he) (by simp)

theorem tname_yes {n : Int} (h : 1 ≤ n ∧ n ≤ 5) : (tnameS n).toList.isEmpty = false := by
  have hc : n = 1 ∨ n = 2 ∨ n = 3 ∨ n = 4 ∨ n = 5 := by omega
  rcases hc with rfl | rfl | rfl | rfl | rfl <;> rw [ByteArray.toList_eq] <;> decide
theorem tname_no {n : Int} (h : ¬ (1 ≤ n ∧ n ≤ 5)) : (tnameS n).toList.isEmpty = true := by
  have ht : tnameS n = ⟨#[]⟩ := by
    unfold tnameS
    rw [if_neg (by omega), if_neg (by omega), if_neg (by omega), if_neg (by omega), if_neg (by omega)]
  rw [ht, ByteArray.toList_eq]; rfl
theorem mayB_no {p t : Int} (h : ¬ (1 ≤ p ∧ p ≤ 1200 ∧ 1 ≤ t ∧ t ≤ 5)) : mayB p t = false := decide_eq_false h
theorem mayB_yes {p t : Int} (h : 1 ≤ p ∧ p ≤ 1200 ∧ 1 ≤ t ∧ t ≤ 5) : mayB p t = true := decide_eq_true h

/-- May an operator's numbers, its name not be? -/
def argBad (p t : Int) : Bool := decide (p < 0 ∨ 1200 < p ∨ ¬ (1 ≤ t ∧ t ≤ 5))
def nameBad (s : ByteArray) : Bool := !plainB s || decide (s = ⟨#[91, 93]⟩) || decide (s = ⟨#[123, 125]⟩) || decide (64 < s.size)
/-- What Set answers, and what it does: 0 nothing, 1 it takes the operator away, 2 it lays it. -/
def errI (o : OpV) (found : Bool) (len : Nat) : Int :=
  if argBad o.p o.t then 1 else if nameBad o.s then 90 else if o.p = 0 ∧ found = false then 4 else if o.p = 0 then 0 else if found = false ∧ 64 ≤ len then 2 else 0
def actI (o : OpV) (found : Bool) (len : Nat) : Nat :=
  if argBad o.p o.t then 0 else if nameBad o.s then 0 else if o.p = 0 ∧ found = false then 0 else if o.p = 0 then 1 else if found = false ∧ 64 ≤ len then 0 else 2
def doO (act : Nat) (o : OpV) (l : List OpV) : List OpV := if act = 1 then delO o.s l else if act = 2 then setO o l else l

/-- A table: its two maps. -/
structure TabAt (w : World) (tb m1 m2 : Nat) (I Q : List OpV) : Prop where
  c0 : w.cell? ⟨tb, 0, none⟩ = some (.map (some m1))
  c1 : w.cell? ⟨tb, 1, none⟩ = some (.map (some m2))
  ne : m1 ≠ m2
  mi : MapAt Value.string w m1 (opsP I)
  mq : MapAt Value.string w m2 (opsP Q)

theorem TabAt.ext {w w' : World} {tb m1 m2 : Nat} {I Q : List OpV} (h : TabAt w tb m1 m2 I Q) (he : Ext w w') : TabAt w' tb m1 m2 I Q :=
  ⟨he.cell h.c0, he.cell h.c1, h.ne, h.mi.ext he, h.mq.ext he⟩
theorem TabAt.mods {S : List Nat} {w w' : World} {tb m1 m2 : Nat} {I Q : List OpV} (h : TabAt w tb m1 m2 I Q) (he : Mods S w w') (h1 : tb ∉ S) (h2 : m1 ∉ S) (h3 : m2 ∉ S) : TabAt w' tb m1 m2 I Q :=
  ⟨he.cell h.c0 h1, he.cell h.c1 h1, h.ne, h.mi.mods he h2, h.mq.mods he h3⟩
theorem TabAt.tb1 {w : World} {tb m1 m2 : Nat} {I Q : List OpV} (h : TabAt w tb m1 m2 I Q) : tb ≠ m1 := h.mi.ne_cell h.c0
theorem TabAt.tb2 {w : World} {tb m1 m2 : Nat} {I Q : List OpV} (h : TabAt w tb m1 m2 I Q) : tb ≠ m2 := h.mq.ne_cell h.c0

/-- 'm[k]' and 'm[k], ok' at the operation. -/
theorem wpList_lookup_at {α : Type} [DecidableEq α] {kv : α → Value} {d : TypeDesc} {P : Program} {mty kt et : TypeId} (w : World) {ops : Array Oper} {rest : List Oper} {o : Oper} {a : Act} {Q : Exit → Act → World → Prop}
    (hg : o.guard = none) (mo xo : Operand) (ok : Bool) (hop : o.op = Op.lookup mty mo xo ok) (K : KeyKind kv d) (ht : P.underlying mty = some (.map kt et)) (hd : P.underlying kt = some d)
    (m : Nat) (hm : a.eval mo = .map (some m)) (k : α) (hx : a.eval xo = kv k) (z : Value) (hz : ∀ W, (zeroValue et).run P W = .ok z W) (ps : List (α × Value)) (hown : MapAt kv w m ps)
    (hK : wpList P ops Q rest (a.put o.dst (if ok then .tuple #[(findP k ps).getD z, .bool (findP k ps).isSome] else (findP k ps).getD z)) w) :
    wpList P ops Q (o :: rest) a w := by
  refine wpList_plain hg fun K' hK' => ?_
  have hrun := hown.run_lookup K ht hd (hz w) k ok
  unfold Oper.wp
  simp [execOp, hop, hm, hx, hrun, Result.andThen]
  exact hK' _ _ hK

def opCells (o : OpV) : List Value := [.int .i64 o.p, .int .i64 o.t, .string o.s]
theorem opCells_len (o : OpV) : (opCells o).length = 3 := rfl
theorem opCells_one (o : OpV) : ∀ u ∈ opCells o, u.oneCell' = true := by
  intro u hu
  simp [opCells] at hu
  rcases hu with rfl | rfl | rfl <;> rfl

/-- The place of an operator of a name and a kind. -/
def isR (s : ByteArray) (pre : Bool) (o : OpV) : Bool := decide (o.s = s) && (preB o.t == pre)
def idxR (s : ByteArray) (pre : Bool) (L : List OpV) : Option Nat := L.findIdx? (isR s pre)

theorem idxR_none {s : ByteArray} {pre : Bool} {L : List OpV} (h : ∀ j, j < L.length → ∀ o, L[j]? = some o → isR s pre o = false) : idxR s pre L = none := by
  unfold idxR
  rw [List.findIdx?_eq_none_iff]
  intro x hx
  obtain ⟨j, hj⟩ := List.mem_iff_getElem?.1 hx
  exact h j (List.getElem?_eq_some_iff.1 hj).1 x hj
theorem idxR_some {s : ByteArray} {pre : Bool} {L : List OpV} {k : Nat} {o : OpV} (ho : L[k]? = some o) (hk : isR s pre o = true) (h : ∀ j, j < k → ∀ o, L[j]? = some o → isR s pre o = false) : idxR s pre L = some k := by
  unfold idxR
  have hlt := (List.getElem?_eq_some_iff.1 ho).1
  rw [List.findIdx?_eq_some_iff_getElem]
  refine ⟨hlt, ?_, fun j hj => ?_⟩
  · have : L[k] = o := (List.getElem?_eq_some_iff.1 ho).2
    rw [this]; exact hk
  · have := h j hj L[j] (List.getElem?_eq_getElem (by omega))
    simp [this]

structure RefAt (e : TypeId) (w : World) (rb : Nat) (v : Value) (L : List OpV) : Prop where
  blk : ∃ t, Blk w rb t #[v]
  own : w.ownsRow 0 e 3 v L.length (flat opCells L)
  ne : v.ownBlock ≠ some rb

theorem RefAt.mods {e : TypeId} {w w' : World} {rb : Nat} {v : Value} {L : List OpV} {S : List Nat} (h : RefAt e w rb v L) (hm : Mods S w w') (h1 : rb ∉ S) (h2 : ∀ b, v.ownBlock = some b → b ∉ S) : RefAt e w' rb v L :=
  ⟨h.blk.imp fun _ hb => hb.mods hm h1, own_mods h.own hm h2, h.ne⟩
theorem RefAt.ext {e : TypeId} {w w' : World} {rb : Nat} {v : Value} {L : List OpV} (h : RefAt e w rb v L) (hm : Ext w w') : RefAt e w' rb v L := h.mods (S := []) (Mods.ext hm) (by simp) (by simp)
theorem RefAt.cell {e : TypeId} {w : World} {rb : Nat} {v : Value} {L : List OpV} (h : RefAt e w rb v L) : w.cell? ⟨rb, 0, none⟩ = some v := by
  obtain ⟨t, hb⟩ := h.blk
  exact hb.cell 0
/-- The shape of the slice, and of each of its elements. -/
theorem RefAt.form {e : TypeId} {w : World} {rb : Nat} {v : Value} {L : List OpV} (h : RefAt e w rb v L) : (v = .slice none 0 0 ∧ L = []) ∨ ∃ g c, v = .slice (some ⟨g, 0, none⟩) L.length c ∧
    ∀ k o, L[k]? = some o → w.cell? ⟨g, k * 3, none⟩ = some (.int .i64 o.p) ∧ w.cell? ⟨g, k * 3 + 1, none⟩ = some (.int .i64 o.t) ∧ w.cell? ⟨g, k * 3 + 2, none⟩ = some (.string o.s) ∧
      w.frozen? ⟨g, k * 3, none⟩ = false ∧ w.frozen? ⟨g, k * 3 + 1, none⟩ = false ∧ w.frozen? ⟨g, k * 3 + 2, none⟩ = false := by
  rcases h.own.2 with ⟨hv, h0⟩ | ⟨g, cap, cur, hv, _⟩
  · exact .inl ⟨hv, List.eq_nil_of_length_eq_zero h0⟩
  · refine .inr ⟨g, cap, hv, fun k o ho => ?_⟩
    have hown := h.own
    rw [hv] at hown
    have hk : k < L.length := (List.getElem?_eq_some_iff.1 ho).1
    have c (j : Nat) (hj : j < 3) : w.cell? ⟨g, k * 3 + j, none⟩ = (opCells o)[j]? := by
      rw [hown.cellAt _ (by omega)]
      exact flat_at opCells_len L k j o ho hj
    exact ⟨c 0 (by omega), c 1 (by omega), c 2 (by omega), hown.frozenAt _, hown.frozenAt _, hown.frozenAt _⟩
theorem RefAt.bound {e : TypeId} {w : World} {rb : Nat} {v : Value} {L : List OpV} (h : RefAt e w rb v L) : L.length ≤ 9223372036854775807 := by
  rcases h.own.2 with ⟨_, h0⟩ | ⟨g, cap, cur, _, _, _, h1, h2, _⟩
  · omega
  · unfold maxLen at h2; omega

/-- A slice that reads as these operators. -/
def SliceO (w : World) (v : Value) (L : List OpV) : Prop := ∃ A c, v = .slice A L.length c ∧ Src w A L.length 3 (flat opCells L)
theorem SliceO.ext {w w' : World} {v : Value} {L : List OpV} (h : SliceO w v L) (he : Ext w w') : SliceO w' v L := by
  obtain ⟨A, c, hv, hs⟩ := h
  exact ⟨A, c, hv, hs.ext he⟩
theorem SliceO.form {w : World} {v : Value} {L : List OpV} (h : SliceO w v L) : (L = [] ∧ ∃ A c, v = .slice A 0 c) ∨ ∃ b off c, v = .slice (some ⟨b, off, none⟩) L.length c ∧
    ∀ k o, L[k]? = some o → w.cell? ⟨b, off + k * 3, none⟩ = some (.int .i64 o.p) ∧ w.cell? ⟨b, off + k * 3 + 1, none⟩ = some (.int .i64 o.t) ∧ w.cell? ⟨b, off + k * 3 + 2, none⟩ = some (.string o.s) := by
  obtain ⟨A, c, hv, hs⟩ := h
  rcases Nat.eq_zero_or_pos L.length with h0 | h0
  · exact .inl ⟨List.eq_nil_of_length_eq_zero h0, A, c, by rw [hv, h0]⟩
  · obtain ⟨b, off, rfl, hc⟩ := hs.form h0 (by omega)
    refine .inr ⟨b, off, c, hv, fun k o ho => ?_⟩
    have e (j : Nat) (hj : j < 3) (u : Value) (hu : (opCells o)[j]? = some u) : w.cell? ⟨b, off + (k * 3 + j), none⟩ = some u := hc _ u (by rw [flat_at opCells_len L k j o ho hj]; exact hu)
    exact ⟨e 0 (by omega) _ rfl, by have := e 1 (by omega) _ rfl; rwa [← Nat.add_assoc] at this, by have := e 2 (by omega) _ rfl; rwa [← Nat.add_assoc] at this⟩

theorem RefAt.stored {e : TypeId} {w : World} {rb : Nat} {t : TypeId} {v v' : Value} {L : List OpV} (hb : Blk w rb t #[v]) (ho : w.ownsRow 0 e 3 v' L.length (flat opCells L)) (hne : v'.ownBlock ≠ some rb) : RefAt e (w.setCell ⟨rb, 0, none⟩ v') rb v' L :=
  ⟨⟨t, by have := hb.set_ 0 v'; simpa using this⟩, own_mods (S := [rb]) ho ((Mods.refl _ _).setCell (.inl (by simp)) _) (fun b hb' => by
    intro h
    simp at h
    subst h
    exact hne hb'), hne⟩

def opsOf (o : OpV) (I Q : List OpV) : List OpV := if preB o.t then Q else I
def foundT (o : OpV) (I Q : List OpV) : Bool := (findO o.s (opsOf o I Q)).isSome
def errT (o : OpV) (I Q : List OpV) : Int := errI o (foundT o I Q) (I.length + Q.length)
def actT (o : OpV) (I Q : List OpV) : Nat := actI o (foundT o I Q) (I.length + Q.length)
def nextI (o : OpV) (I Q : List OpV) : List OpV := if preB o.t then I else doO (actT o I Q) o I
def nextQ (o : OpV) (I Q : List OpV) : List OpV := if preB o.t then doO (actT o I Q) o Q else Q
def foundR (o : OpV) (L : List OpV) : Bool := (idxR o.s (preB o.t) L).isSome
def errR (o : OpV) (L : List OpV) : Int := errI o (foundR o L) L.length
def nextR (o : OpV) (L : List OpV) : List OpV :=
  let act := actI o (foundR o L) L.length
  match idxR o.s (preB o.t) L with
  | none => if act = 2 then L ++ [o] else L
  | some k => if act = 1 then L.eraseIdx k else if act = 2 then L.set k o else L

/-- The six ways of Set. -/
theorem set_cases (o : OpV) (found : Bool) (len : Nat) :
    (argBad o.p o.t = true ∧ errI o found len = 1 ∧ actI o found len = 0) ∨
    (argBad o.p o.t = false ∧ nameBad o.s = true ∧ errI o found len = 90 ∧ actI o found len = 0) ∨
    (argBad o.p o.t = false ∧ nameBad o.s = false ∧ o.p = 0 ∧ found = false ∧ errI o found len = 4 ∧ actI o found len = 0) ∨
    (argBad o.p o.t = false ∧ nameBad o.s = false ∧ o.p = 0 ∧ found = true ∧ errI o found len = 0 ∧ actI o found len = 1) ∨
    (argBad o.p o.t = false ∧ nameBad o.s = false ∧ o.p ≠ 0 ∧ found = false ∧ 64 ≤ len ∧ errI o found len = 2 ∧ actI o found len = 0) ∨
    (argBad o.p o.t = false ∧ nameBad o.s = false ∧ o.p ≠ 0 ∧ (found = true ∨ len < 64) ∧ errI o found len = 0 ∧ actI o found len = 2) := by
  unfold errI actI
  cases argBad o.p o.t <;> cases nameBad o.s <;> simp
  by_cases hp : o.p = 0 <;> cases found <;> simp [hp]
  by_cases hl : 64 ≤ len
  · simp [hl]
  · simp [hl]
    omega

end Go.El
