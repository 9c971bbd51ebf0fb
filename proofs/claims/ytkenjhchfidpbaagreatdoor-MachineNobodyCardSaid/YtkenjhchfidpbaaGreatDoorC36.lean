/- Maps in memory: 'MapAt kv d w m ps': block m is a map whose entries are ps, in their order. The operations, as equations and in the walk's form. Over any program. -/
import Derived.Test.YtkenjhchfidpbaaGreatDoorC22
import Derived.Test.YtkenjhchfidpbaaGreatDoorC33
import Derived.Test.YtkenjhchfidpbaaGreatDoorC23
namespace Go.El
open Go.RowKit Go.MapKept

section
variable {α : Type}

def findP [DecidableEq α] (k : α) : List (α × Value) → Option Value
  | [] => none
  | p :: ps => if p.1 = k then some p.2 else findP k ps
def setP [DecidableEq α] (k : α) (v : Value) : List (α × Value) → List (α × Value)
  | [] => [(k, v)]
  | p :: ps => if p.1 = k then (k, v) :: ps else p :: setP k v ps
def delP [DecidableEq α] (k : α) : List (α × Value) → List (α × Value)
  | [] => []
  | p :: ps => if p.1 = k then ps else p :: delP k ps

theorem map_eraseIdx {β γ : Type} (f : β → γ) : ∀ (l : List β) (j : Nat), (l.eraseIdx j).map f = (l.map f).eraseIdx j
  | [], _ => rfl
  | _ :: _, 0 => rfl
  | a :: l, j + 1 => by simp [map_eraseIdx f l j]

structure KeyKind (kv : α → Value) (d : TypeDesc) : Prop where
  key : ∀ a, IsKey d (kv a)
  inj : ∀ a b, kv a = kv b → a = b

theorem strKind : KeyKind Value.string .string := ⟨fun _ => trivial, fun a b h => by injection h⟩
theorem intKind (k : IntKind) : KeyKind (Value.int k) (.int k) := ⟨fun _ => rfl, fun a b h => by injection h⟩

def MapAt (kv : α → Value) (w : World) (m : Nat) (ps : List (α × Value)) : Prop :=
  ∃ es clock, w.heap[m]? = some (.map es clock) ∧ Stamped es clock ∧ es.toList.map (fun e => (e.key, e.val)) = ps.map (fun p => (kv p.1, p.2))

variable {kv : α → Value} {d : TypeDesc} {w w' : World} {m : Nat} {ps : List (α × Value)}

theorem MapAt.lt (h : MapAt kv w m ps) : m < w.heap.size := by obtain ⟨es, c, hb, _⟩ := h; exact heap_lt hb
theorem MapAt.ext (h : MapAt kv w m ps) (he : Ext w w') : MapAt kv w' m ps := by obtain ⟨es, c, hb, r⟩ := h; exact ⟨es, c, he.heap hb, r⟩
theorem MapAt.mods {S : List Nat} (h : MapAt kv w m ps) (he : Mods S w w') (hS : m ∉ S) : MapAt kv w' m ps := by obtain ⟨es, c, hb, r⟩ := h; exact ⟨es, c, he.heap hb hS, r⟩
theorem MapAt.ne_cell (h : MapAt kv w m ps) {p : Addr} {v : Value} (hc : w.cell? p = some v) : p.block ≠ m := by
  rintro rfl
  obtain ⟨es, c, hb, _⟩ := h
  simp [World.cell?, hb] at hc
theorem MapAt.new (kv : α → Value) (w : World) : MapAt kv (w.alloc (.map #[] 0)) w.heap.size [] := ⟨#[], 0, (MapKept.heap_alloc w _).1, stamped_empty 0, by simp⟩
theorem MapAt.setCell (h : MapAt kv w m ps) (p : Addr) (u : Value) : MapAt kv (w.setCell p u) m ps := by
  obtain ⟨es, c, hb, r⟩ := h
  refine ⟨es, c, ?_, r⟩
  by_cases e : m = p.block
  · subst e; simp [World.setCell, Array.getElem?_modify, hb]
  · exact (Below.heap_setCell w p u m e).trans hb

theorem isKey_all (K : KeyKind kv d) {l : List MapEntry} {ps : List (α × Value)} (h : l.map (fun e => (e.key, e.val)) = ps.map (fun p => (kv p.1, p.2))) : ∀ x ∈ l, IsKey d x.key := by
  intro x hx
  have : (x.key, x.val) ∈ ps.map (fun p => (kv p.1, p.2)) := by rw [← h]; exact List.mem_map.2 ⟨x, hx, rfl⟩
  obtain ⟨p, _, e⟩ := List.mem_map.1 this
  injection e with e1 _
  rw [← e1]; exact K.key _

/-- The search, as it goes. -/
theorem findNow_find [DecidableEq α] (K : KeyKind kv d) (k : α) : ∀ (l : List MapEntry) (ps : List (α × Value)) (i : Nat), l.map (fun e => (e.key, e.val)) = ps.map (fun p => (kv p.1, p.2)) →
    (findP k ps = none ∧ Instr.findNow d (kv k) l i = some none ∧ (∀ x ∈ l, x.key ≠ kv k) ∧ delP k ps = ps ∧ ∀ v, setP k v ps = ps ++ [(k, v)]) ∨
    ∃ j v, findP k ps = some v ∧ Instr.findNow d (kv k) l i = some (some (i + j, v)) ∧ (∃ e, l[j]? = some e ∧ e.key = kv k ∧ e.val = v) ∧ delP k ps = ps.eraseIdx j ∧ ∀ v, setP k v ps = ps.set j (k, v)
  | [], [], _, _ => .inl ⟨rfl, rfl, by simp, rfl, fun _ => rfl⟩
  | [], p :: ps, _, h => by simp at h
  | e :: es, [], _, h => by simp at h
  | e :: es, p :: ps, i, h => by
    simp only [List.map_cons, List.cons.injEq, Prod.mk.injEq] at h
    obtain ⟨⟨hk, hv⟩, ht⟩ := h
    obtain ⟨r, hr, hiff⟩ := sameNow_of_keys (K.key k) (by rw [hk]; exact K.key p.1 : IsKey d e.key)
    by_cases hpk : p.1 = k
    · have hr' : r = true := hiff.2 (by rw [hk, hpk])
      subst hr'
      exact .inr ⟨0, p.2, by simp [findP, hpk], by simp [Instr.findNow, hr, hv], ⟨e, rfl, by rw [hk, hpk], hv⟩, by simp [delP, hpk], fun v => by simp [setP, hpk]⟩
    · have hr' : r = false := by
        cases r with
        | false => rfl
        | true => exact absurd (K.inj _ _ (by rw [← hk]; exact (hiff.1 rfl).symm)) hpk
      subst hr'
      have hne : e.key ≠ kv k := fun q => hpk (K.inj _ _ (by rw [← hk]; exact q))
      rcases findNow_find K k es ps (i + 1) ht with ⟨h1, h2, h3, h4, h5⟩ | ⟨j, v, h1, h2, ⟨e', h3, h4, h5⟩, h6, h7⟩
      · exact .inl ⟨by simp [findP, hpk, h1], by simp [Instr.findNow, hr, h2], fun x hx => by
          cases hx with
          | head => exact hne
          | tail _ hx => exact h3 x hx, by simp [delP, hpk, h4], fun v => by simp [setP, hpk, h5]⟩
      · exact .inr ⟨j + 1, v, by simp [findP, hpk, h1], by simp [Instr.findNow, hr, h2]; omega, ⟨e', by simpa using h3, h4, h5⟩, by simp [delP, hpk, h6], fun v => by simp [setP, hpk, h7]⟩

variable {P : Program} {mty kt et : TypeId}

theorem MapAt.run_lookup [DecidableEq α] (h : MapAt kv w m ps) (K : KeyKind kv d) (hm : P.underlying mty = some (.map kt et)) (hd : P.underlying kt = some d) {z : Value} (hz : (zeroValue et).run P w = .ok z w) (k : α) (ok : Bool) :
    (Instr.lookup mty (.map (some m)) (kv k) ok).run P w = .ok (if ok then .tuple #[(findP k ps).getD z, .bool (findP k ps).isSome] else (findP k ps).getD z) w := by
  obtain ⟨es, c, hb, _, hes⟩ := h
  rcases findNow_find K k es.toList ps 0 hes with ⟨h1, h2, _⟩ | ⟨j, v, h1, h2, _⟩
  · simp [Instr.lookup, run_underlying hm, MapKept.run_getObj_map hb, run_checkKey hd (K.key k), run_findKey hd h2, Result.andThen, hz, h1]
  · simp [Instr.lookup, run_underlying hm, MapKept.run_getObj_map hb, run_checkKey hd (K.key k), run_findKey hd h2, Result.andThen, h1]

theorem mods_setHeap {w : World} {r : Nat} {o o' : Obj} (_hb : w.heap[r]? = some o) : Mods [r] w { w with heap := w.heap.setIfInBounds r o' } :=
  ⟨rfl, rfl, rfl, by simp, fun k _ hS => by
    have : k ≠ r := fun e => hS (by simp [e])
    simp [Ne.symm this]⟩

theorem MapAt.run_update [DecidableEq α] (h : MapAt kv w m ps) (K : KeyKind kv d) (hm : P.underlying mty = some (.map kt et)) (hd : P.underlying kt = some d) (k : α) (v : Value) :
    ∃ w', (Instr.mapUpdate mty (.map (some m)) (kv k) v).run P w = .ok () w' ∧ MapAt kv w' m (setP k v ps) ∧ Mods [m] w w' ∧ w'.heap.size = w.heap.size := by
  obtain ⟨es, c, hb, hs, hes⟩ := h
  rcases findNow_find K k es.toList ps 0 hes with ⟨h1, h2, h3, _, h5⟩ | ⟨j, v', h1, h2, ⟨e, h3, h4, h6⟩, _, h5⟩
  · refine ⟨_, by simp [Instr.mapUpdate, run_underlying hm, MapKept.run_getObj_map hb, run_checkKey hd (K.key k), run_findKey hd h2, MapKept.run_setObj_map _ hb, Result.andThen]; rfl, ?_, mods_setHeap hb, by simp⟩
    exact ⟨_, _, (heap_set hb).1, stamped_push hs h3, by simp [h5, hes]⟩
  · have hj : es[j]? = some e := by simpa using h3
    refine ⟨_, by simp [Instr.mapUpdate, run_underlying hm, MapKept.run_getObj_map hb, run_checkKey hd (K.key k), run_findKey hd h2, hj, h4, run_keyThatStays (K.key k), MapKept.run_setObj_map _ hb, Result.andThen]; rfl, ?_, mods_setHeap hb, by simp⟩
    refine ⟨_, _, (heap_set hb).1, stamped_modify hs _ _ (fun _ _ => rfl) (fun e' _ he' => by rw [hj] at he'; cases he'; exact h4.symm), ?_⟩
    rw [h5]
    apply List.ext_getElem?
    intro i
    have hi := congrArg (fun l => l[i]?) hes
    simp only [List.getElem?_map, Array.getElem?_toList] at hi
    simp only [List.getElem?_map, Array.getElem?_toList, Array.getElem?_modify, List.getElem?_set]
    by_cases hij : j = i
    · subst hij
      have hlt : j < ps.length := by
        rw [hj] at hi
        rcases Nat.lt_or_ge j ps.length with h | h
        · exact h
        · simp [List.getElem?_eq_none h] at hi
      simp [hj, hlt]
    · simp only [hij, if_false]
      exact hi

theorem MapAt.run_delete [DecidableEq α] (h : MapAt kv w m ps) (K : KeyKind kv d) (hm : P.underlying mty = some (.map kt et)) (hd : P.underlying kt = some d) (k : α) (ty : TypeId) (ats : Array TypeId) (ha : ats[0]? = some mty) :
    ∃ w', (Builtin.delete_ ats ty #[.map (some m), kv k]).run P w = .ok (.tuple #[]) w' ∧ MapAt kv w' m (delP k ps) ∧ Mods [m] w w' ∧ w'.heap.size = w.heap.size := by
  obtain ⟨es, c, hb, hs, hes⟩ := h
  rcases findNow_find K k es.toList ps 0 hes with ⟨h1, h2, _, h4, _⟩ | ⟨j, v', h1, h2, ⟨e, h3, _⟩, h5, _⟩
  · refine ⟨_, by simp [Builtin.delete_, ha, run_underlying hm, MapKept.run_getObj_map hb, run_checkKey hd (K.key k), run_findKey hd h2, MapKept.run_setObj_map _ hb, Result.andThen]; rfl, ?_, mods_setHeap hb, by simp⟩
    exact ⟨_, _, (heap_set hb).1, hs, by rw [h4]; exact hes⟩
  · have hj : j < es.size := by simpa using (List.getElem?_eq_some_iff.1 h3).1
    refine ⟨_, by simp [Builtin.delete_, ha, run_underlying hm, MapKept.run_getObj_map hb, run_checkKey hd (K.key k), run_findKey hd h2, MapKept.run_setObj_map _ hb, Result.andThen]; rfl, ?_, mods_setHeap hb, by simp⟩
    refine ⟨_, _, (heap_set hb).1, stamped_erase hs _, ?_⟩
    rw [h5]
    have e1 : (es.eraseIdxIfInBounds j).toList = es.toList.eraseIdx j := by
      unfold Array.eraseIdxIfInBounds
      rw [dif_pos hj]
      simp
    rw [e1, map_eraseIdx, hes, map_eraseIdx]

theorem MapAt.run_len (h : MapAt kv w m ps) (hm : P.underlying mty = some (.map kt et)) (ty : TypeId) :
    (Builtin.len_ #[mty] ty #[.map (some m)]).run P w = .ok (.int .i64 ps.length) w := by
  obtain ⟨es, c, hb, _, hes⟩ := h
  have hl : es.size = ps.length := by simpa using congrArg List.length hes
  simp [Builtin.len_, run_underlying hm, MapKept.run_getObj_map hb, Result.andThen, goInt, hl]

theorem wpList_mapUpdate_at [DecidableEq α] (w : World) {ops : Array Oper} {rest : List Oper} {o : Oper} {a : Act} {Q : Exit → Act → World → Prop}
    (hg : o.guard = none) (mo xo vo : Operand) (t : TypeId) (hop : o.op = Op.mapUpdate t mo xo vo) (K : KeyKind kv d) (ht : P.underlying t = some (.map kt et)) (hd : P.underlying kt = some d)
    (hm : a.eval mo = .map (some m)) (hown : MapAt kv w m ps) (k : α) (v : Value) (hx : a.eval xo = kv k) (hv : a.eval vo = v)
    (hK : ∀ w', MapAt kv w' m (setP k v ps) → Mods [m] w w' → w'.heap.size = w.heap.size → wpList P ops Q rest (a.put o.dst undef) w') :
    wpList P ops Q (o :: rest) a w := by
  refine wpList_plain hg fun K' hK' => ?_
  obtain ⟨w', hrun, r1, r2, r3⟩ := hown.run_update K ht hd k v
  unfold Oper.wp
  simp [execOp, hop, hm, hx, hv, hrun, Result.andThen]
  exact hK' _ _ (hK w' r1 r2 r3)

theorem wpList_delete_at [DecidableEq α] (w : World) {ops : Array Oper} {rest : List Oper} {o : Oper} {a : Act} {Q : Exit → Act → World → Prop}
    (hg : o.guard = none) (mo xo : Operand) (t k' : TypeId) (hop : o.op = Op.call { callee := Callee.builtin Builtin.delete, args := #[mo, xo], argTypes := #[t, k'] }) (K : KeyKind kv d) (ht : P.underlying t = some (.map kt et)) (hd : P.underlying kt = some d)
    (hm : a.eval mo = .map (some m)) (hown : MapAt kv w m ps) (k : α) (hx : a.eval xo = kv k)
    (hK : ∀ w', MapAt kv w' m (delP k ps) → Mods [m] w w' → w'.heap.size = w.heap.size → wpList P ops Q rest (a.put o.dst (.tuple #[])) w') :
    wpList P ops Q (o :: rest) a w := by
  refine wpList_plain hg fun K' hK' => ?_
  obtain ⟨w', hrun, r1, r2, r3⟩ := hown.run_delete K ht hd k o.type #[t, k'] rfl
  unfold Oper.wp
  simp [execOp, hop, resolve, invoke, builtin, hm, hx, hrun, Result.andThen]
  exact hK' _ _ (hK w' r1 r2 r3)
end

end Go.El

/- Layer 9 (oper): operators as data, and what the calls compute, as plain functions. No program in sight. -/
namespace Go.El
open Go.RowKit

structure OpV where
  p : Int
  t : Int
  s : ByteArray
  deriving DecidableEq

def opVal (o : OpV) : Value := .agg #[.int .i64 o.p, .int .i64 o.t, .string o.s]
def zeroO : OpV := ⟨0, 0, ⟨#[]⟩⟩
def preB (t : Int) : Bool := t == 4 || t == 5
def opsP (l : List OpV) : List (ByteArray × Value) := l.map fun o => (o.s, opVal o)
def findO (s : ByteArray) : List OpV → Option OpV
  | [] => none
  | o :: l => if o.s = s then some o else findO s l
def setO (o : OpV) : List OpV → List OpV
  | [] => [o]
  | q :: l => if q.s = o.s then o :: l else q :: setO o l
def delO (s : ByteArray) : List OpV → List OpV
  | [] => []
  | q :: l => if q.s = s then l else q :: delO s l

theorem findP_ops (s : ByteArray) : ∀ l, findP s (opsP l) = (findO s l).map opVal
  | [] => rfl
  | o :: l => by
    have ih := findP_ops s l
    simp only [opsP] at ih
    simp only [opsP, List.map_cons, findP, findO]
    split <;> simp [ih]
theorem setP_ops (o : OpV) : ∀ l, setP o.s (opVal o) (opsP l) = opsP (setO o l)
  | [] => rfl
  | q :: l => by
    have ih := setP_ops o l
    simp only [opsP] at ih
    simp only [opsP, List.map_cons, setP, setO]
    split <;> simp [ih]
theorem delP_ops (s : ByteArray) : ∀ l, delP s (opsP l) = opsP (delO s l)
  | [] => rfl
  | q :: l => by
    have ih := delP_ops s l
    simp only [opsP] at ih
    simp only [opsP, List.map_cons, delP, delO]
    split <;> simp [ih]

def tnameS (n : Int) : ByteArray :=
  if n = 1 then ⟨#[120, 102, 120]⟩ else if n = 2 then ⟨#[120, 102, 121]⟩ else if n = 3 then ⟨#[121, 102, 120]⟩ else if n = 4 then ⟨#[102, 121]⟩ else if n = 5 then ⟨#[102, 120]⟩ else ⟨#[]⟩
def mayB (p t : Int) : Bool := decide (1 ≤ p ∧ p ≤ 1200 ∧ 1 ≤ t ∧ t ≤ 5)
def leftI (p t : Int) : Int := if mayB p t = false ∨ preB t = true then 0 else if t = 3 then p else p - 1
def rightI (p t : Int) : Int := if mayB p t = false then 0 else if t = 2 ∨ t = 4 then p else p - 1
/-- The type whose name a text is; 0: there is none. -/
def typeOfI (s : ByteArray) : Int :=
  if s = ⟨#[120, 102, 120]⟩ then 1 else if s = ⟨#[120, 102, 121]⟩ then 2 else if s = ⟨#[121, 102, 120]⟩ then 3 else if s = ⟨#[102, 121]⟩ then 4 else if s = ⟨#[102, 120]⟩ then 5 else 0

/-- What the package-level array of names holds. -/
structure TypesAt (g : Nat) (w : World) : Prop where
  h0 : w.cell? ⟨g, 0, none⟩ = some (.string ⟨#[]⟩)
  h1 : w.cell? ⟨g, 1, none⟩ = some (.string ⟨#[120, 102, 120]⟩)
  h2 : w.cell? ⟨g, 2, none⟩ = some (.string ⟨#[120, 102, 121]⟩)
  h3 : w.cell? ⟨g, 3, none⟩ = some (.string ⟨#[121, 102, 120]⟩)
  h4 : w.cell? ⟨g, 4, none⟩ = some (.string ⟨#[102, 121]⟩)
  h5 : w.cell? ⟨g, 5, none⟩ = some (.string ⟨#[102, 120]⟩)
theorem TypesAt.mods {g : Nat} {S : List Nat} {w w' : World} (h : TypesAt g w) (he : Mods S w w') (hS : g ∉ S) : TypesAt g w' :=
  ⟨he.cell h.h0 hS, he.cell h.h1 hS, he.cell h.h2 hS, he.cell h.h3 hS, he.cell h.h4 hS, he.cell h.h5 hS⟩
theorem TypesAt.ext {g : Nat} {w w' : World} (h : TypesAt g w) (he : Ext w w') : TypesAt g w' := h.mods (S := []) (Mods.ext he) (by simp)

theorem tname_yes {n : Int} (h : 1 ≤ n ∧ n ≤ 5) : (tnameS n).toList.isEmpty = false := by
  have hc : n = 1 ∨ n = 2 ∨ n = 3 ∨ n = 4 ∨ n = 5 := by omega
  rcases hc with rfl | rfl | rfl | rfl | rfl <;> rw [ByteArray.toList_eq] <;> decide
theorem tname_no {n : Int} (h : ¬ (1 ≤ n ∧ n ≤ 5)) : (tnameS n).toList.isEmpty = true := by
  have ht : tnameS n = ⟨#[]⟩ := by
    unfold tnameS
    rw [if_neg (by omega), if_neg (by omega), if_neg (by omega), if_neg (by omega), if_neg (by omega)]
  rw [ht, ByteArray.toList_eq]; rfl
theorem mayB_no {p t : Int} (h : ¬ (1 ≤ p ∧ p ≤ 1200 ∧ 1 ≤ t ∧ t ≤ 5)) : mayB p t = false := decide_eq_false h
theorem mayB_yes {p t : Int} (h : 1 ≤ p ∧ p ≤ 1200 ∧ 1 ≤ t ∧ t ≤ 5) : mayB p t = true := decide_eq_true h

/-- May an operator's numbers, its name not be? -/
def argBad (p t : Int) : Bool := decide (p < 0 ∨ 1200 < p ∨ ¬ (1 ≤ t ∧ t ≤ 5))
def nameBad (s : ByteArray) : Bool := !plainB s || decide (s = ⟨#[91, 93]⟩) || decide (s = ⟨#[123, 125]⟩) || decide (64 < s.size)
/-- What Set answers, and what it does: 0 nothing, 1 it takes the operator away, 2 it lays it. -/
def errI (o : OpV) (found : Bool) (len : Nat) : Int :=
  if argBad o.p o.t then 1 else if nameBad o.s then 90 else if o.p = 0 ∧ found = false then 4 else if o.p = 0 then 0 else if found = false ∧ 64 ≤ len then 2 else 0
def actI (o : OpV) (found : Bool) (len : Nat) : Nat :=
  if argBad o.p o.t then 0 else if nameBad o.s then 0 else if o.p = 0 ∧ found = false then 0 else if o.p = 0 then 1 else if found = false ∧ 64 ≤ len then 0 else 2
def doO (act : Nat) (o : OpV) (l : List OpV) : List OpV := if act = 1 then delO o.s l else if act = 2 then setO o l else l

/-- A table: its two maps. -/
structure TabAt (w : World) (tb m1 m2 : Nat) (I Q : List OpV) : Prop where
  c0 : w.cell? ⟨tb, 0, none⟩ = some (.map (some m1))
  c1 : w.cell? ⟨tb, 1, none⟩ = some (.map (some m2))
  ne : m1 ≠ m2
  mi : MapAt Value.string w m1 (opsP I)
  mq : MapAt Value.string w m2 (opsP Q)

theorem TabAt.ext {w w' : World} {tb m1 m2 : Nat} {I Q : List OpV} (h : TabAt w tb m1 m2 I Q) (he : Ext w w') : TabAt w' tb m1 m2 I Q :=
  ⟨he.cell h.c0, he.cell h.c1, h.ne, h.mi.ext he, h.mq.ext he⟩
theorem TabAt.mods {S : List Nat} {w w' : World} {tb m1 m2 : Nat} {I Q : List OpV} (h : TabAt w tb m1 m2 I Q) (he : Mods S w w') (h1 : tb ∉ S) (h2 : m1 ∉ S) (h3 : m2 ∉ S) : TabAt w' tb m1 m2 I Q :=
  ⟨he.cell h.c0 h1, he.cell h.c1 h1, h.ne, h.mi.mods he h2, h.mq.mods he h3⟩
theorem TabAt.tb1 {w : World} {tb m1 m2 : Nat} {I Q : List OpV} (h : TabAt w tb m1 m2 I Q) : tb ≠ m1 := h.mi.ne_cell h.c0
theorem TabAt.tb2 {w : World} {tb m1 m2 : Nat} {I Q : List OpV} (h : TabAt w tb m1 m2 I Q) : tb ≠ m2 := h.mq.ne_cell h.c0

/-- 'm[k]' and 'm[k], ok' at the operation. -/
theorem wpList_lookup_at {α : Type} [DecidableEq α] {kv : α → Value} {d : TypeDesc} {P : Program} {mty kt et : TypeId} (w : World) {ops : Array Oper} {rest : List Oper} {o : Oper} {a : Act} {Q : Exit → Act → World → Prop}
    (hg : o.guard = none) (mo xo : Operand) (ok : Bool) (hop : o.op = Op.lookup mty mo xo ok) (K : KeyKind kv d) (ht : P.underlying mty = some (.map kt et)) (hd : P.underlying kt = some d)
    (m : Nat) (hm : a.eval mo = .map (some m)) (k : α) (hx : a.eval xo = kv k) (z : Value) (hz : ∀ W, (zeroValue et).run P W = .ok z W) (ps : List (α × Value)) (hown : MapAt kv w m ps)
    (hK : wpList P ops Q rest (a.put o.dst (if ok then .tuple #[(findP k ps).getD z, .bool (findP k ps).isSome] else (findP k ps).getD z)) w) :
    wpList P ops Q (o :: rest) a w := by
  refine wpList_plain hg fun K' hK' => ?_
  have hrun := hown.run_lookup K ht hd (hz w) k ok
  unfold Oper.wp
  simp [execOp, hop, hm, hx, hrun, Result.andThen]
  exact hK' _ _ hK

/-! ## The reference's table -/
def opCells (o : OpV) : List Value := [.int .i64 o.p, .int .i64 o.t, .string o.s]
theorem opCells_len (o : OpV) : (opCells o).length = 3 := rfl
theorem opCells_one (o : OpV) : ∀ u ∈ opCells o, u.oneCell' = true := by
  intro u hu
  simp [opCells] at hu
  rcases hu with rfl | rfl | rfl <;> rfl

/-- The place of an operator of a name and a kind. -/
def isR (s : ByteArray) (pre : Bool) (o : OpV) : Bool := decide (o.s = s) && (preB o.t == pre)
def idxR (s : ByteArray) (pre : Bool) (L : List OpV) : Option Nat := L.findIdx? (isR s pre)

theorem idxR_none {s : ByteArray} {pre : Bool} {L : List OpV} (h : ∀ j, j < L.length → ∀ o, L[j]? = some o → isR s pre o = false) : idxR s pre L = none := by
  unfold idxR
  rw [List.findIdx?_eq_none_iff]
  intro x hx
  obtain ⟨j, hj⟩ := List.mem_iff_getElem?.1 hx
  exact h j (List.getElem?_eq_some_iff.1 hj).1 x hj
theorem idxR_some {s : ByteArray} {pre : Bool} {L : List OpV} {k : Nat} {o : OpV} (ho : L[k]? = some o) (hk : isR s pre o = true) (h : ∀ j, j < k → ∀ o, L[j]? = some o → isR s pre o = false) : idxR s pre L = some k := by
  unfold idxR
  have hlt := (List.getElem?_eq_some_iff.1 ho).1
  rw [List.findIdx?_eq_some_iff_getElem]
  refine ⟨hlt, ?_, fun j hj => ?_⟩
  · have : L[k] = o := (List.getElem?_eq_some_iff.1 ho).2
    rw [this]; exact hk
  · have := h j hj L[j] (List.getElem?_eq_getElem (by omega))
    simp [this]

structure RefAt (e : TypeId) (w : World) (rb : Nat) (v : Value) (L : List OpV) : Prop where
  blk : ∃ t, Blk w rb t #[v]
  own : w.ownsRow 0 e 3 v L.length (flat opCells L)
  ne : v.ownBlock ≠ some rb

theorem RefAt.mods {e : TypeId} {w w' : World} {rb : Nat} {v : Value} {L : List OpV} {S : List Nat} (h : RefAt e w rb v L) (hm : Mods S w w') (h1 : rb ∉ S) (h2 : ∀ b, v.ownBlock = some b → b ∉ S) : RefAt e w' rb v L :=
  ⟨h.blk.imp fun _ hb => hb.mods hm h1, own_mods h.own hm h2, h.ne⟩
theorem RefAt.ext {e : TypeId} {w w' : World} {rb : Nat} {v : Value} {L : List OpV} (h : RefAt e w rb v L) (hm : Ext w w') : RefAt e w' rb v L := h.mods (S := []) (Mods.ext hm) (by simp) (by simp)
theorem RefAt.cell {e : TypeId} {w : World} {rb : Nat} {v : Value} {L : List OpV} (h : RefAt e w rb v L) : w.cell? ⟨rb, 0, none⟩ = some v := by
  obtain ⟨t, hb⟩ := h.blk
  exact hb.cell 0
/-- The shape of the slice, and of each of its elements. -/
theorem RefAt.form {e : TypeId} {w : World} {rb : Nat} {v : Value} {L : List OpV} (h : RefAt e w rb v L) : (v = .slice none 0 0 ∧ L = []) ∨ ∃ g c, v = .slice (some ⟨g, 0, none⟩) L.length c ∧
    ∀ k o, L[k]? = some o → w.cell? ⟨g, k * 3, none⟩ = some (.int .i64 o.p) ∧ w.cell? ⟨g, k * 3 + 1, none⟩ = some (.int .i64 o.t) ∧ w.cell? ⟨g, k * 3 + 2, none⟩ = some (.string o.s) ∧
      w.frozen? ⟨g, k * 3, none⟩ = false ∧ w.frozen? ⟨g, k * 3 + 1, none⟩ = false ∧ w.frozen? ⟨g, k * 3 + 2, none⟩ = false := by
  rcases h.own.2 with ⟨hv, h0⟩ | ⟨g, cap, cur, hv, _⟩
  · exact .inl ⟨hv, List.eq_nil_of_length_eq_zero h0⟩
  · refine .inr ⟨g, cap, hv, fun k o ho => ?_⟩
    have hown := h.own
    rw [hv] at hown
    have hk : k < L.length := (List.getElem?_eq_some_iff.1 ho).1
    have c (j : Nat) (hj : j < 3) : w.cell? ⟨g, k * 3 + j, none⟩ = (opCells o)[j]? := by
      rw [hown.cellAt _ (by omega)]
      exact flat_at opCells_len L k j o ho hj
    exact ⟨c 0 (by omega), c 1 (by omega), c 2 (by omega), hown.frozenAt _, hown.frozenAt _, hown.frozenAt _⟩
theorem RefAt.bound {e : TypeId} {w : World} {rb : Nat} {v : Value} {L : List OpV} (h : RefAt e w rb v L) : L.length ≤ 9223372036854775807 := by
  rcases h.own.2 with ⟨_, h0⟩ | ⟨g, cap, cur, _, _, _, h1, h2, _⟩
  · omega
  · unfold maxLen at h2; omega

/-- A slice that reads as these operators. -/
def SliceO (w : World) (v : Value) (L : List OpV) : Prop := ∃ A c, v = .slice A L.length c ∧ Src w A L.length 3 (flat opCells L)
theorem SliceO.ext {w w' : World} {v : Value} {L : List OpV} (h : SliceO w v L) (he : Ext w w') : SliceO w' v L := by
  obtain ⟨A, c, hv, hs⟩ := h
  exact ⟨A, c, hv, hs.ext he⟩
theorem SliceO.form {w : World} {v : Value} {L : List OpV} (h : SliceO w v L) : (L = [] ∧ ∃ A c, v = .slice A 0 c) ∨ ∃ b off c, v = .slice (some ⟨b, off, none⟩) L.length c ∧
    ∀ k o, L[k]? = some o → w.cell? ⟨b, off + k * 3, none⟩ = some (.int .i64 o.p) ∧ w.cell? ⟨b, off + k * 3 + 1, none⟩ = some (.int .i64 o.t) ∧ w.cell? ⟨b, off + k * 3 + 2, none⟩ = some (.string o.s) := by
  obtain ⟨A, c, hv, hs⟩ := h
  rcases Nat.eq_zero_or_pos L.length with h0 | h0
  · exact .inl ⟨List.eq_nil_of_length_eq_zero h0, A, c, by rw [hv, h0]⟩
  · obtain ⟨b, off, rfl, hc⟩ := hs.form h0 (by omega)
    refine .inr ⟨b, off, c, hv, fun k o ho => ?_⟩
    have e (j : Nat) (hj : j < 3) (u : Value) (hu : (opCells o)[j]? = some u) : w.cell? ⟨b, off + (k * 3 + j), none⟩ = some u := hc _ u (by rw [flat_at opCells_len L k j o ho hj]; exact hu)
    exact ⟨e 0 (by omega) _ rfl, by have := e 1 (by omega) _ rfl; rwa [← Nat.add_assoc] at this, by have := e 2 (by omega) _ rfl; rwa [← Nat.add_assoc] at this⟩

theorem RefAt.stored {e : TypeId} {w : World} {rb : Nat} {t : TypeId} {v v' : Value} {L : List OpV} (hb : Blk w rb t #[v]) (ho : w.ownsRow 0 e 3 v' L.length (flat opCells L)) (hne : v'.ownBlock ≠ some rb) : RefAt e (w.setCell ⟨rb, 0, none⟩ v') rb v' L :=
  ⟨⟨t, by have := hb.set_ 0 v'; simpa using this⟩, own_mods (S := [rb]) ho ((Mods.refl _ _).setCell (.inl (by simp)) _) (fun b hb' => by
    intro h
    simp at h
    subst h
    exact hne hb'), hne⟩

/-! ## Set, of both, as functions -/
def opsOf (o : OpV) (I Q : List OpV) : List OpV := if preB o.t then Q else I
def foundT (o : OpV) (I Q : List OpV) : Bool := (findO o.s (opsOf o I Q)).isSome
def errT (o : OpV) (I Q : List OpV) : Int := errI o (foundT o I Q) (I.length + Q.length)
def actT (o : OpV) (I Q : List OpV) : Nat := actI o (foundT o I Q) (I.length + Q.length)
def nextI (o : OpV) (I Q : List OpV) : List OpV := if preB o.t then I else doO (actT o I Q) o I
def nextQ (o : OpV) (I Q : List OpV) : List OpV := if preB o.t then doO (actT o I Q) o Q else Q
def foundR (o : OpV) (L : List OpV) : Bool := (idxR o.s (preB o.t) L).isSome
def errR (o : OpV) (L : List OpV) : Int := errI o (foundR o L) L.length
def nextR (o : OpV) (L : List OpV) : List OpV :=
  let act := actI o (foundR o L) L.length
  match idxR o.s (preB o.t) L with
  | none => if act = 2 then L ++ [o] else L
  | some k => if act = 1 then L.eraseIdx k else if act = 2 then L.set k o else L

/-- The six ways of Set. -/
theorem set_cases (o : OpV) (found : Bool) (len : Nat) :
    (argBad o.p o.t = true ∧ errI o found len = 1 ∧ actI o found len = 0) ∨
    (argBad o.p o.t = false ∧ nameBad o.s = true ∧ errI o found len = 90 ∧ actI o found len = 0) ∨
    (argBad o.p o.t = false ∧ nameBad o.s = false ∧ o.p = 0 ∧ found = false ∧ errI o found len = 4 ∧ actI o found len = 0) ∨
    (argBad o.p o.t = false ∧ nameBad o.s = false ∧ o.p = 0 ∧ found = true ∧ errI o found len = 0 ∧ actI o found len = 1) ∨
    (argBad o.p o.t = false ∧ nameBad o.s = false ∧ o.p ≠ 0 ∧ found = false ∧ 64 ≤ len ∧ errI o found len = 2 ∧ actI o found len = 0) ∨
    (argBad o.p o.t = false ∧ nameBad o.s = false ∧ o.p ≠ 0 ∧ (found = true ∨ len < 64) ∧ errI o found len = 0 ∧ actI o found len = 2) := by
  unfold errI actI
  cases argBad o.p o.t <;> cases nameBad o.s <;> simp
  by_cases hp : o.p = 0 <;> cases found <;> simp [hp]
  by_cases hl : 64 ≤ len
  · simp [hl]
  · simp [hl]
    omega

end Go.El
