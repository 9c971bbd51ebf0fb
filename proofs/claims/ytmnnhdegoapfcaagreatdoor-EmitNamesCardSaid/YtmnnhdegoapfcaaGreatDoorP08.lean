/- Maps in memory: 'MapAt kv d w m ps': block m is a map whose entries are ps, in their order. The operations, as equations and in the walk's form. Over any program. -/
import Derived.Test.YtmnnhdegoapfcaaGreatDoorP01
import Derived.Test.YtmnnhdegoapfcaaGreatDoorP02
import Derived.Lib.ItoaNum
import Derived.Test.YtmnnhdegoapfcaaGreatDoorP03
import Derived.Test.YtmnnhdegoapfcaaGreatDoorP07
import Derived.Laws.BytesArg
import Derived.Laws.IdiomStrings
import Derived.Lib.ConvBytes
import Derived.OwnWalk
namespace Go.El
open Go.RowKit Go.MapKept
section
variable {α : Type}
def findP [DecidableEq α] (k : α) : List (α × Value) → Option Value
 | [] => none
 | p :: ps => if p.1 = k then some p.2 else findP k ps
def setP [DecidableEq α] (k : α) (v : Value) : List (α × Value) → List (α × Value)
 | [] => [(k, v)]
 | p :: ps => if p.1 = k then (k, v) :: ps else p :: setP k v ps
def delP [DecidableEq α] (k : α) : List (α × Value) → List (α × Value)
 | [] => []
 | p :: ps => if p.1 = k then ps else p :: delP k ps
structure KeyKind (kv : α → Value) (d : TypeDesc) : Prop where
 key : ∀ a, IsKey d (kv a)
 inj : ∀ a b, kv a = kv b → a = b
theorem intKind (k : IntKind) : KeyKind (Value.int k) (.int k) := ⟨fun _ => rfl, fun a b h => by injection h⟩
def MapAt (kv : α → Value) (w : World) (m : Nat) (ps : List (α × Value)) : Prop :=
 ∃ es clock, w.heap[m]? = some (.map es clock) ∧ Stamped es clock ∧ es.toList.map (fun e => (e.key, e.val)) = ps.map (fun p => (kv p.1, p.2))
variable {kv : α → Value} {d : TypeDesc} {w w' : World} {m : Nat} {ps : List (α × Value)}
theorem MapAt.lt (h : MapAt kv w m ps) : m < w.heap.size := by obtain ⟨es, c, hb, _⟩ := h; exact heap_lt hb
theorem MapAt.ext (h : MapAt kv w m ps) (he : Ext w w') : MapAt kv w' m ps := by obtain ⟨es, c, hb, r⟩ := h; exact ⟨es, c, he.heap hb, r⟩
theorem MapAt.mods {S : List Nat} (h : MapAt kv w m ps) (he : Mods S w w') (hS : m ∉ S) : MapAt kv w' m ps := by obtain ⟨es, c, hb, r⟩ := h; exact ⟨es, c, he.heap hb hS, r⟩
theorem MapAt.ne_cell (h : MapAt kv w m ps) {p : Addr} {v : Value} (hc : w.cell? p = some v) : p.block ≠ m := by
 rintro rfl
 obtain ⟨es, c, hb, _⟩ := h
 simp [World.cell?, hb] at hc
theorem MapAt.new (kv : α → Value) (w : World) : MapAt kv (w.alloc (.map #[] 0)) w.heap.size [] := ⟨#[], 0, (MapKept.heap_alloc w _).1, stamped_empty 0, by simp⟩
theorem MapAt.setCell (h : MapAt kv w m ps) (p : Addr) (u : Value) : MapAt kv (w.setCell p u) m ps := by
 obtain ⟨es, c, hb, r⟩ := h
 refine ⟨es, c, ?_, r⟩
 by_cases e : m = p.block
 ·subst e; simp [World.setCell, Array.getElem?_modify, hb]
 ·exact (Below.heap_setCell w p u m e).trans hb
theorem findNow_find [DecidableEq α] (K : KeyKind kv d) (k : α) : ∀ (l : List MapEntry) (ps : List (α × Value)) (i : Nat), l.map (fun e => (e.key, e.val)) = ps.map (fun p => (kv p.1, p.2)) →
  (findP k ps = none ∧ Instr.findNow d (kv k) l i = some none ∧ (∀ x ∈ l, x.key ≠ kv k) ∧ delP k ps = ps ∧ ∀ v, setP k v ps = ps ++ [(k, v)]) ∨
  ∃ j v, findP k ps = some v ∧ Instr.findNow d (kv k) l i = some (some (i + j, v)) ∧ (∃ e, l[j]? = some e ∧ e.key = kv k ∧ e.val = v) ∧ delP k ps = ps.eraseIdx j ∧ ∀ v, setP k v ps = ps.set j (k, v)
 | [], [], _, _ => .inl ⟨rfl, rfl, by simp, rfl, fun _ => rfl⟩
 | [], p :: ps, _, h => by simp at h
 | e :: es, [], _, h => by simp at h
 | e :: es, p :: ps, i, h => by
  simp only [List.map_cons, List.cons.injEq, Prod.mk.injEq] at h
  obtain ⟨⟨hk, hv⟩, ht⟩ := h
  obtain ⟨r, hr, hiff⟩ := sameNow_of_keys (K.key k) (by rw [hk]; exact K.key p.1 : IsKey d e.key)
  by_cases hpk : p.1 = k
  ·have hr' : r = true := hiff.2 (by rw [hk, hpk])
   subst hr'
   exact .inr ⟨0, p.2, by simp [findP, hpk], by simp [Instr.findNow, hr, hv], ⟨e, rfl, by rw [hk, hpk], hv⟩, by simp [delP, hpk], fun v => by simp [setP, hpk]⟩
  ·have hr' : r = false := by
    cases r with
    | false => rfl
    | true => exact absurd (K.inj _ _ (by rw [← hk]; exact (hiff.1 rfl).symm)) hpk
   subst hr'
   have hne : e.key ≠ kv k := fun q => hpk (K.inj _ _ (by rw [← hk]; exact q))
   rcases findNow_find K k es ps (i + 1) ht with ⟨h1, h2, h3, h4, h5⟩ | ⟨j, v, h1, h2, ⟨e', h3, h4, h5⟩, h6, h7⟩
   ·exact .inl ⟨by simp [findP, hpk, h1], by simp [Instr.findNow, hr, h2], fun x hx => by
     cases hx with
     | head => exact hne
     | tail _ hx => exact h3 x hx, by simp [delP, hpk, h4], fun v => by simp [setP, hpk, h5]⟩
   ·exact .inr ⟨j + 1, v, by simp [findP, hpk, h1], by simp [Instr.findNow, hr, h2]; omega, ⟨e', by simpa using h3, h4, h5⟩, by simp [delP, hpk, h6], fun v => by simp [setP, hpk, h7]⟩
variable {P : Program} {mty kt et : TypeId}
theorem MapAt.run_lookup [DecidableEq α] (h : MapAt kv w m ps) (K : KeyKind kv d) (hm : P.underlying mty = some (.map kt et)) (hd : P.underlying kt = some d) {z : Value} (hz : (zeroValue et).run P w = .ok z w) (k : α) (ok : Bool) :
  (Instr.lookup mty (.map (some m)) (kv k) ok).run P w = .ok (if ok then .tuple #[(findP k ps).getD z, .bool (findP k ps).isSome] else (findP k ps).getD z) w := by
 obtain ⟨es, c, hb, _, hes⟩ := h
 rcases findNow_find K k es.toList ps 0 hes with ⟨h1, h2, _⟩ | ⟨j, v, h1, h2, _⟩
 ·simp [Instr.lookup, run_underlying hm, MapKept.run_getObj_map hb, run_checkKey hd (K.key k), run_findKey hd h2, Result.andThen, hz, h1]
 ·simp [Instr.lookup, run_underlying hm, MapKept.run_getObj_map hb, run_checkKey hd (K.key k), run_findKey hd h2, Result.andThen, h1]
theorem mods_setHeap {w : World} {r : Nat} {o o' : Obj} (_hb : w.heap[r]? = some o) : Mods [r] w { w with heap := w.heap.setIfInBounds r o' } :=
 ⟨rfl, rfl, rfl, by simp, fun k _ hS => by
  have : k ≠ r := fun e => hS (by simp [e])
  simp [Ne.symm this]⟩
theorem MapAt.run_update [DecidableEq α] (h : MapAt kv w m ps) (K : KeyKind kv d) (hm : P.underlying mty = some (.map kt et)) (hd : P.underlying kt = some d) (k : α) (v : Value) :
  ∃ w', (Instr.mapUpdate mty (.map (some m)) (kv k) v).run P w = .ok () w' ∧ MapAt kv w' m (setP k v ps) ∧ Mods [m] w w' ∧ w'.heap.size = w.heap.size := by
 obtain ⟨es, c, hb, hs, hes⟩ := h
 rcases findNow_find K k es.toList ps 0 hes with ⟨h1, h2, h3, _, h5⟩ | ⟨j, v', h1, h2, ⟨e, h3, h4, h6⟩, _, h5⟩
 ·refine ⟨_, by simp [Instr.mapUpdate, run_underlying hm, MapKept.run_getObj_map hb, run_checkKey hd (K.key k), run_findKey hd h2, MapKept.run_setObj_map _ hb, Result.andThen]; rfl, ?_, mods_setHeap hb, by simp⟩
  exact ⟨_, _, (heap_set hb).1, stamped_push hs h3, by simp [h5, hes]⟩
 ·have hj : es[j]? = some e := by simpa using h3
  refine ⟨_, by simp [Instr.mapUpdate, run_underlying hm, MapKept.run_getObj_map hb, run_checkKey hd (K.key k), run_findKey hd h2, hj, h4, run_keyThatStays (K.key k), MapKept.run_setObj_map _ hb, Result.andThen]; rfl, ?_, mods_setHeap hb, by simp⟩
  refine ⟨_, _, (heap_set hb).1, stamped_modify hs _ _ (fun _ _ => rfl) (fun e' _ he' => by rw [hj] at he'; cases he'; exact h4.symm), ?_⟩
  rw [h5]
  apply List.ext_getElem?
  intro i
  have hi := congrArg (fun l => l[i]?) hes
  simp only [List.getElem?_map, Array.getElem?_toList] at hi
  simp only [List.getElem?_map, Array.getElem?_toList, Array.getElem?_modify, List.getElem?_set]
  by_cases hij : j = i
  ·subst hij
   have hlt : j < ps.length := by
    rw [hj] at hi
    rcases Nat.lt_or_ge j ps.length with h | h
    ·exact h
    ·simp [List.getElem?_eq_none h] at hi
   simp [hj, hlt]
  ·simp only [hij, if_false]
   exact hi
theorem wpList_mapUpdate_at [DecidableEq α] (w : World) {ops : Array Oper} {rest : List Oper} {o : Oper} {a : Act} {Q : Exit → Act → World → Prop}
  (hg : o.guard = none) (mo xo vo : Operand) (t : TypeId) (hop : o.op = Op.mapUpdate t mo xo vo) (K : KeyKind kv d) (ht : P.underlying t = some (.map kt et)) (hd : P.underlying kt = some d)
  (hm : a.eval mo = .map (some m)) (hown : MapAt kv w m ps) (k : α) (v : Value) (hx : a.eval xo = kv k) (hv : a.eval vo = v)
  (hK : ∀ w', MapAt kv w' m (setP k v ps) → Mods [m] w w' → w'.heap.size = w.heap.size → wpList P ops Q rest (a.put o.dst undef) w') :
  wpList P ops Q (o :: rest) a w := by
 refine wpList_plain hg fun K' hK' => ?_
 obtain ⟨w', hrun, r1, r2, r3⟩ := hown.run_update K ht hd k v
 unfold Oper.wp
 simp [execOp, hop, hm, hx, hv, hrun, Result.andThen]
 exact hK' _ _ (hK w' r1 r2 r3)
end
end Go.El

/- Layer 9 (oper): operators as data, and what the calls compute, as plain functions. No program in sight. -/
namespace Go.El
open Go.RowKit
theorem wpList_lookup_at {α : Type} [DecidableEq α] {kv : α → Value} {d : TypeDesc} {P : Program} {mty kt et : TypeId} (w : World) {ops : Array Oper} {rest : List Oper} {o : Oper} {a : Act} {Q : Exit → Act → World → Prop}
  (hg : o.guard = none) (mo xo : Operand) (ok : Bool) (hop : o.op = Op.lookup mty mo xo ok) (K : KeyKind kv d) (ht : P.underlying mty = some (.map kt et)) (hd : P.underlying kt = some d)
  (m : Nat) (hm : a.eval mo = .map (some m)) (k : α) (hx : a.eval xo = kv k) (z : Value) (hz : ∀ W, (zeroValue et).run P W = .ok z W) (ps : List (α × Value)) (hown : MapAt kv w m ps)
  (hK : wpList P ops Q rest (a.put o.dst (if ok then .tuple #[(findP k ps).getD z, .bool (findP k ps).isSome] else (findP k ps).getD z)) w) :
  wpList P ops Q (o :: rest) a w := by
 refine wpList_plain hg fun K' hK' => ?_
 have hrun := hown.run_lookup K ht hd (hz w) k ok
 unfold Oper.wp
 simp [execOp, hop, hm, hx, hrun, Result.andThen]
 exact hK' _ _ hK
end Go.El

/- Layers 6 and 11, plain: terms, whether they may be, and their texts. No program in sight. -/
namespace Go.El
inductive Tm where
 | mk (k n : Int) (s : ByteArray) (l : List Tm)
def Tm.k : Tm → Int | .mk k _ _ _ => k
def Tm.n : Tm → Int | .mk _ n _ _ => n
def Tm.s : Tm → ByteArray | .mk _ _ s _ => s
def Tm.l : Tm → List Tm | .mk _ _ _ l => l
mutual
def szT : Tm → Nat
 | .mk _ _ _ l => 1 + szL l
def szL : List Tm → Nat
 | [] => 0
 | t :: r => szT t + szL r
end
mutual
def dpT : Tm → Nat
 | .mk _ _ _ l => 1 + dpL l
def dpL : List Tm → Nat
 | [] => 0
 | t :: r => max (dpT t) (dpL r)
end
def partK (k n : Int) (s : ByteArray) (m : Nat) : Bool :=
 if k = 1 then decide (0 ≤ n ∧ n < 1073741824 ∧ s.size = 0 ∧ m = 0)
 else if k = 2 then decide (-9007199254740991 ≤ n ∧ n ≤ 9007199254740991 ∧ s.size = 0 ∧ m = 0)
 else if k = 3 then decide (n = 0 ∧ s.size ≤ 64 ∧ m = 0)
 else if k = 4 then decide (n = 0 ∧ s.size ≤ 64 ∧ 1 ≤ m ∧ m ≤ 16)
 else false
mutual
def okT : Tm → Bool
 | .mk k n s l => partK k n s l.length && okL l
def okL : List Tm → Bool
 | [] => true
 | t :: r => okT t && okL r
end
def chkT (t : Tm) : Int := if okT t = false then 60 else if 200 < dpT t then 61 else if 4096 < szT t then 62 else 0
theorem szT_pos (t : Tm) : 1 ≤ szT t := by cases t; simp [szT]
theorem dpT_pos (t : Tm) : 1 ≤ dpT t := by cases t; simp [dpT]
theorem szL_get : ∀ {l : List Tm} {j : Nat} {t : Tm}, l[j]? = some t → szT t ≤ szL l
 | [], j, t, h => by simp at h
 | a :: r, 0, t, h => by
  simp at h
  subst h
  simp [szL]
 | a :: r, j + 1, t, h => by
  have := szL_get (l := r) (j := j) (t := t) (by simpa using h)
  simp only [szL]
  omega
theorem szT_lt {t u : Tm} {j : Nat} (h : t.l[j]? = some u) : szT u < szT t := by
 cases t with
 | mk k n s l =>
  have := szL_get h
  simp only [szT, Tm.l] at *
  omega
theorem szL_take : ∀ {l : List Tm} {j : Nat} {t : Tm}, l[j]? = some t → szL (l.take (j + 1)) = szL (l.take j) + szT t
 | [], j, t, h => by simp at h
 | a :: r, 0, t, h => by
  simp at h
  subst h
  simp [szL]
 | a :: r, j + 1, t, h => by
  have := szL_take (l := r) (j := j) (t := t) (by simpa using h)
  simp only [List.take_succ_cons, szL]
  rw [this]
  omega
theorem szL_take_le : ∀ (l : List Tm) (j : Nat), szL (l.take j) ≤ szL l
 | [], j => by simp [szL]
 | a :: r, 0 => by simp [szL]
 | a :: r, j + 1 => by
  have := szL_take_le r j
  simp only [List.take_succ_cons, szL]
  omega
theorem len_szL : ∀ l : List Tm, l.length ≤ szL l
 | [] => Nat.le_refl _
 | t :: l => by
  have := len_szL l
  have := szT_pos t
  simp only [List.length_cons, szL]
  omega
theorem dpL_get : ∀ {l : List Tm} {j : Nat} {t : Tm}, l[j]? = some t → dpT t ≤ dpL l
 | [], j, t, h => by simp at h
 | a :: r, 0, t, h => by
  simp at h
  subst h
  simp only [dpL]
  omega
 | a :: r, j + 1, t, h => by
  have := dpL_get (l := r) (j := j) (t := t) (by simpa using h)
  simp only [dpL]
  omega
theorem dpL_take : ∀ {l : List Tm} {j : Nat} {t : Tm}, l[j]? = some t → dpL (l.take (j + 1)) = max (dpL (l.take j)) (dpT t)
 | [], j, t, h => by simp at h
 | a :: r, 0, t, h => by
  simp at h
  subst h
  simp [dpL]
 | a :: r, j + 1, t, h => by
  have := dpL_take (l := r) (j := j) (t := t) (by simpa using h)
  simp only [List.take_succ_cons, dpL]
  rw [this]
  omega
theorem okL_take : ∀ {l : List Tm} {j : Nat} {t : Tm}, l[j]? = some t → okL (l.take (j + 1)) = (okL (l.take j) && okT t)
 | [], j, t, h => by simp at h
 | a :: r, 0, t, h => by
  simp at h
  subst h
  simp [okL]
 | a :: r, j + 1, t, h => by
  have := okL_take (l := r) (j := j) (t := t) (by simpa using h)
  simp only [List.take_succ_cons, okL]
  rw [this, Bool.and_assoc]
theorem okL_get : ∀ {l : List Tm} {j : Nat} {t : Tm}, okL l = true → l[j]? = some t → okT t = true
 | [], j, t, _, h => by simp at h
 | a :: r, 0, t, ho, h => by
  simp at h
  subst h
  simp only [okL, Bool.and_eq_true] at ho
  exact ho.1
 | a :: r, j + 1, t, ho, h => by
  simp only [okL, Bool.and_eq_true] at ho
  exact okL_get (l := r) (j := j) ho.2 (by simpa using h)
def mayT (t : Tm) : Bool := chkT t == 0
theorem mayT_iff {t : Tm} : mayT t = true ↔ okT t = true ∧ dpT t ≤ 200 ∧ szT t ≤ 4096 := by
 unfold mayT chkT
 cases okT t
 ·simp
 ·by_cases h1 : 200 < dpT t
  ·simp [h1]; omega
  ·by_cases h2 : 4096 < szT t
   ·simp [h1, h2]
   ·simp [h1, h2]; omega
theorem mayT_get {t u : Tm} {j : Nat} (ht : mayT t = true) (h : t.l[j]? = some u) : mayT u = true := by
 obtain ⟨h1, h2, h3⟩ := mayT_iff.1 ht
 have hlt := szT_lt h
 cases t with
 | mk k n s l =>
  simp only [Tm.l] at h
  simp only [okT, Bool.and_eq_true] at h1
  have hd := dpL_get h
  simp only [dpT] at h2
  exact mayT_iff.2 ⟨okL_get h1.2 h, by omega, by omega⟩
end Go.El

/- Terms in memory, and the state of a writer. -/
namespace Go.El
open Go.RowKit
inductive TmIn (D : Nat → Prop) (w : World) : Tm → Option Addr → Nat → Prop
 | mk (k n : Int) (s : ByteArray) (l : List Tm) (A : Option Addr) (cap : Nat) (ch : List (Option Addr × Nat))
   (hl : ch.length = l.length)
   (hr : ∀ (j : Nat) (t : Tm) (c : Option Addr × Nat), l[j]? = some t → ch[j]? = some c → TmIn D w t c.1 c.2)
   (hs : l ≠ [] → ∃ b off, A = some ⟨b, off, none⟩ ∧ D b ∧ ∀ (j : Nat) (t : Tm) (c : Option Addr × Nat), l[j]? = some t → ch[j]? = some c → w.cell? ⟨b, off + j * 4, none⟩ = some (.int .i64 t.k) ∧ w.cell? ⟨b, off + j * 4 + 1, none⟩ = some (.int .i64 t.n) ∧ w.cell? ⟨b, off + j * 4 + 2, none⟩ = some (.string t.s) ∧ w.cell? ⟨b, off + j * 4 + 3, none⟩ = some (.slice c.1 t.l.length c.2))
   (hc : l.length ≤ cap) : TmIn D w (.mk k n s l) A cap
def tmVal (t : Tm) (A : Option Addr) (cap : Nat) : Value := .agg #[.int .i64 t.k, .int .i64 t.n, .string t.s, .slice A t.l.length cap]
theorem TmIn.mods {D D' : Nat → Prop} {S : List Nat} {w w' : World} (hm : Mods S w w') (hS : ∀ k, D k → k ∉ S) (hD : ∀ k, D k → D' k) {t : Tm} {A : Option Addr} {c : Nat} (h : TmIn D w t A c) : TmIn D' w' t A c := by
 induction h with
 | mk k n s l A cap ch hl hr hs hc ih =>
  refine .mk k n s l A cap ch hl ih (fun hne => ?_) hc
  obtain ⟨b, off, hA, hb, hcell⟩ := hs hne
  refine ⟨b, off, hA, hD b hb, fun j t c ht hcj => ?_⟩
  obtain ⟨h0, h1, h2, h3⟩ := hcell j t c ht hcj
  exact ⟨hm.cell h0 (hS b hb), hm.cell h1 (hS b hb), hm.cell h2 (hS b hb), hm.cell h3 (hS b hb)⟩
theorem TmIn.ext {D : Nat → Prop} {w w' : World} (hx : Ext w w') {t : Tm} {A : Option Addr} {c : Nat} (h : TmIn D w t A c) : TmIn D w' t A c :=
 TmIn.mods (Mods.ext (S := []) hx) (fun _ _ => by simp) (fun _ h => h) h
theorem TmIn.mono {D D' : Nat → Prop} {w : World} (hD : ∀ k, D k → D' k) {t : Tm} {A : Option Addr} {c : Nat} (h : TmIn D w t A c) : TmIn D' w t A c :=
 TmIn.mods (Mods.refl [] w) (fun _ _ => by simp) hD h
theorem TmIn.child {D : Nat → Prop} {w : World} {t : Tm} {A : Option Addr} {c : Nat} (h : TmIn D w t A c) {j : Nat} {u : Tm} (hj : t.l[j]? = some u) : ∃ b off A' c', A = some ⟨b, off, none⟩ ∧ D b ∧ TmIn D w u A' c' ∧ w.cell? ⟨b, off + j * 4, none⟩ = some (.int .i64 u.k) ∧ w.cell? ⟨b, off + j * 4 + 1, none⟩ = some (.int .i64 u.n) ∧ w.cell? ⟨b, off + j * 4 + 2, none⟩ = some (.string u.s) ∧ w.cell? ⟨b, off + j * 4 + 3, none⟩ = some (.slice A' u.l.length c') := by
 cases h with
 | mk k n s l A cap ch hl hr hs hc =>
  simp only [Tm.l] at hj
  have hlt := (List.getElem?_eq_some_iff.1 hj).1
  have hne : l ≠ [] := by
   rintro rfl
   simp at hlt
  obtain ⟨b, off, hA, hb, hcell⟩ := hs hne
  have hcj : ch[j]? = some (ch[j]'(by omega)) := List.getElem?_eq_getElem (by omega)
  obtain ⟨h0, h1, h2, h3⟩ := hcell j u _ hj hcj
  exact ⟨b, off, _, _, hA, hb, hr j u _ hj hcj, h0, h1, h2, h3⟩
def TmsIn (D : Nat → Prop) (w : World) (l : List Tm) (A : Option Addr) (cap : Nat) : Prop := TmIn D w (.mk 0 0 ⟨#[]⟩ l) A cap
theorem TmIn.args {D : Nat → Prop} {w : World} {t : Tm} {A : Option Addr} {c : Nat} (h : TmIn D w t A c) : TmsIn D w t.l A c := by
 cases h with
 | mk k n s l A cap ch hl hr hs hc => exact .mk 0 0 _ _ _ _ ch hl hr hs hc
theorem TmsIn.term {D : Nat → Prop} {w : World} {l : List Tm} {A : Option Addr} {c : Nat} (h : TmsIn D w l A c) (k n : Int) (s : ByteArray) : TmIn D w (.mk k n s l) A c := by
 cases h with
 | mk _ _ _ _ _ _ ch hl hr hs hc => exact .mk k n s l A c ch hl hr hs hc
theorem TmsIn.nil (D : Nat → Prop) (w : World) (A : Option Addr) (c : Nat) : TmsIn D w [] A c :=
 .mk 0 0 _ [] A c [] rfl (fun j t c h => by simp at h) (fun h => absurd rfl h) (Nat.zero_le _)
end Go.El

/- Layer 6, the program: the walks of bare, part, of, measure, Check, may. -/
namespace Go.Proofs.YtmnnhdegoapfcaaGreatDoor
open Go.RowKit Go.El
theorem size_nil (s : ByteArray) : (s.toList == ([] : List UInt8)) = decide (s.size = 0) := by
 rw [ByteArray.toList_eq, Bool.eq_iff_iff, beq_iff_eq, decide_eq_true_iff]
 rw [← List.length_eq_zero_iff]
 simp
theorem ret_boolP {a b : Bool} (h : a = true ↔ b = true) : Ending.returned (.bool a) = .returned (.bool b) := by rw [Bool.eq_iff_iff.2 h]
set_option maxRecDepth 100000 in
set_option maxHeartbeats 1000000 in
theorem bare_any (t : Tm) (A : Option Addr) (c : Nat) (w : World) :
  Calls Tryz.prog 240 #[tmVal t A c] w fun e w' => e = .returned (.bool (decide (t.s.size = 0 ∧ t.l.length = 0))) ∧ Ext w w' := by
 have h0 := size_nil t.s
 unfold tmVal
 by_cases h1 : t.s.size = 0
 ·rw [decide_eq_true h1] at h0
  go_enter Tryz.func240, Tryz.ntmps240
  go_wp2_with fail
  all_goals
   go_ret
   exact ⟨ret_boolP (by simp [h1]), ext_box _ _⟩
 ·rw [decide_eq_false h1] at h0
  go_enter Tryz.func240, Tryz.ntmps240
  go_wp2_with fail
  all_goals
   go_ret
   exact ⟨ret_boolP (by simp [h1]), ext_box _ _⟩
set_option maxRecDepth 100000 in
set_option maxHeartbeats 4000000 in
theorem part_any (t : Tm) (A : Option Addr) (c : Nat) (w : World) :
  Calls Tryz.prog 219 #[tmVal t A c] w fun e w' => e = .returned (.bool (partK t.k t.n t.s t.l.length)) ∧ Ext w w' := by
 unfold tmVal
 have hB := fun W => Lib.hid (bare_any t A c W)
 unfold tmVal at hB
 generalize t.l.length = m at *
 generalize t.s = s at *
 generalize t.n = n at *
 generalize t.k = k at *
 by_cases hn : n = 0
 ·subst hn
  by_cases hz : (s.size : Int) ≤ 64
  ·by_cases k1 : k = 1
   ·subst k1
    go_enter Tryz.func219, Tryz.ntmps219
    go_wp2_with (go_at_call 240; refine (hB _).out.mono ?_; rintro e W1 ⟨rfl, hx⟩; have HX := Lib.hid ((ext_box w _).trans hx); clear hx)
    go_ret
    refine ⟨ret_boolP (by first | (simp [partK]; done) | (simp [partK]; omega) | (simp [partK, c1, c2]; done)), ?_⟩
    first | exact HX.out | exact ext_box _ _
   by_cases k2 : k = 2
   ·subst k2
    go_enter Tryz.func219, Tryz.ntmps219
    go_wp2_with (go_at_call 240; refine (hB _).out.mono ?_; rintro e W1 ⟨rfl, hx⟩; have HX := Lib.hid ((ext_box w _).trans hx); clear hx)
    go_ret
    refine ⟨ret_boolP (by first | (simp [partK]; done) | (simp [partK]; omega) | (simp [partK, c1, c2]; done)), ?_⟩
    first | exact HX.out | exact ext_box _ _
   by_cases k3 : k = 3
   ·subst k3
    by_cases c1 : m = 0
    ·go_enter Tryz.func219, Tryz.ntmps219
     go_wp2_with fail
     go_ret
     refine ⟨ret_boolP (by first | (simp [partK]; done) | (simp [partK]; omega) | (simp [partK, c1, c2]; done)), ?_⟩
     first | exact HX.out | exact ext_box _ _
    ·go_enter Tryz.func219, Tryz.ntmps219
     go_wp2_with fail
     go_ret
     refine ⟨ret_boolP (by first | (simp [partK]; done) | (simp [partK]; omega) | (simp [partK, c1, c2]; done)), ?_⟩
     first | exact HX.out | exact ext_box _ _
   by_cases k4 : k = 4
   ·subst k4
    by_cases c1 : 1 ≤ (m : Int)
    ·by_cases c2 : (m : Int) ≤ 16
     ·go_enter Tryz.func219, Tryz.ntmps219
      go_wp2_with fail
      go_ret
      refine ⟨ret_boolP (by first | (simp [partK]; done) | (simp [partK]; omega) | (simp [partK, c1, c2]; done)), ?_⟩
      first | exact HX.out | exact ext_box _ _
     ·go_enter Tryz.func219, Tryz.ntmps219
      go_wp2_with fail
      go_ret
      refine ⟨ret_boolP (by first | (simp [partK]; done) | (simp [partK]; omega) | (simp [partK, c1, c2]; done)), ?_⟩
      first | exact HX.out | exact ext_box _ _
    ·go_enter Tryz.func219, Tryz.ntmps219
     go_wp2_with fail
     go_ret
     refine ⟨ret_boolP (by first | (simp [partK]; done) | (simp [partK]; omega) | (simp [partK, c1, c2]; done)), ?_⟩
     first | exact HX.out | exact ext_box _ _
   have q1 : (k == 1) = false := by simpa using k1
   have q2 : (k == 2) = false := by simpa using k2
   have q3 : (k == 3) = false := by simpa using k3
   have q4 : (k == 4) = false := by simpa using k4
   go_enter Tryz.func219, Tryz.ntmps219
   go_wp2_with fail
   go_ret
   refine ⟨ret_boolP (by simp [partK, k1, k2, k3, k4]), ?_⟩
   exact ext_box _ _
  ·by_cases k1 : k = 1
   ·subst k1
    go_enter Tryz.func219, Tryz.ntmps219
    go_wp2_with (go_at_call 240; refine (hB _).out.mono ?_; rintro e W1 ⟨rfl, hx⟩; have HX := Lib.hid ((ext_box w _).trans hx); clear hx)
    go_ret
    refine ⟨ret_boolP (by first | (simp [partK]; done) | (simp [partK]; omega) | (simp [partK, c1, c2]; done)), ?_⟩
    first | exact HX.out | exact ext_box _ _
   by_cases k2 : k = 2
   ·subst k2
    go_enter Tryz.func219, Tryz.ntmps219
    go_wp2_with (go_at_call 240; refine (hB _).out.mono ?_; rintro e W1 ⟨rfl, hx⟩; have HX := Lib.hid ((ext_box w _).trans hx); clear hx)
    go_ret
    refine ⟨ret_boolP (by first | (simp [partK]; done) | (simp [partK]; omega) | (simp [partK, c1, c2]; done)), ?_⟩
    first | exact HX.out | exact ext_box _ _
   by_cases k3 : k = 3
   ·subst k3
    go_enter Tryz.func219, Tryz.ntmps219
    go_wp2_with fail
    go_ret
    refine ⟨ret_boolP (by first | (simp [partK]; done) | (simp [partK]; omega) | (simp [partK, c1, c2]; done)), ?_⟩
    first | exact HX.out | exact ext_box _ _
   by_cases k4 : k = 4
   ·subst k4
    go_enter Tryz.func219, Tryz.ntmps219
    go_wp2_with fail
    go_ret
    refine ⟨ret_boolP (by first | (simp [partK]; done) | (simp [partK]; omega) | (simp [partK, c1, c2]; done)), ?_⟩
    first | exact HX.out | exact ext_box _ _
   have q1 : (k == 1) = false := by simpa using k1
   have q2 : (k == 2) = false := by simpa using k2
   have q3 : (k == 3) = false := by simpa using k3
   have q4 : (k == 4) = false := by simpa using k4
   go_enter Tryz.func219, Tryz.ntmps219
   go_wp2_with fail
   go_ret
   refine ⟨ret_boolP (by simp [partK, k1, k2, k3, k4]), ?_⟩
   exact ext_box _ _
 ·have hn2 : (n == 0) = false := by simpa using hn
  by_cases k1 : k = 1
  ·subst k1
   by_cases c1 : 0 ≤ n
   ·by_cases c2 : n < 1073741824
    ·go_enter Tryz.func219, Tryz.ntmps219
     go_wp2_with (go_at_call 240; refine (hB _).out.mono ?_; rintro e W1 ⟨rfl, hx⟩; have HX := Lib.hid ((ext_box w _).trans hx); clear hx)
     go_ret
     refine ⟨ret_boolP (by first | (simp [partK]; done) | (simp [partK]; omega) | (simp [partK, c1, c2]; done)), ?_⟩
     first | exact HX.out | exact ext_box _ _
    ·go_enter Tryz.func219, Tryz.ntmps219
     go_wp2_with (go_at_call 240; refine (hB _).out.mono ?_; rintro e W1 ⟨rfl, hx⟩; have HX := Lib.hid ((ext_box w _).trans hx); clear hx)
     go_ret
     refine ⟨ret_boolP (by first | (simp [partK]; done) | (simp [partK]; omega) | (simp [partK, c1, c2]; done)), ?_⟩
     first | exact HX.out | exact ext_box _ _
   ·go_enter Tryz.func219, Tryz.ntmps219
    go_wp2_with (go_at_call 240; refine (hB _).out.mono ?_; rintro e W1 ⟨rfl, hx⟩; have HX := Lib.hid ((ext_box w _).trans hx); clear hx)
    go_ret
    refine ⟨ret_boolP (by first | (simp [partK]; done) | (simp [partK]; omega) | (simp [partK, c1, c2]; done)), ?_⟩
    first | exact HX.out | exact ext_box _ _
  by_cases k2 : k = 2
  ·subst k2
   by_cases c1 : -9007199254740991 ≤ n
   ·by_cases c2 : n ≤ 9007199254740991
    ·go_enter Tryz.func219, Tryz.ntmps219
     go_wp2_with (go_at_call 240; refine (hB _).out.mono ?_; rintro e W1 ⟨rfl, hx⟩; have HX := Lib.hid ((ext_box w _).trans hx); clear hx)
     go_ret
     refine ⟨ret_boolP (by first | (simp [partK]; done) | (simp [partK]; omega) | (simp [partK, c1, c2]; done)), ?_⟩
     first | exact HX.out | exact ext_box _ _
    ·go_enter Tryz.func219, Tryz.ntmps219
     go_wp2_with (go_at_call 240; refine (hB _).out.mono ?_; rintro e W1 ⟨rfl, hx⟩; have HX := Lib.hid ((ext_box w _).trans hx); clear hx)
     go_ret
     refine ⟨ret_boolP (by first | (simp [partK]; done) | (simp [partK]; omega) | (simp [partK, c1, c2]; done)), ?_⟩
     first | exact HX.out | exact ext_box _ _
   ·go_enter Tryz.func219, Tryz.ntmps219
    go_wp2_with (go_at_call 240; refine (hB _).out.mono ?_; rintro e W1 ⟨rfl, hx⟩; have HX := Lib.hid ((ext_box w _).trans hx); clear hx)
    go_ret
    refine ⟨ret_boolP (by first | (simp [partK]; done) | (simp [partK]; omega) | (simp [partK, c1, c2]; done)), ?_⟩
    first | exact HX.out | exact ext_box _ _
  by_cases k3 : k = 3
  ·subst k3
   go_enter Tryz.func219, Tryz.ntmps219
   go_wp2_with fail
   go_ret
   refine ⟨ret_boolP (by first | (simp [partK]; done) | (simp [partK]; omega) | (simp [partK, c1, c2]; done)), ?_⟩
   first | exact HX.out | exact ext_box _ _
  by_cases k4 : k = 4
  ·subst k4
   go_enter Tryz.func219, Tryz.ntmps219
   go_wp2_with fail
   go_ret
   refine ⟨ret_boolP (by first | (simp [partK]; done) | (simp [partK]; omega) | (simp [partK, c1, c2]; done)), ?_⟩
   first | exact HX.out | exact ext_box _ _
  have q1 : (k == 1) = false := by simpa using k1
  have q2 : (k == 2) = false := by simpa using k2
  have q3 : (k == 3) = false := by simpa using k3
  have q4 : (k == 4) = false := by simpa using k4
  go_enter Tryz.func219, Tryz.ntmps219
  go_wp2_with fail
  go_ret
  refine ⟨ret_boolP (by simp [partK, k1, k2, k3, k4]), ?_⟩
  exact ext_box _ _
end Go.Proofs.YtmnnhdegoapfcaaGreatDoor
