/- What a call may turn: 'Mods S w w'': of the blocks that were there, those in S alone. Plain lemmas over any program. -/
import Derived.WalkKit
import Derived.WalkSpells
import Derived.MapKept
import Derived.Lib.Hide
import Derived.Deep.QuietTactic
import Derived.BigQuiet
import Derived.Deep.DeepCutAuto
import Derived.Deep.RegionHeld3
import Derived.IntWalk
import Derived.Lib.IndexAny
import Derived.Lib.Strings
import Derived.Maps.AppendAt
namespace Go.El
open Go.RowKit
structure Mods (S : List Nat) (w w' : World) : Prop where
 os : w'.os = w.os
 tape : w'.tape = w.tape
 output : w'.output = w.output
 size : w.heap.size ≤ w'.heap.size
 block : ∀ k, k < w.heap.size → k ∉ S → w'.heap[k]? = w.heap[k]?
abbrev Ext (w w' : World) : Prop := Below w.heap.size w w'
theorem Ext.refl (w : World) : Ext w w := Below.refl _ _
theorem Ext.trans {a b c : World} (h : Ext a b) (k : Ext b c) : Ext a c := Below.trans h (Below.mono k h.size)
theorem Ext.alloc {a w : World} (h : Ext a w) (o : Obj) : Ext a (w.alloc o) := Below.alloc h h.size o
theorem Ext.drew {a w : World} (h : Ext a w) : Ext a w.drew := Below.drew h
theorem Ext.drewN {a w : World} (h : Ext a w) (n : Nat) : Ext a (w.drewN n) := ⟨h.os, h.tape, h.output, h.size, h.block⟩
theorem Ext.setCell {a w : World} (h : Ext a w) {p : Addr} (hp : a.heap.size ≤ p.block) (u : Value) : Ext a (w.setCell p u) := Below.setCell h hp u
theorem Ext.heap {w w' : World} (h : Ext w w') {k : Nat} {o : Obj} (hk : w.heap[k]? = some o) : w'.heap[k]? = some o :=
 (h.block k (Array.getElem?_eq_some_iff.1 hk).1).trans hk
theorem Ext.cell {w w' : World} (h : Ext w w') {p : Addr} {v : Value} (hc : w.cell? p = some v) : w'.cell? p = some v := by
 have hlt : p.block < w.heap.size := by
  rcases Nat.lt_or_ge p.block w.heap.size with h | h
  ·exact h
  ·simp [World.cell?, Array.getElem?_eq_none h] at hc
 exact (Below.cell h hlt).trans hc
theorem Mods.refl (S : List Nat) (w : World) : Mods S w w := ⟨rfl, rfl, rfl, Nat.le_refl _, fun _ _ _ => rfl⟩
theorem Mods.trans {S : List Nat} {a b c : World} (h : Mods S a b) (k : Mods S b c) : Mods S a c :=
 ⟨k.os.trans h.os, k.tape.trans h.tape, k.output.trans h.output, Nat.le_trans h.size k.size, fun i hi hS => (k.block i (Nat.lt_of_lt_of_le hi h.size) hS).trans (h.block i hi hS)⟩
theorem Mods.mono {S T : List Nat} {a b : World} (h : Mods S a b) (hs : ∀ k, k ∈ S → k ∈ T) : Mods T a b :=
 ⟨h.os, h.tape, h.output, h.size, fun k hk hT => h.block k hk (fun e => hT (hs k e))⟩
theorem Mods.ext {S : List Nat} {a b : World} (h : Ext a b) : Mods S a b := ⟨h.os, h.tape, h.output, h.size, fun k hk _ => h.block k hk⟩
theorem Mods.alloc {S : List Nat} {a w : World} (h : Mods S a w) (o : Obj) : Mods S a (w.alloc o) := h.trans (Mods.ext ((Ext.refl w).alloc o))
theorem Mods.drew {S : List Nat} {a w : World} (h : Mods S a w) : Mods S a w.drew := ⟨h.os, h.tape, h.output, h.size, h.block⟩
theorem Mods.setCell {S : List Nat} {a w : World} (h : Mods S a w) {p : Addr} (hp : p.block ∈ S ∨ a.heap.size ≤ p.block) (u : Value) : Mods S a (w.setCell p u) :=
 ⟨h.os, h.tape, h.output, by simpa [World.setCell] using h.size, fun k hk hS => (Below.heap_setCell w p u k (by
  rintro rfl
  rcases hp with hp | hp
  ·exact hS hp
  ·omega)).trans (h.block k hk hS)⟩
theorem Mods.step {S T : List Nat} {a b c : World} (h : Mods S a b) (k : Mods T b c) (hT : ∀ x, x ∈ T → x ∈ S ∨ a.heap.size ≤ x) : Mods S a c :=
 ⟨k.os.trans h.os, k.tape.trans h.tape, k.output.trans h.output, Nat.le_trans h.size k.size, fun i hi hS => (k.block i (Nat.lt_of_lt_of_le hi h.size) (fun e => by
  rcases hT i e with e | e
  ·exact hS e
  ·omega)).trans (h.block i hi hS)⟩
theorem Mods.below {S : List Nat} {B : Nat} {a b : World} (h : Mods S a b) (hB : B ≤ a.heap.size) (hS : ∀ k, k ∈ S → B ≤ k) : Below B a b :=
 ⟨h.os, h.tape, h.output, h.size, fun k hk => h.block k (Nat.lt_of_lt_of_le hk hB) (fun e => by have := hS k e; omega)⟩
theorem Mods.toExt {S : List Nat} {a b : World} (h : Mods S a b) (hS : ∀ k, k ∈ S → a.heap.size ≤ k) : Ext a b := h.below (Nat.le_refl _) hS
theorem Mods.heap {S : List Nat} {w w' : World} (h : Mods S w w') {k : Nat} {o : Obj} (hk : w.heap[k]? = some o) (hS : k ∉ S) : w'.heap[k]? = some o :=
 (h.block k (Array.getElem?_eq_some_iff.1 hk).1 hS).trans hk
theorem cell_of_heap {w w' : World} {p : Addr} (h : w'.heap[p.block]? = w.heap[p.block]?) : w'.cell? p = w.cell? p := World.cell?_of_block h
theorem Mods.cell {S : List Nat} {w w' : World} (h : Mods S w w') {p : Addr} {v : Value} (hc : w.cell? p = some v) (hS : p.block ∉ S) : w'.cell? p = some v := by
 have hlt : p.block < w.heap.size := by
  rcases Nat.lt_or_ge p.block w.heap.size with h | h
  ·exact h
  ·simp [World.cell?, Array.getElem?_eq_none h] at hc
 exact (cell_of_heap (h.block p.block hlt hS)).trans hc
theorem cell_lt {w : World} {p : Addr} {v : Value} (hc : w.cell? p = some v) : p.block < w.heap.size := by
 rcases Nat.lt_or_ge p.block w.heap.size with h | h
 ·exact h
 ·simp [World.cell?, Array.getElem?_eq_none h] at hc
theorem heap_lt {w : World} {k : Nat} {o : Obj} (hk : w.heap[k]? = some o) : k < w.heap.size := (Array.getElem?_eq_some_iff.1 hk).1
def Blk (w : World) (g : Nat) (t : TypeId) (cs : Array Value) : Prop := w.heap[g]? = some (.cells cs t (0, 0))
section
variable {w w' : World} {g : Nat} {t : TypeId} {cs : Array Value}
theorem Blk.lt (h : Blk w g t cs) : g < w.heap.size := heap_lt h
theorem Blk.cell (h : Blk w g t cs) (i : Nat) : w.cell? ⟨g, i, none⟩ = cs[i]? := cell_of_row w g i cs t (0, 0) h
theorem Blk.frozen (h : Blk w g t cs) (i : Nat) : w.frozen? ⟨g, i, none⟩ = false := by
 unfold Blk at h
 simp [World.frozen?, h]
theorem Blk.new (w : World) (t : TypeId) (cs : Array Value) : Blk (w.alloc (.cells cs t)) w.heap.size t cs := heap_alloc_new w _
theorem Blk.ext (h : Blk w g t cs) (he : Ext w w') : Blk w' g t cs := he.heap h
theorem Blk.mods {S : List Nat} (h : Blk w g t cs) (hm : Mods S w w') (hS : g ∉ S) : Blk w' g t cs := hm.heap h hS
theorem Blk.drewN (h : Blk w g t cs) (n : Nat) : Blk (w.drewN n) g t cs := h
theorem Blk.alloc (h : Blk w g t cs) (o : Obj) : Blk (w.alloc o) g t cs := h.ext ((Ext.refl w).alloc o)
theorem Blk.set_ (h : Blk w g t cs) (i : Nat) (u : Value) : Blk (w.setCell ⟨g, i, none⟩ u) g t (cs.setIfInBounds i u) := by
 unfold Blk at h ⊢
 simp [World.setCell, Array.getElem?_modify, h]
theorem Blk.far (h : Blk w g t cs) {p : Addr} (hp : g ≠ p.block) (u : Value) : Blk (w.setCell p u) g t cs := (Below.heap_setCell w p u g hp).trans h
end
theorem wp_abs {P : Program} {c : Code} {Q : Exit → Act → World → Prop} {a : Act} {w : World} (R : World → Prop) (h : R w) (k : ∀ w', R w' → c.wp P Q a w') : c.wp P Q a w := k w h
theorem new_cell {w w' : World} {cs : Array Value} {t : TypeId} (h : Ext (w.alloc (.cells cs t)) w') (i : Nat) : w'.cell? ⟨w.heap.size, i, none⟩ = cs[i]? :=
 ((Blk.new w t cs).ext h).cell i
end Go.El

/- Maps in memory: 'MapAt kv d w m ps': block m is a map whose entries are ps, in their order. The operations, as equations and in the walk's form. Over any program. -/
namespace Go.El
open Go.RowKit Go.MapKept
section
variable {α : Type}
def findP [DecidableEq α] (k : α) : List (α × Value) → Option Value
 | [] => none
 | p :: ps => if p.1 = k then some p.2 else findP k ps
def setP [DecidableEq α] (k : α) (v : Value) : List (α × Value) → List (α × Value)
 | [] => [(k, v)]
 | p :: ps => if p.1 = k then (k, v) :: ps else p :: setP k v ps
def delP [DecidableEq α] (k : α) : List (α × Value) → List (α × Value)
 | [] => []
 | p :: ps => if p.1 = k then ps else p :: delP k ps
theorem map_eraseIdx {β γ : Type} (f : β → γ) : ∀ (l : List β) (j : Nat), (l.eraseIdx j).map f = (l.map f).eraseIdx j
 | [], _ => rfl
 | _ :: _, 0 => rfl
 | a :: l, j + 1 => by simp [map_eraseIdx f l j]
structure KeyKind (kv : α → Value) (d : TypeDesc) : Prop where
 key : ∀ a, IsKey d (kv a)
 inj : ∀ a b, kv a = kv b → a = b
theorem strKind : KeyKind Value.string .string := ⟨fun _ => trivial, fun a b h => by injection h⟩
theorem intKind (k : IntKind) : KeyKind (Value.int k) (.int k) := ⟨fun _ => rfl, fun a b h => by injection h⟩
def MapAt (kv : α → Value) (w : World) (m : Nat) (ps : List (α × Value)) : Prop :=
 ∃ es clock, w.heap[m]? = some (.map es clock) ∧ Stamped es clock ∧ es.toList.map (fun e => (e.key, e.val)) = ps.map (fun p => (kv p.1, p.2))
variable {kv : α → Value} {d : TypeDesc} {w w' : World} {m : Nat} {ps : List (α × Value)}
theorem MapAt.lt (h : MapAt kv w m ps) : m < w.heap.size := by obtain ⟨es, c, hb, _⟩ := h; exact heap_lt hb
theorem MapAt.ext (h : MapAt kv w m ps) (he : Ext w w') : MapAt kv w' m ps := by obtain ⟨es, c, hb, r⟩ := h; exact ⟨es, c, he.heap hb, r⟩
theorem MapAt.mods {S : List Nat} (h : MapAt kv w m ps) (he : Mods S w w') (hS : m ∉ S) : MapAt kv w' m ps := by obtain ⟨es, c, hb, r⟩ := h; exact ⟨es, c, he.heap hb hS, r⟩
theorem MapAt.ne_cell (h : MapAt kv w m ps) {p : Addr} {v : Value} (hc : w.cell? p = some v) : p.block ≠ m := by
 rintro rfl
 obtain ⟨es, c, hb, _⟩ := h
 simp [World.cell?, hb] at hc
theorem MapAt.new (kv : α → Value) (w : World) : MapAt kv (w.alloc (.map #[] 0)) w.heap.size [] := ⟨#[], 0, (MapKept.heap_alloc w _).1, stamped_empty 0, by simp⟩
theorem MapAt.setCell (h : MapAt kv w m ps) (p : Addr) (u : Value) : MapAt kv (w.setCell p u) m ps := by
 obtain ⟨es, c, hb, r⟩ := h
 refine ⟨es, c, ?_, r⟩
 by_cases e : m = p.block
 ·subst e; simp [World.setCell, Array.getElem?_modify, hb]
 ·exact (Below.heap_setCell w p u m e).trans hb
theorem findNow_find [DecidableEq α] (K : KeyKind kv d) (k : α) : ∀ (l : List MapEntry) (ps : List (α × Value)) (i : Nat), l.map (fun e => (e.key, e.val)) = ps.map (fun p => (kv p.1, p.2)) →
  (findP k ps = none ∧ Instr.findNow d (kv k) l i = some none ∧ (∀ x ∈ l, x.key ≠ kv k) ∧ delP k ps = ps ∧ ∀ v, setP k v ps = ps ++ [(k, v)]) ∨
  ∃ j v, findP k ps = some v ∧ Instr.findNow d (kv k) l i = some (some (i + j, v)) ∧ (∃ e, l[j]? = some e ∧ e.key = kv k ∧ e.val = v) ∧ delP k ps = ps.eraseIdx j ∧ ∀ v, setP k v ps = ps.set j (k, v)
 | [], [], _, _ => .inl ⟨rfl, rfl, by simp, rfl, fun _ => rfl⟩
 | [], p :: ps, _, h => by simp at h
 | e :: es, [], _, h => by simp at h
 | e :: es, p :: ps, i, h => by
  simp only [List.map_cons, List.cons.injEq, Prod.mk.injEq] at h
  obtain ⟨⟨hk, hv⟩, ht⟩ := h
  obtain ⟨r, hr, hiff⟩ := sameNow_of_keys (K.key k) (by rw [hk]; exact K.key p.1 : IsKey d e.key)
  by_cases hpk : p.1 = k
  ·have hr' : r = true := hiff.2 (by rw [hk, hpk])
   subst hr'
   exact .inr ⟨0, p.2, by simp [findP, hpk], by simp [Instr.findNow, hr, hv], ⟨e, rfl, by rw [hk, hpk], hv⟩, by simp [delP, hpk], fun v => by simp [setP, hpk]⟩
  ·have hr' : r = false := by
    cases r with
    | false => rfl
    | true => exact absurd (K.inj _ _ (by rw [← hk]; exact (hiff.1 rfl).symm)) hpk
   subst hr'
   have hne : e.key ≠ kv k := fun q => hpk (K.inj _ _ (by rw [← hk]; exact q))
   rcases findNow_find K k es ps (i + 1) ht with ⟨h1, h2, h3, h4, h5⟩ | ⟨j, v, h1, h2, ⟨e', h3, h4, h5⟩, h6, h7⟩
   ·exact .inl ⟨by simp [findP, hpk, h1], by simp [Instr.findNow, hr, h2], fun x hx => by
     cases hx with
     | head => exact hne
     | tail _ hx => exact h3 x hx, by simp [delP, hpk, h4], fun v => by simp [setP, hpk, h5]⟩
   ·exact .inr ⟨j + 1, v, by simp [findP, hpk, h1], by simp [Instr.findNow, hr, h2]; omega, ⟨e', by simpa using h3, h4, h5⟩, by simp [delP, hpk, h6], fun v => by simp [setP, hpk, h7]⟩
variable {P : Program} {mty kt et : TypeId}
theorem MapAt.run_lookup [DecidableEq α] (h : MapAt kv w m ps) (K : KeyKind kv d) (hm : P.underlying mty = some (.map kt et)) (hd : P.underlying kt = some d) {z : Value} (hz : (zeroValue et).run P w = .ok z w) (k : α) (ok : Bool) :
  (Instr.lookup mty (.map (some m)) (kv k) ok).run P w = .ok (if ok then .tuple #[(findP k ps).getD z, .bool (findP k ps).isSome] else (findP k ps).getD z) w := by
 obtain ⟨es, c, hb, _, hes⟩ := h
 rcases findNow_find K k es.toList ps 0 hes with ⟨h1, h2, _⟩ | ⟨j, v, h1, h2, _⟩
 ·simp [Instr.lookup, run_underlying hm, MapKept.run_getObj_map hb, run_checkKey hd (K.key k), run_findKey hd h2, Result.andThen, hz, h1]
 ·simp [Instr.lookup, run_underlying hm, MapKept.run_getObj_map hb, run_checkKey hd (K.key k), run_findKey hd h2, Result.andThen, h1]
theorem mods_setHeap {w : World} {r : Nat} {o o' : Obj} (_hb : w.heap[r]? = some o) : Mods [r] w { w with heap := w.heap.setIfInBounds r o' } :=
 ⟨rfl, rfl, rfl, by simp, fun k _ hS => by
  have : k ≠ r := fun e => hS (by simp [e])
  simp [Ne.symm this]⟩
theorem MapAt.run_update [DecidableEq α] (h : MapAt kv w m ps) (K : KeyKind kv d) (hm : P.underlying mty = some (.map kt et)) (hd : P.underlying kt = some d) (k : α) (v : Value) :
  ∃ w', (Instr.mapUpdate mty (.map (some m)) (kv k) v).run P w = .ok () w' ∧ MapAt kv w' m (setP k v ps) ∧ Mods [m] w w' ∧ w'.heap.size = w.heap.size := by
 obtain ⟨es, c, hb, hs, hes⟩ := h
 rcases findNow_find K k es.toList ps 0 hes with ⟨h1, h2, h3, _, h5⟩ | ⟨j, v', h1, h2, ⟨e, h3, h4, h6⟩, _, h5⟩
 ·refine ⟨_, by simp [Instr.mapUpdate, run_underlying hm, MapKept.run_getObj_map hb, run_checkKey hd (K.key k), run_findKey hd h2, MapKept.run_setObj_map _ hb, Result.andThen]; rfl, ?_, mods_setHeap hb, by simp⟩
  exact ⟨_, _, (heap_set hb).1, stamped_push hs h3, by simp [h5, hes]⟩
 ·have hj : es[j]? = some e := by simpa using h3
  refine ⟨_, by simp [Instr.mapUpdate, run_underlying hm, MapKept.run_getObj_map hb, run_checkKey hd (K.key k), run_findKey hd h2, hj, h4, run_keyThatStays (K.key k), MapKept.run_setObj_map _ hb, Result.andThen]; rfl, ?_, mods_setHeap hb, by simp⟩
  refine ⟨_, _, (heap_set hb).1, stamped_modify hs _ _ (fun _ _ => rfl) (fun e' _ he' => by rw [hj] at he'; cases he'; exact h4.symm), ?_⟩
  rw [h5]
  apply List.ext_getElem?
  intro i
  have hi := congrArg (fun l => l[i]?) hes
  simp only [List.getElem?_map, Array.getElem?_toList] at hi
  simp only [List.getElem?_map, Array.getElem?_toList, Array.getElem?_modify, List.getElem?_set]
  by_cases hij : j = i
  ·subst hij
   have hlt : j < ps.length := by
    rw [hj] at hi
    rcases Nat.lt_or_ge j ps.length with h | h
    ·exact h
    ·simp [List.getElem?_eq_none h] at hi
   simp [hj, hlt]
  ·simp only [hij, if_false]
   exact hi
theorem MapAt.run_delete [DecidableEq α] (h : MapAt kv w m ps) (K : KeyKind kv d) (hm : P.underlying mty = some (.map kt et)) (hd : P.underlying kt = some d) (k : α) (ty : TypeId) (ats : Array TypeId) (ha : ats[0]? = some mty) :
  ∃ w', (Builtin.delete_ ats ty #[.map (some m), kv k]).run P w = .ok (.tuple #[]) w' ∧ MapAt kv w' m (delP k ps) ∧ Mods [m] w w' ∧ w'.heap.size = w.heap.size := by
 obtain ⟨es, c, hb, hs, hes⟩ := h
 rcases findNow_find K k es.toList ps 0 hes with ⟨h1, h2, _, h4, _⟩ | ⟨j, v', h1, h2, ⟨e, h3, _⟩, h5, _⟩
 ·refine ⟨_, by simp [Builtin.delete_, ha, run_underlying hm, MapKept.run_getObj_map hb, run_checkKey hd (K.key k), run_findKey hd h2, MapKept.run_setObj_map _ hb, Result.andThen]; rfl, ?_, mods_setHeap hb, by simp⟩
  exact ⟨_, _, (heap_set hb).1, hs, by rw [h4]; exact hes⟩
 ·have hj : j < es.size := by simpa using (List.getElem?_eq_some_iff.1 h3).1
  refine ⟨_, by simp [Builtin.delete_, ha, run_underlying hm, MapKept.run_getObj_map hb, run_checkKey hd (K.key k), run_findKey hd h2, MapKept.run_setObj_map _ hb, Result.andThen]; rfl, ?_, mods_setHeap hb, by simp⟩
  refine ⟨_, _, (heap_set hb).1, stamped_erase hs _, ?_⟩
  rw [h5]
  have e1 : (es.eraseIdxIfInBounds j).toList = es.toList.eraseIdx j := by
   unfold Array.eraseIdxIfInBounds
   rw [dif_pos hj]
   simp
  rw [e1, map_eraseIdx, hes, map_eraseIdx]
theorem MapAt.run_len (h : MapAt kv w m ps) (hm : P.underlying mty = some (.map kt et)) (ty : TypeId) :
  (Builtin.len_ #[mty] ty #[.map (some m)]).run P w = .ok (.int .i64 ps.length) w := by
 obtain ⟨es, c, hb, _, hes⟩ := h
 have hl : es.size = ps.length := by simpa using congrArg List.length hes
 simp [Builtin.len_, run_underlying hm, MapKept.run_getObj_map hb, Result.andThen, goInt, hl]
theorem wpList_mapUpdate_at [DecidableEq α] (w : World) {ops : Array Oper} {rest : List Oper} {o : Oper} {a : Act} {Q : Exit → Act → World → Prop}
  (hg : o.guard = none) (mo xo vo : Operand) (t : TypeId) (hop : o.op = Op.mapUpdate t mo xo vo) (K : KeyKind kv d) (ht : P.underlying t = some (.map kt et)) (hd : P.underlying kt = some d)
  (hm : a.eval mo = .map (some m)) (hown : MapAt kv w m ps) (k : α) (v : Value) (hx : a.eval xo = kv k) (hv : a.eval vo = v)
  (hK : ∀ w', MapAt kv w' m (setP k v ps) → Mods [m] w w' → w'.heap.size = w.heap.size → wpList P ops Q rest (a.put o.dst undef) w') :
  wpList P ops Q (o :: rest) a w := by
 refine wpList_plain hg fun K' hK' => ?_
 obtain ⟨w', hrun, r1, r2, r3⟩ := hown.run_update K ht hd k v
 unfold Oper.wp
 simp [execOp, hop, hm, hx, hv, hrun, Result.andThen]
 exact hK' _ _ (hK w' r1 r2 r3)
theorem wpList_delete_at [DecidableEq α] (w : World) {ops : Array Oper} {rest : List Oper} {o : Oper} {a : Act} {Q : Exit → Act → World → Prop}
  (hg : o.guard = none) (mo xo : Operand) (t k' : TypeId) (hop : o.op = Op.call { callee := Callee.builtin Builtin.delete, args := #[mo, xo], argTypes := #[t, k'] }) (K : KeyKind kv d) (ht : P.underlying t = some (.map kt et)) (hd : P.underlying kt = some d)
  (hm : a.eval mo = .map (some m)) (hown : MapAt kv w m ps) (k : α) (hx : a.eval xo = kv k)
  (hK : ∀ w', MapAt kv w' m (delP k ps) → Mods [m] w w' → w'.heap.size = w.heap.size → wpList P ops Q rest (a.put o.dst (.tuple #[])) w') :
  wpList P ops Q (o :: rest) a w := by
 refine wpList_plain hg fun K' hK' => ?_
 obtain ⟨w', hrun, r1, r2, r3⟩ := hown.run_delete K ht hd k o.type #[t, k'] rfl
 unfold Oper.wp
 simp [execOp, hop, resolve, invoke, builtin, hm, hx, hrun, Result.andThen]
 exact hK' _ _ (hK w' r1 r2 r3)
end
end Go.El

/- Layer 8 (token): which names may stand as they are, as a plain function on bytes. No program in sight. -/
namespace Go.El
def isSmall (c : UInt8) : Bool := 97 ≤ c && c ≤ 122
def isWord (c : UInt8) : Bool := isSmall c || (65 ≤ c && c ≤ 90) || (48 ≤ c && c ≤ 57) || c == 95
def signL : List UInt8 := [43, 45, 42, 47, 92, 94, 60, 62, 61, 126, 58, 46, 63, 64, 35, 38, 36]
def smallL : List UInt8 := [97, 98, 99, 100, 101, 102, 103, 104, 105, 106, 107, 108, 109, 110, 111, 112, 113, 114, 115, 116, 117, 118, 119, 120, 121, 122]
def wordL : List UInt8 := [97, 98, 99, 100, 101, 102, 103, 104, 105, 106, 107, 108, 109, 110, 111, 112, 113, 114, 115, 116, 117, 118, 119, 120, 121, 122, 65, 66, 67, 68, 69, 70, 71, 72, 73, 74, 75, 76, 77, 78, 79, 80, 81, 82, 83, 84, 85, 86, 87, 88, 89, 90, 48, 49, 50, 51, 52, 53, 54, 55, 56, 57, 95]
def isSign (c : UInt8) : Bool := signL.contains c
theorem all_bytes {p : UInt8 → Prop} [DecidablePred p] (h : ∀ n : Fin 256, p (UInt8.ofNat n.val)) (c : UInt8) : p c := by
 have := h ⟨c.toNat, c.toNat_lt⟩
 simpa using this
theorem smallL_eq (c : UInt8) : smallL.contains c = isSmall c :=
 all_bytes (p := fun c => smallL.contains c = isSmall c) (by decide +kernel) c
theorem wordL_eq (c : UInt8) : wordL.contains c = isWord c :=
 all_bytes (p := fun c => wordL.contains c = isWord c) (by decide +kernel) c
theorem wordL_lt (c : UInt8) : wordL.contains c = true → c.toNat < 128 :=
 all_bytes (p := fun c => wordL.contains c = true → c.toNat < 128) (by decide +kernel) c
theorem signL_lt (c : UInt8) : signL.contains c = true → c.toNat < 128 :=
 all_bytes (p := fun c => signL.contains c = true → c.toNat < 128) (by decide +kernel) c
def hasB (s : ByteArray) (c : UInt8) : Bool := s.data.toList.contains c
def allB (nm cs : ByteArray) : Bool := nm.data.toList.all (hasB cs)
def plainL (l : List UInt8) : Bool :=
 if l = [33] ∨ l = [59] ∨ l = [91, 93] ∨ l = [123, 125] then true
 else if l = [] ∨ l = [46] then false
 else if [47, 42].isPrefixOf l then false
 else (isSmall (l.headD 0) && l.all isWord) || l.all isSign
def plainB (s : ByteArray) : Bool := plainL s.data.toList
def smallN (n : Nat) : Bool := decide (97 ≤ n ∧ n ≤ 122)
def wordN (n : Nat) : Bool := decide ((97 ≤ n ∧ n ≤ 122) ∨ (65 ≤ n ∧ n ≤ 90) ∨ (48 ≤ n ∧ n ≤ 57) ∨ n = 95)
theorem isSmall_nat (c : UInt8) : isSmall c = smallN c.toNat := all_bytes (p := fun c => isSmall c = smallN c.toNat) (by decide +kernel) c
theorem isWord_nat (c : UInt8) : isWord c = wordN c.toNat := all_bytes (p := fun c => isWord c = wordN c.toNat) (by decide +kernel) c
abbrev smallS : ByteArray := ⟨#[97, 98, 99, 100, 101, 102, 103, 104, 105, 106, 107, 108, 109, 110, 111, 112, 113, 114, 115, 116, 117, 118, 119, 120, 121, 122]⟩
abbrev wordS : ByteArray := ⟨#[97, 98, 99, 100, 101, 102, 103, 104, 105, 106, 107, 108, 109, 110, 111, 112, 113, 114, 115, 116, 117, 118, 119, 120, 121, 122, 65, 66, 67, 68, 69, 70, 71, 72, 73, 74, 75, 76, 77, 78, 79, 80, 81, 82, 83, 84, 85, 86, 87, 88, 89, 90, 48, 49, 50, 51, 52, 53, 54, 55, 56, 57, 95]⟩
abbrev signS : ByteArray := ⟨#[43, 45, 42, 47, 92, 94, 60, 62, 61, 126, 58, 46, 63, 64, 35, 38, 36]⟩
theorem hasB_small (c : UInt8) : hasB smallS c = isSmall c := smallL_eq c
theorem hasB_word (c : UInt8) : hasB wordS c = isWord c := wordL_eq c
theorem wordS_lt (c : UInt8) (h : hasB wordS c = true) : c.toNat < 128 := wordL_lt c h
theorem signS_lt (c : UInt8) (h : hasB signS c = true) : c.toNat < 128 := signL_lt c h
theorem lit_ne {s : ByteArray} {l : List UInt8} (h : s.data.toList ≠ l) : (s.toList == l) = false := by
 rw [ByteArray.toList_eq]; simpa using h
theorem mk_of {s : ByteArray} {l : List UInt8} (h : s.data.toList = l) : s = ⟨l.toArray⟩ := by
 subst h; exact (Lib.mk_data s).symm
def prefB (s p : ByteArray) : Bool := Lib.hasPrefix s.data.toList p.data.toList
theorem headD_eq (l : List UInt8) (h : 0 < l.length) : l.headD 0 = l[0] := by cases l <;> simp at h ⊢
theorem plain_else {s : ByteArray} (h1 : s.data.toList ≠ [33]) (h2 : s.data.toList ≠ [59]) (h3 : s.data.toList ≠ [91, 93]) (h4 : s.data.toList ≠ [123, 125]) (h5 : s.data.toList ≠ []) (h6 : s.data.toList ≠ [46]) :
  ∃ h : 0 < s.size, plainB s = if prefB s ⟨#[47, 42]⟩ then false else hasB smallS s[0] && allB s wordS || allB s signS := by
 have h0 : 0 < s.size := by
  rw [Lib.size_eq]
  rcases hl : s.data.toList with _ | ⟨a, l⟩
  ·exact absurd hl h5
  ·simp
 refine ⟨h0, ?_⟩
 have hh : s.data.toList.headD 0 = s[0] := by
  have e : s[0] = s.data.toList[0]'(by rw [← Lib.size_eq]; exact h0) := rfl
  rw [e]
  exact headD_eq _ _
 have ew : s.data.toList.all isWord = allB s wordS := by unfold allB; congr 1; funext c; exact (hasB_word c).symm
 have es : s.data.toList.all isSign = allB s signS := by unfold allB; congr 1
 unfold plainB plainL
 rw [if_neg (by simp [h1, h2, h3, h4]), if_neg (by simp [h5, h6]), hh, ew, es, hasB_small]
 rfl
end Go.El

/- Slices in memory: 'Src' (what is read), 'ownsRow' (what a call owns), of elements of any number of cells. append, as it goes. Over any program. -/
namespace Go.El
open Go.RowKit
theorem addr_add_add (a : Addr) (i j : Nat) : (a.add i).add j = a.add (i + j) := by
 unfold Addr.add
 by_cases hi : i = 0 <;> by_cases hj : j = 0 <;> simp [hi, hj, Nat.add_assoc]
theorem addr_block (a : Addr) (i : Nat) : (a.add i).block = a.block := by
 unfold Addr.add
 split <;> rfl
def Src (w : World) (A : Option Addr) (m k : Nat) (xs : List Value) : Prop :=
 xs.length = m * k ∧ (0 < m → ∃ a, A = some a ∧ ∀ j u, xs[j]? = some u → w.cell? (a.add j) = some u)
section
variable {w w' : World} {A : Option Addr} {m k : Nat} {xs : List Value}
theorem Src.ext (h : Src w A m k xs) (he : Ext w w') : Src w' A m k xs :=
 ⟨h.1, fun hm => let ⟨a, ha, hc⟩ := h.2 hm; ⟨a, ha, fun j u hu => he.cell (hc j u hu)⟩⟩
theorem Src.mods {S : List Nat} (h : Src w A m k xs) (he : Mods S w w') (hS : ∀ a, A = some a → a.block ∉ S) : Src w' A m k xs :=
 ⟨h.1, fun hm => let ⟨a, ha, hc⟩ := h.2 hm; ⟨a, ha, fun j u hu => he.cell (hc j u hu) (by rw [addr_block]; exact hS a ha)⟩⟩
theorem Src.none (w : World) (A : Option Addr) (k : Nat) : Src w A 0 k [] := ⟨by simp, fun h => absurd h (by omega)⟩
theorem Src.take {n : Nat} (h : Src w A m k xs) (hn : n ≤ m) : Src w A n k (xs.take (n * k)) :=
 ⟨by rw [List.length_take, h.1]; exact Nat.min_eq_left (Nat.mul_le_mul_right k hn), fun h0 => let ⟨a, ha, hc⟩ := h.2 (by omega); ⟨a, ha, fun j u hu => hc j u (by
  rw [List.getElem?_take] at hu
  split at hu
  ·exact hu
  ·cases hu)⟩⟩
theorem Src.drop {n : Nat} {a : Addr} (h : Src w (some a) m k xs) (hn : n ≤ m) : Src w (some (a.add (n * k))) (m - n) k (xs.drop (n * k)) :=
 ⟨by rw [List.length_drop, h.1, Nat.sub_mul], fun h0 => by
  obtain ⟨a', ha, hc⟩ := h.2 (by omega)
  injection ha with ha
  subst ha
  exact ⟨_, rfl, fun j u hu => by rw [addr_add_add]; exact hc _ u (by rw [List.getElem?_drop] at hu; exact hu)⟩⟩
theorem Src.form {B : Option Addr} (h : Src w B m k xs) (hm : 0 < m) (hk : 0 < k) : ∃ b off, B = some ⟨b, off, Option.none⟩ ∧ ∀ j u, xs[j]? = some u → w.cell? ⟨b, off + j, Option.none⟩ = some u := by
 obtain ⟨a, rfl, hc⟩ := h.2 hm
 have hl : 0 < xs.length := by rw [h.1]; exact Nat.mul_pos hm hk
 have h0 := hc 0 xs[0] (List.getElem?_eq_getElem hl)
 have hs : a.spot = Option.none := by
  cases hsp : a.spot with
  | none => rfl
  | some x =>
   have e : a.add 0 = a := by simp [Addr.add]
   rw [e] at h0
   simp only [World.cell?, hsp] at h0
   split at h0 <;> simp at h0
 obtain ⟨b, off, sp⟩ := a
 simp at hs
 subst hs
 exact ⟨b, off, rfl, fun j u hu => by have := hc j u hu; rw [Addr.add_lit] at this; exact this⟩
theorem Src.new (w : World) (cs : Array Value) (t : TypeId) (m k : Nat) (h : cs.size = m * k) : Src (w.alloc (.cells cs t)) (some ⟨w.heap.size, 0, Option.none⟩) m k cs.toList :=
 ⟨by simpa using h, fun _ => ⟨_, rfl, fun j u hu => by
  rw [Addr.add_lit, Nat.zero_add, (Blk.new w t cs).cell]
  simpa using hu⟩⟩
theorem Src.of_own {base : Nat} {e : TypeId} {c : Nat} (h : w.ownsRow base e k (.slice A m c) m xs) : Src w A m k xs := by
 refine ⟨h.1, fun hm => ?_⟩
 rcases h.2 with ⟨hv, h0⟩ | ⟨g, cap, cur, hv, _⟩
 ·omega
 ·injection hv with hA _ _
  subst hA
  exact ⟨_, rfl, h.cells (g := g) rfl⟩
theorem own_value {base : Nat} {e : TypeId} {v : Value} (h : w.ownsRow base e k v m xs) : ∃ A c, v = .slice A m c := by
 rcases h.2 with ⟨hv, h0⟩ | ⟨g, cap, cur, hv, _⟩
 ·exact ⟨Option.none, 0, by rw [hv, h0]⟩
 ·exact ⟨_, _, hv⟩
end
def ownL (v : Value) : List Nat := v.ownBlock.toList
theorem own_mods {w w' : World} {base : Nat} {e : TypeId} {k : Nat} {v : Value} {n : Nat} {xs : List Value} {S : List Nat} (h : w.ownsRow base e k v n xs) (hm : Mods S w w') (hS : ∀ b, v.ownBlock = some b → b ∉ S) : w'.ownsRow base e k v n xs := by
 refine ⟨h.1, ?_⟩
 rcases h.2 with h2 | ⟨g, cap, cur, hv, hg, hh, r⟩
 ·exact .inl h2
 ·exact .inr ⟨g, cap, cur, hv, hg, hm.heap hh (hS g (by rw [hv]; rfl)), r⟩
theorem own_ext {w w' : World} {base : Nat} {e : TypeId} {k : Nat} {v : Value} {n : Nat} {xs : List Value} (h : w.ownsRow base e k v n xs) (hm : Ext w w') : w'.ownsRow base e k v n xs := own_mods (S := []) h (Mods.ext hm) (by simp)
theorem own_lt {w : World} {base : Nat} {e : TypeId} {k : Nat} {v : Value} {n : Nat} {xs : List Value} (h : w.ownsRow base e k v n xs) {b : Nat} (hb : v.ownBlock = some b) : b < w.heap.size := (h.lt b hb).2
theorem grown_mods {w w' : World} {v : Value} (h : w.grownBy w' v.ownBlock) : Mods (ownL v) w w' :=
 ⟨h.os, h.tape, h.output, h.size, fun i hi hS => h.block i hi (fun e => hS (by simp [ownL, ← e]))⟩
theorem run_append_src {P : Program} (w : World) (t ty e : TypeId) (i : TypeInfo) (z : Value) (size bytes : Nat) (ht : P.underlying t = some (.slice e)) (hi : P.info? e = some i) (hz : i.zero = some z)
  (hsize : i.size = size) (hby : i.bytes = bytes) (hzs : z.cells.size = size) (hsz : 0 < size) (v : Value) (n : Nat) (xs : List Value) (hown : w.ownsRow 0 e size v n xs)
  (A : Option Addr) (m c : Nat) (news : List Value) (hs : Src w A m size news) (h1 : ∀ u ∈ news, u.oneCell' = true) (h63 : n + m ≤ maxLen) (hbytes : (n + m) * bytes ≤ 140737488355328) :
  ∃ v' w', (Builtin.append_ #[t, t] ty #[v, .slice A m c]).run P w = .ok v' w' ∧ w'.ownsRow 0 e size v' (n + m) (xs ++ news) ∧ Mods (ownL v) w w' ∧ (v'.ownBlock = v.ownBlock ∨ v'.ownBlock = some w.heap.size) := by
 rcases A with _ | a
 ·have hm : m = 0 := by
   rcases Nat.eq_zero_or_pos m with h | h
   ·exact h
   ·obtain ⟨a, ha, _⟩ := hs.2 h
    cases ha
  subst hm
  have hnil : news = [] := List.eq_nil_of_length_eq_zero (by simpa using hs.1)
  subst hnil
  refine ⟨v, w, ?_, by simpa using hown, Mods.refl _ _, .inl rfl⟩
  rcases hown.2 with ⟨rfl, rfl⟩ | ⟨g, cap, cur, rfl, _, _, hnc, _⟩
  ·simp [Builtin.append_, run_underlying ht, Go.sizeOf, typeInfo, hi, Builtin.lenOf, Builtin.firstCells]
  ·simp [Builtin.append_, run_underlying ht, Go.sizeOf, typeInfo, hi, Builtin.lenOf, Builtin.firstCells, hnc, storeCells]
 ·have hcells : ∀ j u, news[j]? = some u → w.cell? (a.add j) = some u := by
   intro j u hu
   rcases Nat.eq_zero_or_pos m with h | h
   ·subst h
    have hnil : news = [] := List.eq_nil_of_length_eq_zero (by simpa using hs.1)
    subst hnil
    simp at hu
   ·obtain ⟨a', ha, hc⟩ := hs.2 h
    injection ha with ha
    subst ha
    exact hc j u hu
  obtain ⟨v', w', hr, h2, h3, _, h5⟩ := run_append_own_at (P := P) w 0 t ty e i z size bytes ht hi hz hsize hby hzs hsz v n xs hown a m c news hs.1 hcells h1 h63 hbytes (Nat.zero_le _)
  exact ⟨v', w', hr, h2, grown_mods h3, h5⟩
theorem wpList_append_src {P : Program} {w : World} {ops : Array Oper} {rest : List Oper} {o : Oper} {a : Act} {Q : Exit → Act → World → Prop} (hgd : o.guard = none) (s x : Operand) (t : TypeId)
  (ho : o.op = .call { callee := .builtin .append, args := #[s, x], argTypes := #[t, t] })
  (e : TypeId) (i : TypeInfo) (z : Value) (size bytes : Nat) (ht : P.underlying t = some (.slice e)) (hi : P.info? e = some i) (hz : i.zero = some z)
  (hsize : i.size = size) (hby : i.bytes = bytes) (hzs : z.cells.size = size) (hsz : 0 < size) (v : Value) (hs : a.eval s = v) (A : Option Addr) (m c : Nat) (hx : a.eval x = .slice A m c)
  (n : Nat) (xs : List Value) (hown : w.ownsRow 0 e size v n xs) (news : List Value) (hr : Src w A m size news) (h1 : ∀ u ∈ news, u.oneCell' = true)
  (h63 : n + m ≤ maxLen) (hbytes : (n + m) * bytes ≤ 140737488355328)
  (h : ∀ v' w', w'.ownsRow 0 e size v' (n + m) (xs ++ news) → Mods (ownL v) w w' → (v'.ownBlock = v.ownBlock ∨ v'.ownBlock = some w.heap.size) → wpList P ops Q rest (a.put o.dst v') w') : wpList P ops Q (o :: rest) a w := by
 refine wpList_plain hgd fun K hK => ?_
 obtain ⟨v', w', hrun, h2, h3, h4⟩ := run_append_src (P := P) w t o.type e i z size bytes ht hi hz hsize hby hzs hsz v n xs hown A m c news hr h1 h63 hbytes
 unfold Oper.wp execOp
 simp only [ho, resolve, invoke, builtin, Sem.run_bind, Sem.run_pure, Result.andThen_ok, List.map_toArray, List.map_cons, List.map_nil, hs, hx, hrun]
 exact hK _ _ (h v' w' h2 h3 h4)
theorem step_append_src {P : Program} {w : World} {ops : Array Oper} {o : Oper} {a : Act} {K : Act → World → Prop} {Q : Exit → Act → World → Prop} {E : Prop} (hgd : o.guard = none) (s x : Operand) (t : TypeId)
  (ho : o.op = .call { callee := .builtin .append, args := #[s, x], argTypes := #[t, t] })
  (e : TypeId) (i : TypeInfo) (z : Value) (size bytes : Nat) (ht : P.underlying t = some (.slice e)) (hi : P.info? e = some i) (hz : i.zero = some z)
  (hsize : i.size = size) (hby : i.bytes = bytes) (hzs : z.cells.size = size) (hsz : 0 < size) (v : Value) (hs : a.eval s = v) (A : Option Addr) (m c : Nat) (hx : a.eval x = .slice A m c)
  (n : Nat) (xs : List Value) (hown : w.ownsRow 0 e size v n xs) (news : List Value) (hr : Src w A m size news) (h1 : ∀ u ∈ news, u.oneCell' = true)
  (h63 : n + m ≤ maxLen) (hbytes : (n + m) * bytes ≤ 140737488355328)
  (h : ∀ v' w', w'.ownsRow 0 e size v' (n + m) (xs ++ news) → Mods (ownL v) w w' → (v'.ownBlock = v.ownBlock ∨ v'.ownBlock = some w.heap.size) → K (a.put o.dst v') w') :
  if Region.wanted o (yielded ops a.tmps) = true then Oper.wp P o a w K Q else E := by
 have hw : Region.wanted o (yielded ops a.tmps) = true := by simp [Region.wanted, hgd]
 rw [if_pos hw]
 obtain ⟨v', w', hrun, h2, h3, h4⟩ := run_append_src (P := P) w t o.type e i z size bytes ht hi hz hsize hby hzs hsz v n xs hown A m c news hr h1 h63 hbytes
 unfold Oper.wp execOp
 simp only [ho, resolve, invoke, builtin, Sem.run_bind, Sem.run_pure, Result.andThen_ok, List.map_toArray, List.map_cons, List.map_nil, hs, hx, hrun]
 exact h v' w' h2 h3 h4
def flat {α : Type} (enc : α → List Value) (l : List α) : List Value := l.flatMap enc
section
variable {α : Type} {enc : α → List Value} {k : Nat}
theorem flat_len (hk : ∀ x, (enc x).length = k) : ∀ l : List α, (flat enc l).length = l.length * k
 | [] => by simp [flat]
 | x :: l => by
  have ih := flat_len hk l
  simp only [flat] at ih
  simp [flat, hk, ih, Nat.add_mul, Nat.add_comm]
theorem flat_append (l m : List α) : flat enc (l ++ m) = flat enc l ++ flat enc m := by simp [flat]
theorem flat_at (hk : ∀ x, (enc x).length = k) : ∀ (l : List α) (i j : Nat) (x : α), l[i]? = some x → j < k → (flat enc l)[i * k + j]? = (enc x)[j]?
 | [], i, j, x, h, _ => by simp at h
 | y :: l, 0, j, x, h, hj => by
  simp at h
  subst h
  simp only [flat, List.flatMap_cons, Nat.zero_mul, Nat.zero_add]
  rw [List.getElem?_append_left (by rw [hk]; exact hj)]
 | y :: l, i + 1, j, x, h, hj => by
  have ih := flat_at hk l i j x (by simpa using h) hj
  simp only [flat] at ih
  simp only [flat, List.flatMap_cons]
  rw [List.getElem?_append_right (by rw [hk, Nat.add_mul]; omega), hk]
  have e : (i + 1) * k + j - k = i * k + j := by rw [Nat.add_mul]; omega
  rw [e]
  exact ih
theorem flat_take (hk : ∀ x, (enc x).length = k) : ∀ (l : List α) (n : Nat), (flat enc l).take (n * k) = flat enc (l.take n)
 | [], n => by simp [flat]
 | x :: l, 0 => by simp [flat]
 | x :: l, n + 1 => by
  have ih := flat_take hk l n
  simp only [flat] at ih
  simp only [flat, List.flatMap_cons, List.take_succ_cons]
  rw [List.take_append, hk, List.take_of_length_le (by rw [hk, Nat.add_mul]; omega)]
  have e : (n + 1) * k - k = n * k := by rw [Nat.add_mul]; omega
  rw [e, ih]
theorem flat_drop (hk : ∀ x, (enc x).length = k) : ∀ (l : List α) (n : Nat), (flat enc l).drop (n * k) = flat enc (l.drop n)
 | [], n => by simp [flat]
 | x :: l, 0 => by simp [flat]
 | x :: l, n + 1 => by
  have ih := flat_drop hk l n
  simp only [flat] at ih
  simp only [flat, List.flatMap_cons, List.drop_succ_cons]
  rw [List.drop_append, hk, List.drop_of_length_le (by rw [hk, Nat.add_mul]; omega)]
  have e : (n + 1) * k - k = n * k := by rw [Nat.add_mul]; omega
  rw [e, ih]; simp
theorem flat_one (h1 : ∀ x, ∀ u ∈ enc x, u.oneCell' = true) (l : List α) : ∀ u ∈ flat enc l, u.oneCell' = true := by
 intro u hu
 obtain ⟨x, _, hx⟩ := List.mem_flatMap.1 hu
 exact h1 x u hx
end
end Go.El
