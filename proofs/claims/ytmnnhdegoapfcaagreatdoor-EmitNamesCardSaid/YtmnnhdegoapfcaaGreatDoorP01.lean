/- What a call may turn: 'Mods S w w'': of the blocks that were there, those in S alone. Plain lemmas over any program. -/
import Derived.WalkKit
import Derived.WalkSpells
import Derived.MapKept
import Derived.Lib.Hide
import Derived.Deep.QuietTactic
import Derived.BigQuiet
import Derived.Deep.DeepCutAuto
import Derived.Deep.RegionHeld3
import Derived.IntWalk
import Derived.Maps.AppendAt
import Derived.Carry
import Derived.ProofKit
import Derived.OpenShut
import Derived.LaidMore
import Derived.Lib.LaidTab
import Derived.Lib.SmallJoins
import Derived.Deep.DeepHandedRow
import Derived.Deep.Slices
import Derived.Deep.Fields
import Derived.Test.YtmnnhdegoapfcaaGreatDoorProg
namespace Go.El
open Go.RowKit
structure Mods (S : List Nat) (w w' : World) : Prop where
 os : w'.os = w.os
 tape : w'.tape = w.tape
 output : w'.output = w.output
 size : w.heap.size ≤ w'.heap.size
 block : ∀ k, k < w.heap.size → k ∉ S → w'.heap[k]? = w.heap[k]?
abbrev Ext (w w' : World) : Prop := Below w.heap.size w w'
theorem Ext.refl (w : World) : Ext w w := Below.refl _ _
theorem Ext.trans {a b c : World} (h : Ext a b) (k : Ext b c) : Ext a c := Below.trans h (Below.mono k h.size)
theorem Ext.alloc {a w : World} (h : Ext a w) (o : Obj) : Ext a (w.alloc o) := Below.alloc h h.size o
theorem Ext.drew {a w : World} (h : Ext a w) : Ext a w.drew := Below.drew h
theorem Ext.drewN {a w : World} (h : Ext a w) (n : Nat) : Ext a (w.drewN n) := ⟨h.os, h.tape, h.output, h.size, h.block⟩
theorem Ext.setCell {a w : World} (h : Ext a w) {p : Addr} (hp : a.heap.size ≤ p.block) (u : Value) : Ext a (w.setCell p u) := Below.setCell h hp u
theorem Ext.grown {a w w' : World} {row : Option Nat} (h : Ext a w) (hg : w.grownBy w' row) (hr : ∀ k, row = some k → a.heap.size ≤ k) : Ext a w' := Below.grown h hg h.size hr
theorem Ext.heap {w w' : World} (h : Ext w w') {k : Nat} {o : Obj} (hk : w.heap[k]? = some o) : w'.heap[k]? = some o :=
 (h.block k (Array.getElem?_eq_some_iff.1 hk).1).trans hk
theorem Ext.cell {w w' : World} (h : Ext w w') {p : Addr} {v : Value} (hc : w.cell? p = some v) : w'.cell? p = some v := by
 have hlt : p.block < w.heap.size := by
  rcases Nat.lt_or_ge p.block w.heap.size with h | h
  ·exact h
  ·simp [World.cell?, Array.getElem?_eq_none h] at hc
 exact (Below.cell h hlt).trans hc
theorem Mods.refl (S : List Nat) (w : World) : Mods S w w := ⟨rfl, rfl, rfl, Nat.le_refl _, fun _ _ _ => rfl⟩
theorem Mods.trans {S : List Nat} {a b c : World} (h : Mods S a b) (k : Mods S b c) : Mods S a c :=
 ⟨k.os.trans h.os, k.tape.trans h.tape, k.output.trans h.output, Nat.le_trans h.size k.size, fun i hi hS => (k.block i (Nat.lt_of_lt_of_le hi h.size) hS).trans (h.block i hi hS)⟩
theorem Mods.mono {S T : List Nat} {a b : World} (h : Mods S a b) (hs : ∀ k, k ∈ S → k ∈ T) : Mods T a b :=
 ⟨h.os, h.tape, h.output, h.size, fun k hk hT => h.block k hk (fun e => hT (hs k e))⟩
theorem Mods.ext {S : List Nat} {a b : World} (h : Ext a b) : Mods S a b := ⟨h.os, h.tape, h.output, h.size, fun k hk _ => h.block k hk⟩
theorem Mods.alloc {S : List Nat} {a w : World} (h : Mods S a w) (o : Obj) : Mods S a (w.alloc o) := h.trans (Mods.ext ((Ext.refl w).alloc o))
theorem Mods.drew {S : List Nat} {a w : World} (h : Mods S a w) : Mods S a w.drew := ⟨h.os, h.tape, h.output, h.size, h.block⟩
theorem Mods.drewN {S : List Nat} {a w : World} (h : Mods S a w) (n : Nat) : Mods S a (w.drewN n) := ⟨h.os, h.tape, h.output, h.size, h.block⟩
theorem Mods.setCell {S : List Nat} {a w : World} (h : Mods S a w) {p : Addr} (hp : p.block ∈ S ∨ a.heap.size ≤ p.block) (u : Value) : Mods S a (w.setCell p u) :=
 ⟨h.os, h.tape, h.output, by simpa [World.setCell] using h.size, fun k hk hS => (Below.heap_setCell w p u k (by
  rintro rfl
  rcases hp with hp | hp
  ·exact hS hp
  ·omega)).trans (h.block k hk hS)⟩
theorem Mods.step {S T : List Nat} {a b c : World} (h : Mods S a b) (k : Mods T b c) (hT : ∀ x, x ∈ T → x ∈ S ∨ a.heap.size ≤ x) : Mods S a c :=
 ⟨k.os.trans h.os, k.tape.trans h.tape, k.output.trans h.output, Nat.le_trans h.size k.size, fun i hi hS => (k.block i (Nat.lt_of_lt_of_le hi h.size) (fun e => by
  rcases hT i e with e | e
  ·exact hS e
  ·omega)).trans (h.block i hi hS)⟩
theorem Mods.below {S : List Nat} {B : Nat} {a b : World} (h : Mods S a b) (hB : B ≤ a.heap.size) (hS : ∀ k, k ∈ S → B ≤ k) : Below B a b :=
 ⟨h.os, h.tape, h.output, h.size, fun k hk => h.block k (Nat.lt_of_lt_of_le hk hB) (fun e => by have := hS k e; omega)⟩
theorem Mods.toExt {S : List Nat} {a b : World} (h : Mods S a b) (hS : ∀ k, k ∈ S → a.heap.size ≤ k) : Ext a b := h.below (Nat.le_refl _) hS
theorem Mods.heap {S : List Nat} {w w' : World} (h : Mods S w w') {k : Nat} {o : Obj} (hk : w.heap[k]? = some o) (hS : k ∉ S) : w'.heap[k]? = some o :=
 (h.block k (Array.getElem?_eq_some_iff.1 hk).1 hS).trans hk
theorem cell_of_heap {w w' : World} {p : Addr} (h : w'.heap[p.block]? = w.heap[p.block]?) : w'.cell? p = w.cell? p := World.cell?_of_block h
theorem Mods.cell {S : List Nat} {w w' : World} (h : Mods S w w') {p : Addr} {v : Value} (hc : w.cell? p = some v) (hS : p.block ∉ S) : w'.cell? p = some v := by
 have hlt : p.block < w.heap.size := by
  rcases Nat.lt_or_ge p.block w.heap.size with h | h
  ·exact h
  ·simp [World.cell?, Array.getElem?_eq_none h] at hc
 exact (cell_of_heap (h.block p.block hlt hS)).trans hc
theorem cell_lt {w : World} {p : Addr} {v : Value} (hc : w.cell? p = some v) : p.block < w.heap.size := by
 rcases Nat.lt_or_ge p.block w.heap.size with h | h
 ·exact h
 ·simp [World.cell?, Array.getElem?_eq_none h] at hc
theorem heap_lt {w : World} {k : Nat} {o : Obj} (hk : w.heap[k]? = some o) : k < w.heap.size := (Array.getElem?_eq_some_iff.1 hk).1
def Blk (w : World) (g : Nat) (t : TypeId) (cs : Array Value) : Prop := w.heap[g]? = some (.cells cs t (0, 0))
section
variable {w w' : World} {g : Nat} {t : TypeId} {cs : Array Value}
theorem Blk.lt (h : Blk w g t cs) : g < w.heap.size := heap_lt h
theorem Blk.cell (h : Blk w g t cs) (i : Nat) : w.cell? ⟨g, i, none⟩ = cs[i]? := cell_of_row w g i cs t (0, 0) h
theorem Blk.frozen (h : Blk w g t cs) (i : Nat) : w.frozen? ⟨g, i, none⟩ = false := by
 unfold Blk at h
 simp [World.frozen?, h]
theorem Blk.new (w : World) (t : TypeId) (cs : Array Value) : Blk (w.alloc (.cells cs t)) w.heap.size t cs := heap_alloc_new w _
theorem Blk.ext (h : Blk w g t cs) (he : Ext w w') : Blk w' g t cs := he.heap h
theorem Blk.mods {S : List Nat} (h : Blk w g t cs) (hm : Mods S w w') (hS : g ∉ S) : Blk w' g t cs := hm.heap h hS
theorem Blk.drewN (h : Blk w g t cs) (n : Nat) : Blk (w.drewN n) g t cs := h
theorem Blk.alloc (h : Blk w g t cs) (o : Obj) : Blk (w.alloc o) g t cs := h.ext ((Ext.refl w).alloc o)
theorem Blk.set_ (h : Blk w g t cs) (i : Nat) (u : Value) : Blk (w.setCell ⟨g, i, none⟩ u) g t (cs.setIfInBounds i u) := by
 unfold Blk at h ⊢
 simp [World.setCell, Array.getElem?_modify, h]
theorem Blk.far (h : Blk w g t cs) {p : Addr} (hp : g ≠ p.block) (u : Value) : Blk (w.setCell p u) g t cs := (Below.heap_setCell w p u g hp).trans h
end
theorem wp_abs {P : Program} {c : Code} {Q : Exit → Act → World → Prop} {a : Act} {w : World} (R : World → Prop) (h : R w) (k : ∀ w', R w' → c.wp P Q a w') : c.wp P Q a w := k w h
theorem new_cell {w w' : World} {cs : Array Value} {t : TypeId} (h : Ext (w.alloc (.cells cs t)) w') (i : Nat) : w'.cell? ⟨w.heap.size, i, none⟩ = cs[i]? :=
 ((Blk.new w t cs).ext h).cell i
end Go.El

/- Slices in memory: 'Src' (what is read), 'ownsRow' (what a call owns), of elements of any number of cells. append, as it goes. Over any program. -/
namespace Go.El
open Go.RowKit
theorem addr_add_add (a : Addr) (i j : Nat) : (a.add i).add j = a.add (i + j) := by
 unfold Addr.add
 by_cases hi : i = 0 <;> by_cases hj : j = 0 <;> simp [hi, hj, Nat.add_assoc]
theorem addr_block (a : Addr) (i : Nat) : (a.add i).block = a.block := by
 unfold Addr.add
 split <;> rfl
def Src (w : World) (A : Option Addr) (m k : Nat) (xs : List Value) : Prop :=
 xs.length = m * k ∧ (0 < m → ∃ a, A = some a ∧ ∀ j u, xs[j]? = some u → w.cell? (a.add j) = some u)
section
variable {w w' : World} {A : Option Addr} {m k : Nat} {xs : List Value}
theorem Src.ext (h : Src w A m k xs) (he : Ext w w') : Src w' A m k xs :=
 ⟨h.1, fun hm => let ⟨a, ha, hc⟩ := h.2 hm; ⟨a, ha, fun j u hu => he.cell (hc j u hu)⟩⟩
theorem Src.mods {S : List Nat} (h : Src w A m k xs) (he : Mods S w w') (hS : ∀ a, A = some a → a.block ∉ S) : Src w' A m k xs :=
 ⟨h.1, fun hm => let ⟨a, ha, hc⟩ := h.2 hm; ⟨a, ha, fun j u hu => he.cell (hc j u hu) (by rw [addr_block]; exact hS a ha)⟩⟩
theorem Src.none (w : World) (A : Option Addr) (k : Nat) : Src w A 0 k [] := ⟨by simp, fun h => absurd h (by omega)⟩
theorem Src.at_ {b off : Nat} (h : Src w (some ⟨b, off, Option.none⟩) m k xs) (hm : 0 < m) {j : Nat} {u : Value} (hj : xs[j]? = some u) : w.cell? ⟨b, off + j, Option.none⟩ = some u := by
 obtain ⟨a, ha, hc⟩ := h.2 hm
 injection ha with ha
 subst ha
 have := hc j u hj
 rw [Addr.add_lit] at this
 exact this
theorem Src.take {n : Nat} (h : Src w A m k xs) (hn : n ≤ m) : Src w A n k (xs.take (n * k)) :=
 ⟨by rw [List.length_take, h.1]; exact Nat.min_eq_left (Nat.mul_le_mul_right k hn), fun h0 => let ⟨a, ha, hc⟩ := h.2 (by omega); ⟨a, ha, fun j u hu => hc j u (by
  rw [List.getElem?_take] at hu
  split at hu
  ·exact hu
  ·cases hu)⟩⟩
theorem Src.drop {n : Nat} {a : Addr} (h : Src w (some a) m k xs) (hn : n ≤ m) : Src w (some (a.add (n * k))) (m - n) k (xs.drop (n * k)) :=
 ⟨by rw [List.length_drop, h.1, Nat.sub_mul], fun h0 => by
  obtain ⟨a', ha, hc⟩ := h.2 (by omega)
  injection ha with ha
  subst ha
  exact ⟨_, rfl, fun j u hu => by rw [addr_add_add]; exact hc _ u (by rw [List.getElem?_drop] at hu; exact hu)⟩⟩
theorem Src.form {B : Option Addr} (h : Src w B m k xs) (hm : 0 < m) (hk : 0 < k) : ∃ b off, B = some ⟨b, off, Option.none⟩ ∧ ∀ j u, xs[j]? = some u → w.cell? ⟨b, off + j, Option.none⟩ = some u := by
 obtain ⟨a, rfl, hc⟩ := h.2 hm
 have hl : 0 < xs.length := by rw [h.1]; exact Nat.mul_pos hm hk
 have h0 := hc 0 xs[0] (List.getElem?_eq_getElem hl)
 have hs : a.spot = Option.none := by
  cases hsp : a.spot with
  | none => rfl
  | some x =>
   have e : a.add 0 = a := by simp [Addr.add]
   rw [e] at h0
   simp only [World.cell?, hsp] at h0
   split at h0 <;> simp at h0
 obtain ⟨b, off, sp⟩ := a
 simp at hs
 subst hs
 exact ⟨b, off, rfl, fun j u hu => by have := hc j u hu; rw [Addr.add_lit] at this; exact this⟩
theorem Src.new (w : World) (cs : Array Value) (t : TypeId) (m k : Nat) (h : cs.size = m * k) : Src (w.alloc (.cells cs t)) (some ⟨w.heap.size, 0, Option.none⟩) m k cs.toList :=
 ⟨by simpa using h, fun _ => ⟨_, rfl, fun j u hu => by
  rw [Addr.add_lit, Nat.zero_add, (Blk.new w t cs).cell]
  simpa using hu⟩⟩
theorem Src.of_own {base : Nat} {e : TypeId} {c : Nat} (h : w.ownsRow base e k (.slice A m c) m xs) : Src w A m k xs := by
 refine ⟨h.1, fun hm => ?_⟩
 rcases h.2 with ⟨hv, h0⟩ | ⟨g, cap, cur, hv, _⟩
 ·omega
 ·injection hv with hA _ _
  subst hA
  exact ⟨_, rfl, h.cells (g := g) rfl⟩
theorem own_value {base : Nat} {e : TypeId} {v : Value} (h : w.ownsRow base e k v m xs) : ∃ A c, v = .slice A m c := by
 rcases h.2 with ⟨hv, h0⟩ | ⟨g, cap, cur, hv, _⟩
 ·exact ⟨Option.none, 0, by rw [hv, h0]⟩
 ·exact ⟨_, _, hv⟩
end
def ownL (v : Value) : List Nat := v.ownBlock.toList
theorem own_mods {w w' : World} {base : Nat} {e : TypeId} {k : Nat} {v : Value} {n : Nat} {xs : List Value} {S : List Nat} (h : w.ownsRow base e k v n xs) (hm : Mods S w w') (hS : ∀ b, v.ownBlock = some b → b ∉ S) : w'.ownsRow base e k v n xs := by
 refine ⟨h.1, ?_⟩
 rcases h.2 with h2 | ⟨g, cap, cur, hv, hg, hh, r⟩
 ·exact .inl h2
 ·exact .inr ⟨g, cap, cur, hv, hg, hm.heap hh (hS g (by rw [hv]; rfl)), r⟩
theorem own_ext {w w' : World} {base : Nat} {e : TypeId} {k : Nat} {v : Value} {n : Nat} {xs : List Value} (h : w.ownsRow base e k v n xs) (hm : Ext w w') : w'.ownsRow base e k v n xs := own_mods (S := []) h (Mods.ext hm) (by simp)
theorem own_lt {w : World} {base : Nat} {e : TypeId} {k : Nat} {v : Value} {n : Nat} {xs : List Value} (h : w.ownsRow base e k v n xs) {b : Nat} (hb : v.ownBlock = some b) : b < w.heap.size := (h.lt b hb).2
theorem grown_mods {w w' : World} {v : Value} (h : w.grownBy w' v.ownBlock) : Mods (ownL v) w w' :=
 ⟨h.os, h.tape, h.output, h.size, fun i hi hS => h.block i hi (fun e => hS (by simp [ownL, ← e]))⟩
theorem run_append_src {P : Program} (w : World) (t ty e : TypeId) (i : TypeInfo) (z : Value) (size bytes : Nat) (ht : P.underlying t = some (.slice e)) (hi : P.info? e = some i) (hz : i.zero = some z)
  (hsize : i.size = size) (hby : i.bytes = bytes) (hzs : z.cells.size = size) (hsz : 0 < size) (v : Value) (n : Nat) (xs : List Value) (hown : w.ownsRow 0 e size v n xs)
  (A : Option Addr) (m c : Nat) (news : List Value) (hs : Src w A m size news) (h1 : ∀ u ∈ news, u.oneCell' = true) (h63 : n + m ≤ maxLen) (hbytes : (n + m) * bytes ≤ 140737488355328) :
  ∃ v' w', (Builtin.append_ #[t, t] ty #[v, .slice A m c]).run P w = .ok v' w' ∧ w'.ownsRow 0 e size v' (n + m) (xs ++ news) ∧ Mods (ownL v) w w' ∧ (v'.ownBlock = v.ownBlock ∨ v'.ownBlock = some w.heap.size) := by
 rcases A with _ | a
 ·have hm : m = 0 := by
   rcases Nat.eq_zero_or_pos m with h | h
   ·exact h
   ·obtain ⟨a, ha, _⟩ := hs.2 h
    cases ha
  subst hm
  have hnil : news = [] := List.eq_nil_of_length_eq_zero (by simpa using hs.1)
  subst hnil
  refine ⟨v, w, ?_, by simpa using hown, Mods.refl _ _, .inl rfl⟩
  rcases hown.2 with ⟨rfl, rfl⟩ | ⟨g, cap, cur, rfl, _, _, hnc, _⟩
  ·simp [Builtin.append_, run_underlying ht, Go.sizeOf, typeInfo, hi, Builtin.lenOf, Builtin.firstCells]
  ·simp [Builtin.append_, run_underlying ht, Go.sizeOf, typeInfo, hi, Builtin.lenOf, Builtin.firstCells, hnc, storeCells]
 ·have hcells : ∀ j u, news[j]? = some u → w.cell? (a.add j) = some u := by
   intro j u hu
   rcases Nat.eq_zero_or_pos m with h | h
   ·subst h
    have hnil : news = [] := List.eq_nil_of_length_eq_zero (by simpa using hs.1)
    subst hnil
    simp at hu
   ·obtain ⟨a', ha, hc⟩ := hs.2 h
    injection ha with ha
    subst ha
    exact hc j u hu
  obtain ⟨v', w', hr, h2, h3, _, h5⟩ := run_append_own_at (P := P) w 0 t ty e i z size bytes ht hi hz hsize hby hzs hsz v n xs hown a m c news hs.1 hcells h1 h63 hbytes (Nat.zero_le _)
  exact ⟨v', w', hr, h2, grown_mods h3, h5⟩
theorem wpList_append_src {P : Program} {w : World} {ops : Array Oper} {rest : List Oper} {o : Oper} {a : Act} {Q : Exit → Act → World → Prop} (hgd : o.guard = none) (s x : Operand) (t : TypeId)
  (ho : o.op = .call { callee := .builtin .append, args := #[s, x], argTypes := #[t, t] })
  (e : TypeId) (i : TypeInfo) (z : Value) (size bytes : Nat) (ht : P.underlying t = some (.slice e)) (hi : P.info? e = some i) (hz : i.zero = some z)
  (hsize : i.size = size) (hby : i.bytes = bytes) (hzs : z.cells.size = size) (hsz : 0 < size) (v : Value) (hs : a.eval s = v) (A : Option Addr) (m c : Nat) (hx : a.eval x = .slice A m c)
  (n : Nat) (xs : List Value) (hown : w.ownsRow 0 e size v n xs) (news : List Value) (hr : Src w A m size news) (h1 : ∀ u ∈ news, u.oneCell' = true)
  (h63 : n + m ≤ maxLen) (hbytes : (n + m) * bytes ≤ 140737488355328)
  (h : ∀ v' w', w'.ownsRow 0 e size v' (n + m) (xs ++ news) → Mods (ownL v) w w' → (v'.ownBlock = v.ownBlock ∨ v'.ownBlock = some w.heap.size) → wpList P ops Q rest (a.put o.dst v') w') : wpList P ops Q (o :: rest) a w := by
 refine wpList_plain hgd fun K hK => ?_
 obtain ⟨v', w', hrun, h2, h3, h4⟩ := run_append_src (P := P) w t o.type e i z size bytes ht hi hz hsize hby hzs hsz v n xs hown A m c news hr h1 h63 hbytes
 unfold Oper.wp execOp
 simp only [ho, resolve, invoke, builtin, Sem.run_bind, Sem.run_pure, Result.andThen_ok, List.map_toArray, List.map_cons, List.map_nil, hs, hx, hrun]
 exact hK _ _ (h v' w' h2 h3 h4)
theorem step_append_src {P : Program} {w : World} {ops : Array Oper} {o : Oper} {a : Act} {K : Act → World → Prop} {Q : Exit → Act → World → Prop} {E : Prop} (hgd : o.guard = none) (s x : Operand) (t : TypeId)
  (ho : o.op = .call { callee := .builtin .append, args := #[s, x], argTypes := #[t, t] })
  (e : TypeId) (i : TypeInfo) (z : Value) (size bytes : Nat) (ht : P.underlying t = some (.slice e)) (hi : P.info? e = some i) (hz : i.zero = some z)
  (hsize : i.size = size) (hby : i.bytes = bytes) (hzs : z.cells.size = size) (hsz : 0 < size) (v : Value) (hs : a.eval s = v) (A : Option Addr) (m c : Nat) (hx : a.eval x = .slice A m c)
  (n : Nat) (xs : List Value) (hown : w.ownsRow 0 e size v n xs) (news : List Value) (hr : Src w A m size news) (h1 : ∀ u ∈ news, u.oneCell' = true)
  (h63 : n + m ≤ maxLen) (hbytes : (n + m) * bytes ≤ 140737488355328)
  (h : ∀ v' w', w'.ownsRow 0 e size v' (n + m) (xs ++ news) → Mods (ownL v) w w' → (v'.ownBlock = v.ownBlock ∨ v'.ownBlock = some w.heap.size) → K (a.put o.dst v') w') :
  if Region.wanted o (yielded ops a.tmps) = true then Oper.wp P o a w K Q else E := by
 have hw : Region.wanted o (yielded ops a.tmps) = true := by simp [Region.wanted, hgd]
 rw [if_pos hw]
 obtain ⟨v', w', hrun, h2, h3, h4⟩ := run_append_src (P := P) w t o.type e i z size bytes ht hi hz hsize hby hzs hsz v n xs hown A m c news hr h1 h63 hbytes
 unfold Oper.wp execOp
 simp only [ho, resolve, invoke, builtin, Sem.run_bind, Sem.run_pure, Result.andThen_ok, List.map_toArray, List.map_cons, List.map_nil, hs, hx, hrun]
 exact h v' w' h2 h3 h4
def flat {α : Type} (enc : α → List Value) (l : List α) : List Value := l.flatMap enc
section
variable {α : Type} {enc : α → List Value} {k : Nat}
theorem flat_len (hk : ∀ x, (enc x).length = k) : ∀ l : List α, (flat enc l).length = l.length * k
 | [] => by simp [flat]
 | x :: l => by
  have ih := flat_len hk l
  simp only [flat] at ih
  simp [flat, hk, ih, Nat.add_mul, Nat.add_comm]
theorem flat_append (l m : List α) : flat enc (l ++ m) = flat enc l ++ flat enc m := by simp [flat]
theorem flat_at (hk : ∀ x, (enc x).length = k) : ∀ (l : List α) (i j : Nat) (x : α), l[i]? = some x → j < k → (flat enc l)[i * k + j]? = (enc x)[j]?
 | [], i, j, x, h, _ => by simp at h
 | y :: l, 0, j, x, h, hj => by
  simp at h
  subst h
  simp only [flat, List.flatMap_cons, Nat.zero_mul, Nat.zero_add]
  rw [List.getElem?_append_left (by rw [hk]; exact hj)]
 | y :: l, i + 1, j, x, h, hj => by
  have ih := flat_at hk l i j x (by simpa using h) hj
  simp only [flat] at ih
  simp only [flat, List.flatMap_cons]
  rw [List.getElem?_append_right (by rw [hk, Nat.add_mul]; omega), hk]
  have e : (i + 1) * k + j - k = i * k + j := by rw [Nat.add_mul]; omega
  rw [e]
  exact ih
theorem flat_one (h1 : ∀ x, ∀ u ∈ enc x, u.oneCell' = true) (l : List α) : ∀ u ∈ flat enc l, u.oneCell' = true := by
 intro u hu
 obtain ⟨x, _, hx⟩ := List.mem_flatMap.1 hu
 exact h1 x u hx
end
end Go.El

/- A law's frame: what came in reads as it did; nothing that was there has turned. Over any program. -/
namespace Go.El
open Go.RowKit Go.ChangeShapes Go.WideShapes Go.ChangeAt Go.Deep Go.Joins
section
variable {H : Type} {enc : TypeId × Value → H} {P : Program} {W W' : World}
def readsB (P : Program) (ts : List TypeId) : Bool := ts.all fun t => P.readableRec t && decide (t < P.types.size)
theorem trodAll_law (hl : laidOutB P = true) {sp : Nat → Bool} (hb : Ext W W') : ∀ {ts : List TypeId} {vs : List Value} {ds : List (DataW H)} {ps : List MemPlace}, readsB P ts = true → DataW.TrodAll enc P W 0 (fun _ => true) true ts vs ds ps →
  (∀ x ∈ ps, x.block < W.heap.size) → (∀ x ∈ ps, sp x.block = true) → DataW.TrodAll enc P W' 0 sp true ts vs ds ps
 | [], _, _, _, _, h, _, _ => by
  obtain ⟨rfl, rfl, rfl⟩ := trodAll_nil h
  exact trodAll_mk0
 | t :: ts, _, _, _, hr, h, hlt, hs => by
  obtain ⟨v, vs, d, ds, p, q, rfl, rfl, rfl, h1, h2⟩ := trodAll_cons h
  simp only [readsB, List.all_cons, Bool.and_eq_true, decide_eq_true_eq] at hr
  exact trodAll_cons_mk (WideElems.Trod_stays hl hr.1.1 hr.1.2 h1 (fun x hx => hb.same (hlt x (List.mem_append_left _ hx))) (fun x hx => hs x (List.mem_append_left _ hx)))
   (trodAll_law hl hb (by simpa [readsB] using hr.2) h2 (fun x hx => hlt x (List.mem_append_right _ hx)) (fun x hx => hs x (List.mem_append_right _ hx)))
theorem post_law {f : Func} {s : ChangeSpec} {args : Array Value} {ds gs : List (DataW H)} {before : List MemPlace} {tb : TypeId} (hl : laidOutB P = true) (hr : readsB P f.params.toList = true) (hv : s.vars = [])
  (hres : f.resultTypes = #[tb]) (htb : P.underlying tb = some .bool) (hW : DataW.Whole enc P f.params.toList s.vars false W args.toList ds gs before) (hs : s.fn H (ds ++ gs) = { results := [.lit (.bool true)], args := ds }) (hb : Ext W W') :
  s.post enc P f false true false false W args (.bool true) W' := by
 have hold : ∀ p ∈ before, p.block < W.heap.size := fun p hp => hW.lt p hp
 obtain ⟨p, q, hA, hV, rfl, hz, hn⟩ := id hW
 rw [hv] at hV
 obtain ⟨rfl, rfl⟩ := trodVars_none hV
 refine ⟨ds, [], p ++ [], [], p, [], hW, ?_, ?_, ?_, hb.frame _, fun h => by cases h⟩
 ·rw [hs, hres]
  exact trodAll_cons_mk (shut_bool htb _) trodAll_mk0
 ·rw [hs]
  exact trodAll_law hl hb hr hA (fun x hx => hold x (by simpa using hx)) (fun x hx => by simpa using hold x (by simpa using hx))
 ·rw [hs, hv]
  rfl
end
theorem list_of_all {α : Type} {p : Nat → α → Prop} : ∀ (n : Nat), (∀ i, i < n → ∃ x, p i x) → ∃ L : List α, L.length = n ∧ ∀ i x, L[i]? = some x → p i x
 | 0, _ => ⟨[], rfl, fun i x h => by simp at h⟩
 | n + 1, h => by
  obtain ⟨L, hl, hp⟩ := list_of_all n (fun i hi => h i (by omega))
  obtain ⟨x, hx⟩ := h n (by omega)
  refine ⟨L ++ [x], by simp [hl], fun i y hy => ?_⟩
  by_cases hi : i < n
  ·rw [List.getElem?_append_left (by omega)] at hy
   exact hp i y hy
  ·rw [List.getElem?_append_right (by omega)] at hy
   have : i - L.length = 0 := by
    rcases Nat.eq_zero_or_pos (i - L.length) with h | h
    ·exact h
    ·rw [List.getElem?_eq_none (by simp; omega)] at hy
     cases hy
   rw [this] at hy
   simp at hy
   subst hy
   have : i = n := by omega
   subst this
   exact hx
theorem src_of_cells {α : Type} {enc : α → List Value} {k : Nat} (hk : ∀ x, (enc x).length = k) (h0 : 0 < k) {w : World} {a : Addr} {L : List α} (h : ∀ i x, L[i]? = some x → ∀ j u, (enc x)[j]? = some u → w.cell? (a.add (i * k + j)) = some u) : Src w (some a) L.length k (flat enc L) :=
 ⟨flat_len hk L, fun _ => ⟨a, rfl, fun j u hu => by
  have hj : j < L.length * k := by
   have := (List.getElem?_eq_some_iff.1 hu).1
   rwa [flat_len hk] at this
  have hi : j / k < L.length := (Nat.div_lt_iff_lt_mul h0).2 hj
  have e : j = j / k * k + j % k := by rw [Nat.mul_comm]; exact (Nat.div_add_mod j k).symm
  have hx : L[j / k]? = some L[j / k] := List.getElem?_eq_getElem hi
  have := flat_at hk L (j / k) (j % k) _ hx (Nat.mod_lt _ h0)
  rw [← e, hu] at this
  have h2 := h _ _ hx _ _ this.symm
  rwa [← e] at h2⟩⟩
section
variable {H : Type} {enc : TypeId × Value → H} {P : Program} {w : World} {base : Nat} {spare : Nat → Bool} {held : Bool}
end
end Go.El

/- Layer 16, plain: instructions: which may be, what is known ahead of one. No program in sight. -/
namespace Go.El
structure Ins where
 op : Int
 s : ByteArray
 n : Int
 v : Int
 a : Int
def insVal (i : Ins) : Value := .agg #[.int .i64 i.op, .string i.s, .int .i64 i.n, .int .i64 i.v, .int .i64 i.a]
def opTab : List (List UInt8 × Nat) := [([], 0), ([103, 101, 116, 95, 118, 97, 114], 3), ([103, 101, 116, 95, 118, 97, 108], 3), ([103, 101, 116, 95, 97, 116, 111, 109], 10), ([103, 101, 116, 95, 105, 110, 116], 18), ([103, 101, 116, 95, 115, 116, 114], 34), ([117, 110, 105, 95, 118, 97, 114], 1), ([117, 110, 105, 95, 118, 97, 108], 1), ([117, 110, 105, 95, 97, 116, 111, 109], 8), ([117, 110, 105, 95, 105, 110, 116], 16), ([112, 117, 116, 95, 118, 97, 114], 3), ([112, 117, 116, 95, 118, 97, 108], 3), ([112, 117, 116, 95, 97, 116, 111, 109], 10), ([112, 117, 116, 95, 105, 110, 116], 18), ([112, 117, 116, 95, 115, 116, 114], 34), ([115, 101, 116, 95, 118, 97, 114], 1), ([115, 101, 116, 95, 118, 97, 108], 1), ([115, 101, 116, 95, 97, 116, 111, 109], 8), ([115, 101, 116, 95, 105, 110, 116], 16), ([97, 108, 108, 111, 99], 128), ([100, 101, 97, 108, 108, 111, 99], 0), ([99, 97, 108, 108], 68), ([101, 120, 101, 99], 64), ([98, 111, 100, 121], 4), ([103, 111, 97, 108], 0), ([112, 114, 111, 99, 101, 101, 100], 0), ([108, 101, 118, 101, 108], 1), ([104, 101, 114, 101], 1), ([110, 101, 99, 107], 0), ([99, 117, 116], 1), ([102, 97, 105, 108], 0)]
def fldF (o : Int) : Nat := (opTab.getD o.toNat ([], 0)).2
def hasF (o : Int) (f : Nat) : Bool := (fldF o &&& f) != 0
def nameF (o : Int) : List UInt8 := if o < 0 ∨ 31 ≤ o then [] else (opTab.getD o.toNat ([], 0)).1
def withinF (is : Bool) (n least most : Int) : Bool := if is then decide (least ≤ n) && decide (n ≤ most) else decide (n = 0)
def numberF (i : Ins) : Bool :=
 if hasF i.op 32 then withinF true i.n 1 16 else if hasF i.op 64 then withinF true i.n 0 16 else if hasF i.op 128 then withinF true i.n 0 64 else withinF (hasF i.op 16) i.n (-9007199254740991) 9007199254740991
def insMay (i : Ins) : Bool :=
 if nameF i.op = [] ∨ 64 < i.s.size then false
 else withinF (hasF i.op 1) i.v (-64) 255 && (decide (i.v ≠ 0) || !hasF i.op 1) && (if hasF i.op 4 then withinF true i.a 0 64 else withinF (hasF i.op 2) i.a 1 255) && numberF i && (decide (i.s.size = 0) || hasF i.op 104)
structure InSt where
 x : List Bool
 y : List Bool
 slots : Int
 uni : Int
 set : Int
 put : Int
 calls : Bool
 ended : Bool
namespace InSt
def known (s : InSt) (v : Int) : Bool := if 0 < v then s.x.getD v.toNat false else if s.slots < -v then false else s.y.getD (-v).toNat false
def learn (s : InSt) (v : Int) : Bool × InSt := if 0 < v then (true, { s with x := s.x.set v.toNat true }) else if s.slots < -v then (false, s) else (true, { s with y := s.y.set (-v).toNat true })
def args (s : InSt) (n : Int) : Bool := (((s.x.drop 1).take n.toNat).all fun b => b)
def clearX (s : InSt) : InSt := { s with x := s.x.map fun _ => false }
def clearY (s : InSt) (k : Nat) : InSt := { s with y := s.y.take k ++ (s.y.drop k).map fun _ => false }
def rowV (s : InSt) (i : Ins) : Bool × InSt := if i.op = 6 ∨ i.op = 15 then s.learn i.v else if i.op = 7 ∨ i.op = 16 then (s.known i.v, s) else (true, s)
def rowU (s : InSt) (i : Ins) : Bool × InSt := if s.uni = 0 then (false, s) else ({ s with uni := s.uni - 1 } : InSt).rowV i
def rowS (s : InSt) (i : Ins) : Bool × InSt :=
 if s.set = 0 then (false, s) else
  let r := ({ s with set := s.set - 1 } : InSt).rowV i
  if r.2.set = 0 then (r.1, { r.2 with x := r.2.x.set r.2.put.toNat true }) else r
def call (s : InSt) (n left : Int) : Bool × InSt := (decide (0 ≤ s.slots) && decide (left ≤ s.slots) && s.args n, { (s.clearX.clearY (left + 1).toNat) with slots := left, calls := true })
def end_ (s : InSt) (n : Int) : Bool × InSt := (decide (s.slots < 0) && s.args n, { s with ended := true })
def get (s : InSt) (i : Ins) : Bool × InSt :=
 let ok := s.x.getD i.a.toNat false
 if i.op = 1 then (if ok then s.learn i.v else (false, s)) else if i.op = 2 then (ok && s.known i.v, s) else if i.op = 5 then (ok, { s with uni := i.n }) else (ok, s)
def store (s : InSt) (i : Ins) : Bool × InSt :=
 if i.op = 14 then (true, { s with set := i.n, put := i.a }) else
  let r := if i.op = 10 then s.learn i.v else if i.op = 11 then (s.known i.v, s) else (true, s)
  (r.1, { r.2 with x := r.2.x.set i.a.toNat true })
def env (s : InSt) (i : Ins) : Bool × InSt :=
 if i.op = 20 then (decide (0 ≤ s.slots), { (s.clearY 0) with slots := -1 }) else (!(decide (0 ≤ s.slots) || s.calls), { s with slots := i.n })
def flow (s : InSt) (i : Ins) : Bool × InSt :=
 if i.op = 21 then s.call i.n i.a else if i.op = 23 then s.call 2 i.a else if i.op = 22 then s.end_ i.n else if i.op = 24 then s.end_ 2 else if i.op = 25 then s.end_ 0 else (true, { s with ended := true })
def step (s : InSt) (i : Ins) : Bool × InSt :=
 if s.ended then (false, s)
 else if 6 ≤ i.op ∧ i.op ≤ 9 then s.rowU i
 else if 15 ≤ i.op ∧ i.op ≤ 18 then s.rowS i
 else if 0 < s.uni + s.set then (false, s)
 else if i.op ≤ 5 then s.get i
 else if i.op ≤ 14 then s.store i
 else if i.op ≤ 20 then s.env i
 else if i.op = 26 then (if i.v < 0 then s.learn i.v else (false, s))
 else if i.op = 27 then s.learn i.v
 else if i.op = 29 then (decide (i.v < 0) && s.known i.v, s)
 else if i.op = 28 then (!s.calls, s)
 else s.flow i
def start (arity : Nat) : InSt := ⟨(List.range 256).map (fun k => decide (1 ≤ k ∧ k ≤ arity)), List.replicate 65 false, -1, 0, 0, 0, false, false⟩
def run : InSt → List Ins → Option InSt
 | s, [] => some s
 | s, i :: r => if insMay i && (s.step i).1 then run (s.step i).2 r else none
end InSt
def runAt : InSt → List Ins → Nat
 | _, [] => 0
 | s, i :: r => if insMay i && (s.step i).1 then runAt (s.step i).2 r + 1 else 0
def chkIns (l : List Ins) (arity : Int) : Int × Int :=
 if arity < 0 ∨ 16 < arity then (0, 1) else if 4096 < l.length then (0, 3)
 else match (InSt.start arity.toNat).run l with
  | none => (runAt (InSt.start arity.toNat) l, 160)
  | some s => (l.length, if s.ended then 0 else 160)
end Go.El

/- Layer 16: the walks of Name, has, within. -/
namespace Go.Proofs.YtmnnhdegoapfcaaGreatDoor
open Go.RowKit Go.El
def nameAt (k : Nat) : List UInt8 := (opTab.getD k ([], 0)).1
def fldAt (k : Nat) : Nat := (opTab.getD k ([], 0)).2
def OpTabAt (w : World) : Prop := ∀ k, k < 31 → w.cell? ⟨0, k * 2, none⟩ = some (.string ⟨(nameAt k).toArray⟩) ∧ w.cell? ⟨0, k * 2 + 1, none⟩ = some (.int .i64 (fldAt k))
theorem OpTabAt.ext {w w' : World} (h : OpTabAt w) (x : Ext w w') : OpTabAt w' := fun k hk => ⟨x.cell (h k hk).1, x.cell (h k hk).2⟩
theorem ret_bI {a b : Bool} (h : a = true ↔ b = true) : Ending.returned (.bool a) = .returned (.bool b) := by rw [Bool.eq_iff_iff.2 h]
def askL : List (Int × Nat) := [(1, 1), (2, 2), (4, 4), (8, 8), (16, 16), (32, 32), (64, 64), (128, 128), (6, 6), (104, 104), (144, 144), (96, 96)]
theorem has_bits : ∀ o ∈ List.range 31, ∀ p ∈ askL, (Go.bits BinOp.and IntKind.i64 (fldAt o) p.1 != 0) = hasF o p.2 := by decide +kernel
set_option maxRecDepth 100000 in
theorem has_any (o : Int) (h0 : 0 ≤ o) (h3 : o < 31) (f : Int) (g : Nat) (hf : (f, g) ∈ askL) (w : World) (h : OpTabAt w) :
  Calls Tryz.prog 59 #[.int .i64 o, .int .i64 f] w fun e w' => e = .returned (.bool (hasF o g)) ∧ w = w' := by
 obtain ⟨k, rfl⟩ : ∃ k : Nat, o = k := ⟨o.toNat, by omega⟩
 have hk : k < 31 := by omega
 obtain ⟨_, h1⟩ := h k hk
 have hb := has_bits k (by simpa using hk) (f, g) hf
 dsimp only at hb
 clear h hf h0 h3
 go_enter Tryz.func59, Tryz.ntmps59
 go_wp2_with fail
 go_ret
 exact ⟨rfl, rfl⟩
set_option maxRecDepth 100000 in
theorem within_any (is : Bool) (n least most : Int) (w : World) :
  Calls Tryz.prog 93 #[.bool is, .int .i64 n, .int .i64 least, .int .i64 most] w fun e w' => e = .returned (.bool (withinF is n least most)) ∧ w = w' := by
 cases is
 ·go_enter Tryz.func93, Tryz.ntmps93
  go_wp2_with fail
  go_ret
  exact ⟨ret_bI (by simp [withinF]), rfl⟩
 ·by_cases h1 : least ≤ n
  ·by_cases h2 : n ≤ most
   all_goals
    go_enter Tryz.func93, Tryz.ntmps93
    go_wp2_with fail
    go_ret
    exact ⟨ret_bI (by simp [withinF, h1, h2]), rfl⟩
  ·go_enter Tryz.func93, Tryz.ntmps93
   go_wp2_with fail
   go_ret
   exact ⟨ret_bI (by simp [withinF]; omega), rfl⟩
set_option maxRecDepth 100000 in
theorem name_any (o : Int) (w : World) (h : OpTabAt w) :
  Calls Tryz.prog 55 #[.int .i64 o] w fun e w' => e = .returned (.string ⟨(nameF o).toArray⟩) ∧ w = w' := by
 by_cases h0 : o < 0
 ·rw [show nameF o = [] from if_pos (.inl h0)]
  go_enter Tryz.func55, Tryz.ntmps55
  go_wp2_with fail
  go_ret
  exact ⟨rfl, rfl⟩
 ·by_cases h3 : 31 ≤ o
  ·rw [show nameF o = [] from if_pos (.inr h3)]
   go_enter Tryz.func55, Tryz.ntmps55
   go_wp2_with fail
   go_ret
   exact ⟨rfl, rfl⟩
  ·rw [show nameF o = nameAt o.toNat from if_neg (by omega)]
   obtain ⟨k, rfl⟩ : ∃ k : Nat, o = k := ⟨o.toNat, by omega⟩
   have hk : k < 31 := by omega
   obtain ⟨h1, _⟩ := h k hk
   rw [Int.toNat_natCast]
   clear h
   go_enter Tryz.func55, Tryz.ntmps55
   go_wp2_with fail
   go_ret
   exact ⟨rfl, rfl⟩
end Go.Proofs.YtmnnhdegoapfcaaGreatDoor
