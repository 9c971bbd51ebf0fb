/- What a call may turn: 'Mods S w w'': of the blocks that were there, those in S alone. Plain lemmas over any program. -/
import Derived.WalkKit
import Derived.WalkSpells
import Derived.MapKept
import Derived.Lib.Hide
import Derived.Deep.QuietTactic
import Derived.BigQuiet
import Derived.Deep.DeepCutAuto
import Derived.Deep.RegionHeld3
import Derived.IntWalk
import Derived.Maps.AppendAt
namespace Go.El
open Go.RowKit

structure Mods (S : List Nat) (w w' : World) : Prop where
  os : w'.os = w.os
  tape : w'.tape = w.tape
  output : w'.output = w.output
  size : w.heap.size ≤ w'.heap.size
  block : ∀ k, k < w.heap.size → k ∉ S → w'.heap[k]? = w.heap[k]?

/-- Nothing that was there has turned. -/
abbrev Ext (w w' : World) : Prop := Below w.heap.size w w'

theorem Ext.refl (w : World) : Ext w w := Below.refl _ _
theorem Ext.trans {a b c : World} (h : Ext a b) (k : Ext b c) : Ext a c := Below.trans h (Below.mono k h.size)
theorem Ext.alloc {a w : World} (h : Ext a w) (o : Obj) : Ext a (w.alloc o) := Below.alloc h h.size o
theorem Ext.drew {a w : World} (h : Ext a w) : Ext a w.drew := Below.drew h
theorem Ext.drewN {a w : World} (h : Ext a w) (n : Nat) : Ext a (w.drewN n) := ⟨h.os, h.tape, h.output, h.size, h.block⟩
theorem Ext.setCell {a w : World} (h : Ext a w) {p : Addr} (hp : a.heap.size ≤ p.block) (u : Value) : Ext a (w.setCell p u) := Below.setCell h hp u
theorem Ext.grown {a w w' : World} {row : Option Nat} (h : Ext a w) (hg : w.grownBy w' row) (hr : ∀ k, row = some k → a.heap.size ≤ k) : Ext a w' := Below.grown h hg h.size hr
theorem Ext.heap {w w' : World} (h : Ext w w') {k : Nat} {o : Obj} (hk : w.heap[k]? = some o) : w'.heap[k]? = some o :=
  (h.block k (Array.getElem?_eq_some_iff.1 hk).1).trans hk
theorem Ext.cell {w w' : World} (h : Ext w w') {p : Addr} {v : Value} (hc : w.cell? p = some v) : w'.cell? p = some v := by
  have hlt : p.block < w.heap.size := by
    rcases Nat.lt_or_ge p.block w.heap.size with h | h
    · exact h
    · simp [World.cell?, Array.getElem?_eq_none h] at hc
  exact (Below.cell h hlt).trans hc

theorem Mods.refl (S : List Nat) (w : World) : Mods S w w := ⟨rfl, rfl, rfl, Nat.le_refl _, fun _ _ _ => rfl⟩
theorem Mods.trans {S : List Nat} {a b c : World} (h : Mods S a b) (k : Mods S b c) : Mods S a c :=
  ⟨k.os.trans h.os, k.tape.trans h.tape, k.output.trans h.output, Nat.le_trans h.size k.size, fun i hi hS => (k.block i (Nat.lt_of_lt_of_le hi h.size) hS).trans (h.block i hi hS)⟩
theorem Mods.mono {S T : List Nat} {a b : World} (h : Mods S a b) (hs : ∀ k, k ∈ S → k ∈ T) : Mods T a b :=
  ⟨h.os, h.tape, h.output, h.size, fun k hk hT => h.block k hk (fun e => hT (hs k e))⟩
theorem Mods.ext {S : List Nat} {a b : World} (h : Ext a b) : Mods S a b := ⟨h.os, h.tape, h.output, h.size, fun k hk _ => h.block k hk⟩
theorem Mods.alloc {S : List Nat} {a w : World} (h : Mods S a w) (o : Obj) : Mods S a (w.alloc o) := h.trans (Mods.ext ((Ext.refl w).alloc o))
theorem Mods.drew {S : List Nat} {a w : World} (h : Mods S a w) : Mods S a w.drew := ⟨h.os, h.tape, h.output, h.size, h.block⟩
theorem Mods.drewN {S : List Nat} {a w : World} (h : Mods S a w) (n : Nat) : Mods S a (w.drewN n) := ⟨h.os, h.tape, h.output, h.size, h.block⟩
theorem Mods.setCell {S : List Nat} {a w : World} (h : Mods S a w) {p : Addr} (hp : p.block ∈ S ∨ a.heap.size ≤ p.block) (u : Value) : Mods S a (w.setCell p u) :=
  ⟨h.os, h.tape, h.output, by simpa [World.setCell] using h.size, fun k hk hS => (Below.heap_setCell w p u k (by
    rintro rfl
    rcases hp with hp | hp
    · exact hS hp
    · omega)).trans (h.block k hk hS)⟩
/-- A step that turns blocks of S, or blocks that lie beyond the start. -/
theorem Mods.step {S T : List Nat} {a b c : World} (h : Mods S a b) (k : Mods T b c) (hT : ∀ x, x ∈ T → x ∈ S ∨ a.heap.size ≤ x) : Mods S a c :=
  ⟨k.os.trans h.os, k.tape.trans h.tape, k.output.trans h.output, Nat.le_trans h.size k.size, fun i hi hS => (k.block i (Nat.lt_of_lt_of_le hi h.size) (fun e => by
    rcases hT i e with e | e
    · exact hS e
    · omega)).trans (h.block i hi hS)⟩
theorem Mods.below {S : List Nat} {B : Nat} {a b : World} (h : Mods S a b) (hB : B ≤ a.heap.size) (hS : ∀ k, k ∈ S → B ≤ k) : Below B a b :=
  ⟨h.os, h.tape, h.output, h.size, fun k hk => h.block k (Nat.lt_of_lt_of_le hk hB) (fun e => by have := hS k e; omega)⟩
theorem Mods.toExt {S : List Nat} {a b : World} (h : Mods S a b) (hS : ∀ k, k ∈ S → a.heap.size ≤ k) : Ext a b := h.below (Nat.le_refl _) hS
theorem Mods.heap {S : List Nat} {w w' : World} (h : Mods S w w') {k : Nat} {o : Obj} (hk : w.heap[k]? = some o) (hS : k ∉ S) : w'.heap[k]? = some o :=
  (h.block k (Array.getElem?_eq_some_iff.1 hk).1 hS).trans hk
theorem cell_of_heap {w w' : World} {p : Addr} (h : w'.heap[p.block]? = w.heap[p.block]?) : w'.cell? p = w.cell? p := World.cell?_of_block h
theorem Mods.cell {S : List Nat} {w w' : World} (h : Mods S w w') {p : Addr} {v : Value} (hc : w.cell? p = some v) (hS : p.block ∉ S) : w'.cell? p = some v := by
  have hlt : p.block < w.heap.size := by
    rcases Nat.lt_or_ge p.block w.heap.size with h | h
    · exact h
    · simp [World.cell?, Array.getElem?_eq_none h] at hc
  exact (cell_of_heap (h.block p.block hlt hS)).trans hc
theorem cell_lt {w : World} {p : Addr} {v : Value} (hc : w.cell? p = some v) : p.block < w.heap.size := by
  rcases Nat.lt_or_ge p.block w.heap.size with h | h
  · exact h
  · simp [World.cell?, Array.getElem?_eq_none h] at hc
theorem heap_lt {w : World} {k : Nat} {o : Obj} (hk : w.heap[k]? = some o) : k < w.heap.size := (Array.getElem?_eq_some_iff.1 hk).1

theorem new_ne {w : World} {p : Addr} {v : Value} (hc : w.cell? p = some v) : w.heap.size ≠ p.block := by have := cell_lt hc; omega

/-- A block of cells that is known whole, none frozen. -/
def Blk (w : World) (g : Nat) (t : TypeId) (cs : Array Value) : Prop := w.heap[g]? = some (.cells cs t (0, 0))
section
variable {w w' : World} {g : Nat} {t : TypeId} {cs : Array Value}
theorem Blk.lt (h : Blk w g t cs) : g < w.heap.size := heap_lt h
theorem Blk.cell (h : Blk w g t cs) (i : Nat) : w.cell? ⟨g, i, none⟩ = cs[i]? := cell_of_row w g i cs t (0, 0) h
theorem Blk.frozen (h : Blk w g t cs) (i : Nat) : w.frozen? ⟨g, i, none⟩ = false := by
  unfold Blk at h
  simp [World.frozen?, h]
theorem Blk.new (w : World) (t : TypeId) (cs : Array Value) : Blk (w.alloc (.cells cs t)) w.heap.size t cs := heap_alloc_new w _
theorem Blk.ext (h : Blk w g t cs) (he : Ext w w') : Blk w' g t cs := he.heap h
theorem Blk.mods {S : List Nat} (h : Blk w g t cs) (hm : Mods S w w') (hS : g ∉ S) : Blk w' g t cs := hm.heap h hS
theorem Blk.drewN (h : Blk w g t cs) (n : Nat) : Blk (w.drewN n) g t cs := h
theorem Blk.alloc (h : Blk w g t cs) (o : Obj) : Blk (w.alloc o) g t cs := h.ext ((Ext.refl w).alloc o)
theorem Blk.set_ (h : Blk w g t cs) (i : Nat) (u : Value) : Blk (w.setCell ⟨g, i, none⟩ u) g t (cs.setIfInBounds i u) := by
  unfold Blk at h ⊢
  simp [World.setCell, Array.getElem?_modify, h]
theorem Blk.far (h : Blk w g t cs) {p : Addr} (hp : g ≠ p.block) (u : Value) : Blk (w.setCell p u) g t cs := (Below.heap_setCell w p u g hp).trans h
end

/-- The world put behind a name of which only what is wanted is known. -/
theorem wp_abs {P : Program} {c : Code} {Q : Exit → Act → World → Prop} {a : Act} {w : World} (R : World → Prop) (h : R w) (k : ∀ w', R w' → c.wp P Q a w') : c.wp P Q a w := k w h
theorem wpList_abs {P : Program} {ops : Array Oper} {Q : Exit → Act → World → Prop} {l : List Oper} {a : Act} {w : World} (R : World → Prop) (h : R w) (k : ∀ w', R w' → wpList P ops Q l a w') : wpList P ops Q l a w := k w h

/-- A new block of cells, behind steps that turn nothing. -/
theorem new_cell {w w' : World} {cs : Array Value} {t : TypeId} (h : Ext (w.alloc (.cells cs t)) w') (i : Nat) : w'.cell? ⟨w.heap.size, i, none⟩ = cs[i]? :=
  ((Blk.new w t cs).ext h).cell i

end Go.El

/- Slices in memory: 'Src' (what is read), 'ownsRow' (what a call owns), of elements of any number of cells. append, as it goes. Over any program. -/
namespace Go.El
open Go.RowKit

theorem addr_add_add (a : Addr) (i j : Nat) : (a.add i).add j = a.add (i + j) := by
  unfold Addr.add
  by_cases hi : i = 0 <;> by_cases hj : j = 0 <;> simp [hi, hj, Nat.add_assoc]
theorem addr_block (a : Addr) (i : Nat) : (a.add i).block = a.block := by
  unfold Addr.add
  split <;> rfl

/-- What a slice's first m elements (k cells each) hold. -/
def Src (w : World) (A : Option Addr) (m k : Nat) (xs : List Value) : Prop :=
  xs.length = m * k ∧ (0 < m → ∃ a, A = some a ∧ ∀ j u, xs[j]? = some u → w.cell? (a.add j) = some u)

section
variable {w w' : World} {A : Option Addr} {m k : Nat} {xs : List Value}
theorem Src.ext (h : Src w A m k xs) (he : Ext w w') : Src w' A m k xs :=
  ⟨h.1, fun hm => let ⟨a, ha, hc⟩ := h.2 hm; ⟨a, ha, fun j u hu => he.cell (hc j u hu)⟩⟩
theorem Src.mods {S : List Nat} (h : Src w A m k xs) (he : Mods S w w') (hS : ∀ a, A = some a → a.block ∉ S) : Src w' A m k xs :=
  ⟨h.1, fun hm => let ⟨a, ha, hc⟩ := h.2 hm; ⟨a, ha, fun j u hu => he.cell (hc j u hu) (by rw [addr_block]; exact hS a ha)⟩⟩
theorem Src.none (w : World) (A : Option Addr) (k : Nat) : Src w A 0 k [] := ⟨by simp, fun h => absurd h (by omega)⟩
theorem Src.at_ {b off : Nat} (h : Src w (some ⟨b, off, Option.none⟩) m k xs) (hm : 0 < m) {j : Nat} {u : Value} (hj : xs[j]? = some u) : w.cell? ⟨b, off + j, Option.none⟩ = some u := by
  obtain ⟨a, ha, hc⟩ := h.2 hm
  injection ha with ha
  subst ha
  have := hc j u hj
  rw [Addr.add_lit] at this
  exact this
theorem Src.take {n : Nat} (h : Src w A m k xs) (hn : n ≤ m) : Src w A n k (xs.take (n * k)) :=
  ⟨by rw [List.length_take, h.1]; exact Nat.min_eq_left (Nat.mul_le_mul_right k hn), fun h0 => let ⟨a, ha, hc⟩ := h.2 (by omega); ⟨a, ha, fun j u hu => hc j u (by
    rw [List.getElem?_take] at hu
    split at hu
    · exact hu
    · cases hu)⟩⟩
theorem Src.drop {n : Nat} {a : Addr} (h : Src w (some a) m k xs) (hn : n ≤ m) : Src w (some (a.add (n * k))) (m - n) k (xs.drop (n * k)) :=
  ⟨by rw [List.length_drop, h.1, Nat.sub_mul], fun h0 => by
    obtain ⟨a', ha, hc⟩ := h.2 (by omega)
    injection ha with ha
    subst ha
    exact ⟨_, rfl, fun j u hu => by rw [addr_add_add]; exact hc _ u (by rw [List.getElem?_drop] at hu; exact hu)⟩⟩

theorem Src.form {B : Option Addr} (h : Src w B m k xs) (hm : 0 < m) (hk : 0 < k) : ∃ b off, B = some ⟨b, off, Option.none⟩ ∧ ∀ j u, xs[j]? = some u → w.cell? ⟨b, off + j, Option.none⟩ = some u := by
  obtain ⟨a, rfl, hc⟩ := h.2 hm
  have hl : 0 < xs.length := by rw [h.1]; exact Nat.mul_pos hm hk
  have h0 := hc 0 xs[0] (List.getElem?_eq_getElem hl)
  have hs : a.spot = Option.none := by
    cases hsp : a.spot with
    | none => rfl
    | some x =>
      have e : a.add 0 = a := by simp [Addr.add]
      rw [e] at h0
      simp only [World.cell?, hsp] at h0
      split at h0 <;> simp at h0
  obtain ⟨b, off, sp⟩ := a
  simp at hs
  subst hs
  exact ⟨b, off, rfl, fun j u hu => by have := hc j u hu; rw [Addr.add_lit] at this; exact this⟩

theorem Src.new (w : World) (cs : Array Value) (t : TypeId) (m k : Nat) (h : cs.size = m * k) : Src (w.alloc (.cells cs t)) (some ⟨w.heap.size, 0, Option.none⟩) m k cs.toList :=
  ⟨by simpa using h, fun _ => ⟨_, rfl, fun j u hu => by
    rw [Addr.add_lit, Nat.zero_add, (Blk.new w t cs).cell]
    simpa using hu⟩⟩

/-- What is owned can be read. -/
theorem Src.of_own {base : Nat} {e : TypeId} {c : Nat} (h : w.ownsRow base e k (.slice A m c) m xs) : Src w A m k xs := by
  refine ⟨h.1, fun hm => ?_⟩
  rcases h.2 with ⟨hv, h0⟩ | ⟨g, cap, cur, hv, _⟩
  · omega
  · injection hv with hA _ _
    subst hA
    exact ⟨_, rfl, h.cells (g := g) rfl⟩

theorem own_value {base : Nat} {e : TypeId} {v : Value} (h : w.ownsRow base e k v m xs) : ∃ A c, v = .slice A m c := by
  rcases h.2 with ⟨hv, h0⟩ | ⟨g, cap, cur, hv, _⟩
  · exact ⟨Option.none, 0, by rw [hv, h0]⟩
  · exact ⟨_, _, hv⟩
end

/-- The blocks of an owned slice. -/
def ownL (v : Value) : List Nat := v.ownBlock.toList

theorem own_mods {w w' : World} {base : Nat} {e : TypeId} {k : Nat} {v : Value} {n : Nat} {xs : List Value} {S : List Nat} (h : w.ownsRow base e k v n xs) (hm : Mods S w w') (hS : ∀ b, v.ownBlock = some b → b ∉ S) : w'.ownsRow base e k v n xs := by
  refine ⟨h.1, ?_⟩
  rcases h.2 with h2 | ⟨g, cap, cur, hv, hg, hh, r⟩
  · exact .inl h2
  · exact .inr ⟨g, cap, cur, hv, hg, hm.heap hh (hS g (by rw [hv]; rfl)), r⟩
theorem own_ext {w w' : World} {base : Nat} {e : TypeId} {k : Nat} {v : Value} {n : Nat} {xs : List Value} (h : w.ownsRow base e k v n xs) (hm : Ext w w') : w'.ownsRow base e k v n xs := own_mods (S := []) h (Mods.ext hm) (by simp)
theorem own_lt {w : World} {base : Nat} {e : TypeId} {k : Nat} {v : Value} {n : Nat} {xs : List Value} (h : w.ownsRow base e k v n xs) {b : Nat} (hb : v.ownBlock = some b) : b < w.heap.size := (h.lt b hb).2
theorem grown_mods {w w' : World} {v : Value} (h : w.grownBy w' v.ownBlock) : Mods (ownL v) w w' :=
  ⟨h.os, h.tape, h.output, h.size, fun i hi hS => h.block i hi (fun e => hS (by simp [ownL, ← e]))⟩

/-- append, the source nil, empty or not. -/
theorem run_append_src {P : Program} (w : World) (t ty e : TypeId) (i : TypeInfo) (z : Value) (size bytes : Nat) (ht : P.underlying t = some (.slice e)) (hi : P.info? e = some i) (hz : i.zero = some z)
    (hsize : i.size = size) (hby : i.bytes = bytes) (hzs : z.cells.size = size) (hsz : 0 < size) (v : Value) (n : Nat) (xs : List Value) (hown : w.ownsRow 0 e size v n xs)
    (A : Option Addr) (m c : Nat) (news : List Value) (hs : Src w A m size news) (h1 : ∀ u ∈ news, u.oneCell' = true) (h63 : n + m ≤ maxLen) (hbytes : (n + m) * bytes ≤ 140737488355328) :
    ∃ v' w', (Builtin.append_ #[t, t] ty #[v, .slice A m c]).run P w = .ok v' w' ∧ w'.ownsRow 0 e size v' (n + m) (xs ++ news) ∧ Mods (ownL v) w w' ∧ (v'.ownBlock = v.ownBlock ∨ v'.ownBlock = some w.heap.size) := by
  rcases A with _ | a
  · have hm : m = 0 := by
      rcases Nat.eq_zero_or_pos m with h | h
      · exact h
      · obtain ⟨a, ha, _⟩ := hs.2 h
        cases ha
    subst hm
    have hnil : news = [] := List.eq_nil_of_length_eq_zero (by simpa using hs.1)
    subst hnil
    refine ⟨v, w, ?_, by simpa using hown, Mods.refl _ _, .inl rfl⟩
    rcases hown.2 with ⟨rfl, rfl⟩ | ⟨g, cap, cur, rfl, _, _, hnc, _⟩
    · simp [Builtin.append_, run_underlying ht, Go.sizeOf, typeInfo, hi, Builtin.lenOf, Builtin.firstCells]
    · simp [Builtin.append_, run_underlying ht, Go.sizeOf, typeInfo, hi, Builtin.lenOf, Builtin.firstCells, hnc, storeCells]
  · have hcells : ∀ j u, news[j]? = some u → w.cell? (a.add j) = some u := by
      intro j u hu
      rcases Nat.eq_zero_or_pos m with h | h
      · subst h
        have hnil : news = [] := List.eq_nil_of_length_eq_zero (by simpa using hs.1)
        subst hnil
        simp at hu
      · obtain ⟨a', ha, hc⟩ := hs.2 h
        injection ha with ha
        subst ha
        exact hc j u hu
    obtain ⟨v', w', hr, h2, h3, _, h5⟩ := run_append_own_at (P := P) w 0 t ty e i z size bytes ht hi hz hsize hby hzs hsz v n xs hown a m c news hs.1 hcells h1 h63 hbytes (Nat.zero_le _)
    exact ⟨v', w', hr, h2, grown_mods h3, h5⟩

theorem wpList_append_src {P : Program} {w : World} {ops : Array Oper} {rest : List Oper} {o : Oper} {a : Act} {Q : Exit → Act → World → Prop} (hgd : o.guard = none) (s x : Operand) (t : TypeId)
    (ho : o.op = .call { callee := .builtin .append, args := #[s, x], argTypes := #[t, t] })
    (e : TypeId) (i : TypeInfo) (z : Value) (size bytes : Nat) (ht : P.underlying t = some (.slice e)) (hi : P.info? e = some i) (hz : i.zero = some z)
    (hsize : i.size = size) (hby : i.bytes = bytes) (hzs : z.cells.size = size) (hsz : 0 < size) (v : Value) (hs : a.eval s = v) (A : Option Addr) (m c : Nat) (hx : a.eval x = .slice A m c)
    (n : Nat) (xs : List Value) (hown : w.ownsRow 0 e size v n xs) (news : List Value) (hr : Src w A m size news) (h1 : ∀ u ∈ news, u.oneCell' = true)
    (h63 : n + m ≤ maxLen) (hbytes : (n + m) * bytes ≤ 140737488355328)
    (h : ∀ v' w', w'.ownsRow 0 e size v' (n + m) (xs ++ news) → Mods (ownL v) w w' → (v'.ownBlock = v.ownBlock ∨ v'.ownBlock = some w.heap.size) → wpList P ops Q rest (a.put o.dst v') w') : wpList P ops Q (o :: rest) a w := by
  refine wpList_plain hgd fun K hK => ?_
  obtain ⟨v', w', hrun, h2, h3, h4⟩ := run_append_src (P := P) w t o.type e i z size bytes ht hi hz hsize hby hzs hsz v n xs hown A m c news hr h1 h63 hbytes
  unfold Oper.wp execOp
  simp only [ho, resolve, invoke, builtin, Sem.run_bind, Sem.run_pure, Result.andThen_ok, List.map_toArray, List.map_cons, List.map_nil, hs, hx, hrun]
  exact hK _ _ (h v' w' h2 h3 h4)

/-- The same, as one step of a region that draws its order. -/
theorem step_append_src {P : Program} {w : World} {ops : Array Oper} {o : Oper} {a : Act} {K : Act → World → Prop} {Q : Exit → Act → World → Prop} {E : Prop} (hgd : o.guard = none) (s x : Operand) (t : TypeId)
    (ho : o.op = .call { callee := .builtin .append, args := #[s, x], argTypes := #[t, t] })
    (e : TypeId) (i : TypeInfo) (z : Value) (size bytes : Nat) (ht : P.underlying t = some (.slice e)) (hi : P.info? e = some i) (hz : i.zero = some z)
    (hsize : i.size = size) (hby : i.bytes = bytes) (hzs : z.cells.size = size) (hsz : 0 < size) (v : Value) (hs : a.eval s = v) (A : Option Addr) (m c : Nat) (hx : a.eval x = .slice A m c)
    (n : Nat) (xs : List Value) (hown : w.ownsRow 0 e size v n xs) (news : List Value) (hr : Src w A m size news) (h1 : ∀ u ∈ news, u.oneCell' = true)
    (h63 : n + m ≤ maxLen) (hbytes : (n + m) * bytes ≤ 140737488355328)
    (h : ∀ v' w', w'.ownsRow 0 e size v' (n + m) (xs ++ news) → Mods (ownL v) w w' → (v'.ownBlock = v.ownBlock ∨ v'.ownBlock = some w.heap.size) → K (a.put o.dst v') w') :
    if Region.wanted o (yielded ops a.tmps) = true then Oper.wp P o a w K Q else E := by
  have hw : Region.wanted o (yielded ops a.tmps) = true := by simp [Region.wanted, hgd]
  rw [if_pos hw]
  obtain ⟨v', w', hrun, h2, h3, h4⟩ := run_append_src (P := P) w t o.type e i z size bytes ht hi hz hsize hby hzs hsz v n xs hown A m c news hr h1 h63 hbytes
  unfold Oper.wp execOp
  simp only [ho, resolve, invoke, builtin, Sem.run_bind, Sem.run_pure, Result.andThen_ok, List.map_toArray, List.map_cons, List.map_nil, hs, hx, hrun]
  exact h v' w' h2 h3 h4

/-- The cells of a list of things of k cells each. -/
def flat {α : Type} (enc : α → List Value) (l : List α) : List Value := l.flatMap enc
section
variable {α : Type} {enc : α → List Value} {k : Nat}
theorem flat_len (hk : ∀ x, (enc x).length = k) : ∀ l : List α, (flat enc l).length = l.length * k
  | [] => by simp [flat]
  | x :: l => by
    have ih := flat_len hk l
    simp only [flat] at ih
    simp [flat, hk, ih, Nat.add_mul, Nat.add_comm]
theorem flat_append (l m : List α) : flat enc (l ++ m) = flat enc l ++ flat enc m := by simp [flat]
theorem flat_at (hk : ∀ x, (enc x).length = k) : ∀ (l : List α) (i j : Nat) (x : α), l[i]? = some x → j < k → (flat enc l)[i * k + j]? = (enc x)[j]?
  | [], i, j, x, h, _ => by simp at h
  | y :: l, 0, j, x, h, hj => by
    simp at h
    subst h
    simp only [flat, List.flatMap_cons, Nat.zero_mul, Nat.zero_add]
    rw [List.getElem?_append_left (by rw [hk]; exact hj)]
  | y :: l, i + 1, j, x, h, hj => by
    have ih := flat_at hk l i j x (by simpa using h) hj
    simp only [flat] at ih
    simp only [flat, List.flatMap_cons]
    rw [List.getElem?_append_right (by rw [hk, Nat.add_mul]; omega), hk]
    have e : (i + 1) * k + j - k = i * k + j := by rw [Nat.add_mul]; omega
    rw [e]
    exact ih
theorem flat_take (hk : ∀ x, (enc x).length = k) : ∀ (l : List α) (n : Nat), (flat enc l).take (n * k) = flat enc (l.take n)
  | [], n => by simp [flat]
  | x :: l, 0 => by simp [flat]
  | x :: l, n + 1 => by
    have ih := flat_take hk l n
    simp only [flat] at ih
    simp only [flat, List.flatMap_cons, List.take_succ_cons]
    rw [List.take_append, hk, List.take_of_length_le (by rw [hk, Nat.add_mul]; omega)]
    have e : (n + 1) * k - k = n * k := by rw [Nat.add_mul]; omega
    rw [e, ih]
theorem flat_drop (hk : ∀ x, (enc x).length = k) : ∀ (l : List α) (n : Nat), (flat enc l).drop (n * k) = flat enc (l.drop n)
  | [], n => by simp [flat]
  | x :: l, 0 => by simp [flat]
  | x :: l, n + 1 => by
    have ih := flat_drop hk l n
    simp only [flat] at ih
    simp only [flat, List.flatMap_cons, List.drop_succ_cons]
    rw [List.drop_append, hk, List.drop_of_length_le (by rw [hk, Nat.add_mul]; omega)]
    have e : (n + 1) * k - k = n * k := by rw [Nat.add_mul]; omega
    rw [e, ih]; simp
theorem flat_one (h1 : ∀ x, ∀ u ∈ enc x, u.oneCell' = true) (l : List α) : ∀ u ∈ flat enc l, u.oneCell' = true := by
  intro u hu
  obtain ⟨x, _, hx⟩ := List.mem_flatMap.1 hu
  exact h1 x u hx
end

end Go.El
