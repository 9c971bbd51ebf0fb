/- Layer 10: a reader's state in memory; what a reader turns. -/
import Derived.Test.YtgcdhffeacdegaaGreatDoorH04
import Derived.Test.YtgcdhffeacdegaaGreatDoorH06
import Derived.Test.YtgcdhffeacdegaaGreatDoorH07
namespace Go.El
open Go.RowKit Go.Proofs.YtgcdhffeacdegaaGreatDoor
def Clr2 (S : List Nat) (nv : Value) (w : World) (k : Nat) : Prop := k ∉ S ∧ nv.ownBlock ≠ some k ∧ k < w.heap.size
structure PStep (S : List Nat) (nv : Value) (w : World) (nv' : Value) (w' : World) : Prop where
 mods : Mods (S ++ ownL nv) w w'
 own : ∀ k, nv'.ownBlock = some k → nv.ownBlock = some k ∨ w.heap.size ≤ k
theorem Clr2.no {S : List Nat} {nv : Value} {w : World} {k : Nat} (h : Clr2 S nv w k) : k ∉ S ++ ownL nv := by
 intro hm
 rcases List.mem_append.1 hm with e | e
 ·exact h.1 e
 ·exact h.2.1 (by simpa [ownL] using e)
theorem PStep.clr {S : List Nat} {nv nv' : Value} {w w' : World} (h : PStep S nv w nv' w') {k : Nat} (hk : Clr2 S nv w k) : Clr2 S nv' w' k := by
 refine ⟨hk.1, fun e => ?_, Nat.lt_of_lt_of_le hk.2.2 h.mods.size⟩
 rcases h.own k e with e | e
 ·exact hk.2.1 e
 ·exact absurd hk.2.2 (by omega)
theorem PStep.refl (S : List Nat) (nv : Value) (w : World) : PStep S nv w nv w := ⟨Mods.refl _ w, fun _ h => .inl h⟩
theorem PStep.ext {S : List Nat} {nv : Value} {w w' : World} (h : Ext w w') : PStep S nv w nv w' := ⟨Mods.ext h, fun _ h => .inl h⟩
theorem PStep.trans {S : List Nat} {nv v1 v2 : Value} {w w1 w2 : World} (h : PStep S nv w v1 w1) (k : PStep S v1 w1 v2 w2) : PStep S nv w v2 w2 := by
 refine ⟨h.mods.step k.mods (fun x hx => ?_), fun x hx => ?_⟩
 ·rcases List.mem_append.1 hx with e | e
  ·exact .inl (List.mem_append.2 (.inl e))
  ·have e1 : v1.ownBlock = some x := by simpa [ownL] using e
   rcases h.own x e1 with e2 | e2
   ·exact .inl (List.mem_append.2 (.inr (by simp [ownL, e2])))
   ·exact .inr e2
 ·rcases k.own x hx with e | e
  ·exact h.own x e
  ·exact .inr (Nat.le_trans h.mods.size e)
theorem PStep.set_ {S : List Nat} {nv : Value} {w : World} {g i : Nat} (hg : g ∈ S) (u : Value) : PStep S nv w nv (w.setCell ⟨g, i, none⟩ u) :=
 ⟨(Mods.refl _ w).setCell (p := ⟨g, i, none⟩) (.inl (List.mem_append.2 (.inl hg))) u, fun _ h => .inl h⟩
theorem PStep.size {S : List Nat} {nv nv' : Value} {w w' : World} (h : PStep S nv w nv' w') : w.heap.size ≤ w'.heap.size := h.mods.size
theorem clr2_new {S : List Nat} {nv : Value} {w : World} (hS : ∀ k ∈ S, k < w.heap.size) (hn : ∀ k, nv.ownBlock = some k → k < w.heap.size) {k : Nat} (h1 : w.heap.size ≤ k) {w' : World} (h2 : k < w'.heap.size) : Clr2 S nv w' k :=
 ⟨fun hm => by have := hS k hm; omega, fun e => by have := hn k e; omega, h2⟩
def tokOk (t : TokV) : Bool := (decide (t.kind = 1) || decide (t.kind = 2) || decide (t.kind = 3) || decide (t.kind = 4) || (decide (t.kind = 5) && [[40], [41], [91], [93], [123], [125], [44], [124]].contains t.s.data.toList) || decide (t.kind = 6)) && decide (t.s.size ≤ 64) && decide (0 ≤ t.n ∧ t.n ≤ 9007199254740991) && decide (0 ≤ t.at_ ∧ t.at_ ≤ 100000)
structure ToksOk (L : List TokV) : Prop where
 ok : ∀ t ∈ L, tokOk t = true
 len : L.length ≤ 65537
 fin : ∃ M E, L = M ++ [E] ∧ E.kind = 6
theorem suf_tail {r L : List TokV} {t : TokV} {q : List TokV} (h : r <:+ L) (hr : r = t :: q) : q <:+ L := by
 subst hr
 exact (List.suffix_cons t q).trans h
theorem ToksOk.head {L r : List TokV} (h : ToksOk L) (hr : r <:+ L) {t : TokV} {q : List TokV} (e : r = t :: q) : tokOk t = true := h.ok t (hr.subset (by simp [e]))
theorem ToksOk.more {L r : List TokV} (h : ToksOk L) (hr : r <:+ L) {t : TokV} {q : List TokV} (e : r = t :: q) (hk : t.kind ≠ 6) : ∃ u p, q = u :: p := by
 cases q with
 | cons u p => exact ⟨u, p, rfl⟩
 | nil =>
  exfalso
  obtain ⟨M, E, hL, hE⟩ := h.fin
  obtain ⟨P, hP⟩ := hr
  rw [e, hL] at hP
  have := (List.append_inj' hP rfl).2
  injection this with this
  rw [this] at hk
  exact hk hE
theorem ToksOk.ne {L r : List TokV} (h : r <:+ L) (hne : r ≠ []) : ∃ t q, r = t :: q := by
 cases r with
 | nil => exact absurd rfl hne
 | cons t q => exact ⟨t, q, rfl⟩
def plI (L r : List TokV) : Nat := L.length - r.length
theorem plI_drop {L r : List TokV} (h : r <:+ L) : L.drop (plI L r) = r := by
 obtain ⟨P, rfl⟩ := h
 unfold plI
 rw [List.length_append, Nat.add_sub_cancel, List.drop_left']
 rfl
theorem plI_lt {L r : List TokV} (h : r <:+ L) (hne : r ≠ []) : plI L r < L.length := by
 have := h.length_le
 have : 0 < r.length := List.length_pos_iff.2 hne
 unfold plI
 omega
theorem plI_get {L r : List TokV} (h : r <:+ L) (k : Nat) : L[plI L r + k]? = r[k]? := by
 conv => rhs; rw [← plI_drop h]
 rw [List.getElem?_drop]
theorem plI_tail {L r : List TokV} {t : TokV} {q : List TokV} (h : r <:+ L) (e : r = t :: q) : plI L q = plI L r + 1 := by
 have := h.length_le
 subst e
 simp only [List.length_cons] at this
 unfold plI
 simp only [List.length_cons]
 omega
def resIs {α : Type} (x : PR α) (a : α) (r : List TokV) (ns : List ByteArray) (bad : Bool) : Prop := match x with
 | .bad q => bad = true ∧ q = r
 | .ok b q ms => bad = false ∧ b = a ∧ q = r ∧ ms = ns
end Go.El
