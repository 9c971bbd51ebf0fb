/- Layer 17, the program: a new maker, its maps laid ahead of Base, behind it, or both ways. -/
import Derived.Test.YtmnnhdegoapfcaaGreatDoorP36
namespace Go.Proofs.YtmnnhdegoapfcaaGreatDoor
open Go.RowKit Go.El
structure PreIn (w : World) (lo : Nat) (p : PlanV) (A L : Option Addr) : Prop where
 hs : El.Src w A p.slots.length 1 (p.slots.map (Value.int .i64))
 hl : El.Src w L p.live.length 1 (p.live.map (Value.int .i64))
 sa : ∀ a, A = some a → a.block < lo
 la : ∀ a, L = some a → a.block < lo
 lt : lo ≤ w.heap.size
theorem PreIn.ext {w w' : World} {lo : Nat} {p : PlanV} {A L : Option Addr} (h : PreIn w lo p A L) (x : Ext w w') : PreIn w' lo p A L := ⟨h.hs.ext x, h.hl.ext x, h.sa, h.la, Nat.le_trans h.lt x.size⟩
abbrev mkO (p : PlanV) (A : Option Addr) (cA : Nat) (L : Option Addr) (cL : Nat) (n0 : Int) (sm rm : Nat) : Obj := .cells #[.bool p.env, .slice A p.slots.length cA, .int .i64 p.level, .slice L p.live.length cL, .int .i64 n0, .map (some sm), .map (some rm), .slice none 0 0] 89
section
variable {V V5 : World} {lo cA cL : Nat} {p : PlanV} {A L : Option Addr} {n0 : Int}
theorem pre_any {Wl : World} {mb sm rm : Nat} (h : PreIn V lo p A L) (x : Ext V Wl) (h1 : MapAt (Value.int .i64) Wl sm []) (h2 : MapAt (Value.int .i64) Wl rm []) (k1 : lo ≤ sm) (k2 : lo ≤ rm) (hne : sm ≠ rm) (e : mb = Wl.heap.size) : MkPre ⟨mb, sm, rm, p, A, cA, L, cL⟩ lo (Wl.alloc (mkO p A cA L cL n0 sm rm)) n0 0 ∧ Ext V (Wl.alloc (mkO p A cA L cL n0 sm rm)) := by
 subst e
 have g := h.ext x
 exact ⟨MkPre.start h1 h2 g.hs g.hl g.sa g.la k1 k2 hne, x.alloc _⟩
theorem two_A (x : Ext V.drew V5) : MapAt (Value.int .i64) ((V5.alloc (.map #[] 0)).alloc (.map #[] 0)) V5.heap.size [] ∧ MapAt (Value.int .i64) ((V5.alloc (.map #[] 0)).alloc (.map #[] 0)) (V5.heap.size + 1) [] ∧ Ext V ((V5.alloc (.map #[] 0)).alloc (.map #[] 0)) ∧ V.heap.size ≤ V5.heap.size := by
 have h2 := MapAt.new (Value.int .i64) (V5.alloc (.map #[] 0))
 rw [World.size_alloc] at h2
 exact ⟨(MapAt.new _ V5).ext ((Ext.refl _).alloc _), h2, ((((Ext.refl V).drew).trans x).alloc _).alloc _, x.size⟩
theorem two_B (x : Ext (V.alloc (.map #[] 0)).drew V5) : MapAt (Value.int .i64) (V5.alloc (.map #[] 0)) V.heap.size [] ∧ MapAt (Value.int .i64) (V5.alloc (.map #[] 0)) V5.heap.size [] ∧ Ext V (V5.alloc (.map #[] 0)) ∧ V.heap.size < V5.heap.size := by
 have h1 := ((MapAt.new (Value.int .i64) V).ext ((Ext.refl _).drew)).ext x
 exact ⟨h1.ext ((Ext.refl _).alloc _), MapAt.new _ V5, ((((Ext.refl V).alloc _).drew).trans x).alloc _, h1.lt⟩
theorem two_C (x : Ext ((V.alloc (.map #[] 0)).alloc (.map #[] 0)).drew V5) : MapAt (Value.int .i64) V5 V.heap.size [] ∧ MapAt (Value.int .i64) V5 (V.heap.size + 1) [] ∧ Ext V V5 := by
 have h1 := (((MapAt.new (Value.int .i64) V).ext ((Ext.refl _).alloc (.map #[] 0))).ext ((Ext.refl _).drew)).ext x
 have h2 := ((MapAt.new (Value.int .i64) (V.alloc (.map #[] 0))).ext ((Ext.refl _).drew)).ext x
 rw [World.size_alloc] at h2
 exact ⟨h1, h2, ((((Ext.refl V).alloc _).alloc _).drew).trans x⟩
theorem pre_A1 (h : PreIn V lo p A L) (x : Ext V.drew V5) : MkPre ⟨V5.heap.size + 1 + 1, V5.heap.size, V5.heap.size + 1, p, A, cA, L, cL⟩ lo (((V5.alloc (.map #[] 0)).alloc (.map #[] 0)).alloc (mkO p A cA L cL n0 V5.heap.size (V5.heap.size + 1))) n0 0 ∧ Ext V (((V5.alloc (.map #[] 0)).alloc (.map #[] 0)).alloc (mkO p A cA L cL n0 V5.heap.size (V5.heap.size + 1))) := by
 obtain ⟨a1, a2, a3, a4⟩ := two_A x
 have := h.lt
 exact pre_any h a3 a1 a2 (by omega) (by omega) (by omega) (by simp)
theorem pre_A2 (h : PreIn V lo p A L) (x : Ext V.drew V5) : MkPre ⟨V5.heap.size + 1 + 1, V5.heap.size + 1, V5.heap.size, p, A, cA, L, cL⟩ lo (((V5.alloc (.map #[] 0)).alloc (.map #[] 0)).alloc (mkO p A cA L cL n0 (V5.heap.size + 1) V5.heap.size)) n0 0 ∧ Ext V (((V5.alloc (.map #[] 0)).alloc (.map #[] 0)).alloc (mkO p A cA L cL n0 (V5.heap.size + 1) V5.heap.size)) := by
 obtain ⟨a1, a2, a3, a4⟩ := two_A x
 have := h.lt
 exact pre_any h a3 a2 a1 (by omega) (by omega) (by omega) (by simp)
theorem pre_B1 (h : PreIn V lo p A L) (x : Ext (V.alloc (.map #[] 0)).drew V5) : MkPre ⟨V5.heap.size + 1, V.heap.size, V5.heap.size, p, A, cA, L, cL⟩ lo ((V5.alloc (.map #[] 0)).alloc (mkO p A cA L cL n0 V.heap.size V5.heap.size)) n0 0 ∧ Ext V ((V5.alloc (.map #[] 0)).alloc (mkO p A cA L cL n0 V.heap.size V5.heap.size)) := by
 obtain ⟨a1, a2, a3, a4⟩ := two_B x
 have := h.lt
 exact pre_any h a3 a1 a2 (by omega) (by omega) (by omega) (by simp)
theorem pre_B2 (h : PreIn V lo p A L) (x : Ext (V.alloc (.map #[] 0)).drew V5) : MkPre ⟨V5.heap.size + 1, V5.heap.size, V.heap.size, p, A, cA, L, cL⟩ lo ((V5.alloc (.map #[] 0)).alloc (mkO p A cA L cL n0 V5.heap.size V.heap.size)) n0 0 ∧ Ext V ((V5.alloc (.map #[] 0)).alloc (mkO p A cA L cL n0 V5.heap.size V.heap.size)) := by
 obtain ⟨a1, a2, a3, a4⟩ := two_B x
 have := h.lt
 exact pre_any h a3 a2 a1 (by omega) (by omega) (by omega) (by simp)
theorem pre_C1 (h : PreIn V lo p A L) (x : Ext ((V.alloc (.map #[] 0)).alloc (.map #[] 0)).drew V5) : MkPre ⟨V5.heap.size, V.heap.size, V.heap.size + 1, p, A, cA, L, cL⟩ lo (V5.alloc (mkO p A cA L cL n0 V.heap.size (V.heap.size + 1))) n0 0 ∧ Ext V (V5.alloc (mkO p A cA L cL n0 V.heap.size (V.heap.size + 1))) := by
 obtain ⟨a1, a2, a3⟩ := two_C x
 have := h.lt
 exact pre_any h a3 a1 a2 (by omega) (by omega) (by omega) rfl
theorem pre_C2 (h : PreIn V lo p A L) (x : Ext ((V.alloc (.map #[] 0)).alloc (.map #[] 0)).drew V5) : MkPre ⟨V5.heap.size, V.heap.size + 1, V.heap.size, p, A, cA, L, cL⟩ lo (V5.alloc (mkO p A cA L cL n0 (V.heap.size + 1) V.heap.size)) n0 0 ∧ Ext V (V5.alloc (mkO p A cA L cL n0 (V.heap.size + 1) V.heap.size)) := by
 obtain ⟨a1, a2, a3⟩ := two_C x
 have := h.lt
 exact pre_any h a3 a2 a1 (by omega) (by omega) (by omega) rfl
end
end Go.Proofs.YtmnnhdegoapfcaaGreatDoor
