/- What a walk over a state turns: some blocks of its own, and the block of one row that grows. -/
import Derived.Test.YtmnnhdegoapfcaaGreatDoorP08
import Derived.Test.YtmnnhdegoapfcaaGreatDoorP13
import Derived.Test.YtmnnhdegoapfcaaGreatDoorP07
import Derived.Deep.RegionLaw
namespace Go.El
open Go.RowKit Go.Proofs.YtmnnhdegoapfcaaGreatDoor
def Clr2 (S : List Nat) (nv : Value) (w : World) (k : Nat) : Prop := k ∉ S ∧ nv.ownBlock ≠ some k ∧ k < w.heap.size
structure PStep (S : List Nat) (nv : Value) (w : World) (nv' : Value) (w' : World) : Prop where
 mods : Mods (S ++ ownL nv) w w'
 own : ∀ k, nv'.ownBlock = some k → nv.ownBlock = some k ∨ w.heap.size ≤ k
theorem Clr2.no {S : List Nat} {nv : Value} {w : World} {k : Nat} (h : Clr2 S nv w k) : k ∉ S ++ ownL nv := by
 intro hm
 rcases List.mem_append.1 hm with e | e
 ·exact h.1 e
 ·exact h.2.1 (by simpa [ownL] using e)
theorem PStep.clr {S : List Nat} {nv nv' : Value} {w w' : World} (h : PStep S nv w nv' w') {k : Nat} (hk : Clr2 S nv w k) : Clr2 S nv' w' k := by
 refine ⟨hk.1, fun e => ?_, Nat.lt_of_lt_of_le hk.2.2 h.mods.size⟩
 rcases h.own k e with e | e
 ·exact hk.2.1 e
 ·exact absurd hk.2.2 (by omega)
theorem PStep.tm {S : List Nat} {nv nv' : Value} {w w' : World} (h : PStep S nv w nv' w') {t : Tm} {A : Option Addr} {c : Nat} (ht : TmIn (Clr2 S nv w) w t A c) : TmIn (Clr2 S nv' w') w' t A c :=
 TmIn.mods h.mods (fun _ hk => hk.no) (fun _ hk => h.clr hk) ht
theorem PStep.refl (S : List Nat) (nv : Value) (w : World) : PStep S nv w nv w := ⟨Mods.refl _ w, fun _ h => .inl h⟩
theorem PStep.ext {S : List Nat} {nv : Value} {w w' : World} (h : Ext w w') : PStep S nv w nv w' := ⟨Mods.ext h, fun _ h => .inl h⟩
theorem PStep.trans {S : List Nat} {nv v1 v2 : Value} {w w1 w2 : World} (h : PStep S nv w v1 w1) (k : PStep S v1 w1 v2 w2) : PStep S nv w v2 w2 := by
 refine ⟨h.mods.step k.mods (fun x hx => ?_), fun x hx => ?_⟩
 ·rcases List.mem_append.1 hx with e | e
  ·exact .inl (List.mem_append.2 (.inl e))
  ·have e1 : v1.ownBlock = some x := by simpa [ownL] using e
   rcases h.own x e1 with e2 | e2
   ·exact .inl (List.mem_append.2 (.inr (by simp [ownL, e2])))
   ·exact .inr e2
 ·rcases k.own x hx with e | e
  ·exact h.own x e
  ·exact .inr (Nat.le_trans h.mods.size e)
theorem PStep.set_ {S : List Nat} {nv : Value} {w : World} {g i : Nat} (hg : g ∈ S) (u : Value) : PStep S nv w nv (w.setCell ⟨g, i, none⟩ u) :=
 ⟨(Mods.refl _ w).setCell (p := ⟨g, i, none⟩) (.inl (List.mem_append.2 (.inl hg))) u, fun _ h => .inl h⟩
theorem PStep.new1 {S : List Nat} {nv nv' : Value} {w W : World} (h : PStep S nv w nv' W) {k : Nat} (hk : w.heap.size ≤ k) (i : Nat) (u : Value) : PStep S nv w nv' (W.setCell ⟨k, i, none⟩ u) :=
 ⟨h.mods.setCell (p := ⟨k, i, none⟩) (.inr hk) u, h.own⟩
theorem PStep.size {S : List Nat} {nv nv' : Value} {w w' : World} (h : PStep S nv w nv' w') : w.heap.size ≤ w'.heap.size := h.mods.size
end Go.El

/- Layer 17, the program: a maker's state. -/
namespace Go.El
open Go.RowKit
def rgP (l : List (Int × Int)) : List (Int × Value) := l.map fun p => (p.1, .int .i64 p.2)
theorem rg_find (n : Int) : ∀ l : List (Int × Int), findP n (rgP l) = (findR n l).map (Value.int .i64)
 | [] => rfl
 | p :: l => by
  have := rg_find n l
  simp only [rgP, List.map_cons, findP, findR] at this ⊢
  split
  ·rfl
  ·exact this
theorem rg_set {n v : Int} : ∀ {l : List (Int × Int)}, findR n l = none → setP n (.int .i64 v) (rgP l) = rgP (l ++ [(n, v)])
 | [], _ => rfl
 | p :: l, h => by
  simp only [findR] at h
  split at h
  ·cases h
  ·next hp =>
   have := rg_set (v := v) h
   simp only [rgP, List.map_cons, setP, List.cons_append] at this ⊢
   rw [if_neg hp, this]
def SlotsIn (ps : List (Int × Value)) (S : List Int) : Prop := ∀ n, findP n ps = (slotN S n).map (Value.int .i64)
end Go.El
namespace Go.Proofs.YtmnnhdegoapfcaaGreatDoor
open Go.RowKit Go.El
structure MF where
 mb : Nat
 sm : Nat
 rm : Nat
 p : PlanV
 A : Option Addr
 cA : Nat
 L : Option Addr
 cL : Nat
def MF.S (f : MF) : List Nat := [f.mb, f.rm]
def mkA (f : MF) (m : Mk) (nv : Value) : Array Value := #[.bool f.p.env, .slice f.A f.p.slots.length f.cA, .int .i64 f.p.level, .slice f.L f.p.live.length f.cL, .int .i64 m.next, .map (some f.sm), .map (some f.rm), nv]
structure MkAt (f : MF) (w : World) (m : Mk) (nv : Value) : Prop where
 blk : Blk w f.mb 89 (mkA f m nv)
 own : w.ownsRow 0 25 5 nv m.out.length (flat insCells m.out)
 slots : ∃ ps, MapAt (Value.int .i64) w f.sm ps ∧ SlotsIn ps f.p.slots
 regs : MapAt (Value.int .i64) w f.rm (rgP m.regs)
 live : El.Src w f.L f.p.live.length 1 (f.p.live.map (Value.int .i64))
 cs : Clr2 f.S nv w f.sm
 cl : ∀ a, f.L = some a → Clr2 f.S nv w a.block
 pm : f.mb ≠ f.rm
 np : nv.ownBlock ≠ some f.mb
 nm : nv.ownBlock ≠ some f.rm
def MkTo (f : MF) (w : World) (nv : Value) (m : Mk) (w' : World) : Prop := ∃ nv', MkAt f w' m nv' ∧ PStep f.S nv w nv' w'
theorem MkAt.step {f : MF} {w w' : World} {m m' : Mk} {nv nv' : Value} (h : MkAt f w m nv) (s : PStep f.S nv w nv' w')
  (hb : Blk w' f.mb 89 (mkA f m' nv')) (ho : w'.ownsRow 0 25 5 nv' m'.out.length (flat insCells m'.out)) (hr : MapAt (Value.int .i64) w' f.rm (rgP m'.regs))
  (hp : nv'.ownBlock ≠ some f.mb) (hp2 : nv'.ownBlock ≠ some f.rm) : MkAt f w' m' nv' := by
 obtain ⟨ps, h1, h2⟩ := h.slots
 exact ⟨hb, ho, ⟨ps, h1.mods s.mods h.cs.no, h2⟩, hr, h.live.mods s.mods (fun a ha => (h.cl a ha).no), s.clr h.cs, fun a ha => s.clr (h.cl a ha), h.pm, hp, hp2⟩
theorem MkAt.ext {f : MF} {w w' : World} {m : Mk} {nv : Value} (h : MkAt f w m nv) (x : Ext w w') : MkAt f w' m nv :=
 h.step (PStep.ext x) (h.blk.ext x) (own_ext h.own x) (h.regs.ext x) h.np h.nm
theorem MF.mbS {f : MF} : f.mb ∈ f.S := by simp [MF.S]
theorem MF.rmS {f : MF} : f.rm ∈ f.S := by simp [MF.S]
structure MkC (f : MF) (w : World) (m : Mk) (nv : Value) : Prop where
 c0 : w.cell? ⟨f.mb, 0, none⟩ = some (.bool f.p.env)
 c2 : w.cell? ⟨f.mb, 2, none⟩ = some (.int .i64 f.p.level)
 c3 : w.cell? ⟨f.mb, 3, none⟩ = some (.slice f.L f.p.live.length f.cL)
 c4 : w.cell? ⟨f.mb, 4, none⟩ = some (.int .i64 m.next)
 c5 : w.cell? ⟨f.mb, 5, none⟩ = some (.map (some f.sm))
 c6 : w.cell? ⟨f.mb, 6, none⟩ = some (.map (some f.rm))
 c7 : w.cell? ⟨f.mb, 7, none⟩ = some nv
theorem MkAt.cells {f : MF} {w : World} {m : Mk} {nv : Value} (h : MkAt f w m nv) : MkC f w m nv :=
 ⟨h.blk.cell 0, h.blk.cell 2, h.blk.cell 3, h.blk.cell 4, h.blk.cell 5, h.blk.cell 6, h.blk.cell 7⟩
theorem MkAt.setN {f : MF} {w : World} {m : Mk} {nv : Value} (h : MkAt f w m nv) (k : Int) :
  MkAt f (w.setCell ⟨f.mb, 4, none⟩ (.int .i64 k)) { m with next := k } nv ∧ PStep f.S nv w nv (w.setCell ⟨f.mb, 4, none⟩ (.int .i64 k)) := by
 have s := PStep.set_ (S := f.S) (nv := nv) (w := w) (i := 4) (MF.mbS (f := f)) (.int .i64 k)
 exact ⟨h.step s (h.blk.set_ 4 _) (ownsRow_setCell_other h.own h.np _) (h.regs.setCell _ _) h.np h.nm, s⟩
theorem MkAt.put1 {f : MF} {w w' : World} {m : Mk} {nv nv' : Value} {i : Ins} (h : MkAt f w m nv) (ho : w'.ownsRow 0 25 5 nv' (m.out.length + 1) (flat insCells m.out ++ insCells i)) (hm : Mods (ownL nv) w w') (hb : nv'.ownBlock = nv.ownBlock ∨ nv'.ownBlock = some w.heap.size) :
  MkAt f (w'.setCell ⟨f.mb, 7, none⟩ nv') (m.add i) nv' ∧ PStep f.S nv w nv' (w'.setCell ⟨f.mb, 7, none⟩ nv') := by
 have hmb := h.blk.lt
 have hrm := h.regs.lt
 have hno : ∀ k, k < w.heap.size → nv.ownBlock ≠ some k → nv'.ownBlock ≠ some k := fun k h1 h2 e => by
  rcases hb with hb | hb
  ·exact h2 (hb.symm.trans e)
  ·have := hb.symm.trans e
   injection this with this
   omega
 have s1 : PStep f.S nv w nv' w' := ⟨hm.mono (fun k hk => List.mem_append.2 (.inr hk)), fun k hk => by
  rcases hb with hb | hb
  ·exact .inl (hb.symm.trans hk)
  ·have := hb.symm.trans hk
   injection this with this
   exact .inr (by omega)⟩
 have s2 := PStep.set_ (S := f.S) (nv := nv') (w := w') (i := 7) (MF.mbS (f := f)) nv'
 have hn1 := hno _ hmb h.np
 have hn2 := hno _ hrm h.nm
 have hS : f.mb ∉ ownL nv := fun e => h.np (by simpa [ownL] using e)
 have hR : f.rm ∉ ownL nv := fun e => h.nm (by simpa [ownL] using e)
 refine ⟨h.step (s1.trans s2) ((h.blk.mods hm hS).set_ 7 nv') ?_ ((h.regs.mods hm hR).setCell _ _) hn1 hn2, s1.trans s2⟩
 have e1 : (m.add i).out.length = m.out.length + 1 := by simp [Mk.add]
 have e2 : flat insCells (m.add i).out = flat insCells m.out ++ insCells i := by
  unfold Mk.add
  simp only
  rw [flat_append]
  simp [flat]
 rw [e1, e2]
 exact ownsRow_setCell_other ho hn1 _
theorem MkAt.reg {f : MF} {w w' : World} {m : Mk} {nv : Value} {n v : Int} (h : MkAt f w m nv) (hf : findR n m.regs = none) (hm : MapAt (Value.int .i64) w' f.rm (setP n (.int .i64 v) (rgP m.regs))) (hd : Mods [f.rm] w w') :
  MkAt f w' { m with regs := m.regs ++ [(n, v)] } nv ∧ PStep f.S nv w nv w' := by
 have s : PStep f.S nv w nv w' := ⟨hd.mono (fun k hk => List.mem_append.2 (.inl (by simp at hk; subst hk; exact MF.rmS))), fun k hk => .inl hk⟩
 rw [rg_set hf] at hm
 exact ⟨h.step s (h.blk.mods hd (by simp; exact h.pm)) (own_mods h.own hd (fun b hb => by simp; rintro rfl; exact h.nm hb)) hm h.np h.nm, s⟩
structure MkNo (f : MF) (k : Nat) : Prop where
 s : k ∉ f.S
 m : k ≠ f.sm
 l : ∀ a, f.L = some a → a.block ≠ k
theorem MkAt.no {f : MF} {w : World} {m : Mk} {nv : Value} (h : MkAt f w m nv) {k : Nat} (hk : w.heap.size ≤ k) : MkNo f k ∧ nv.ownBlock ≠ some k := by
 have h1 := h.blk.lt
 have h2 := h.regs.lt
 have h3 := h.cs.2.2
 refine ⟨⟨fun e => ?_, by omega, fun a ha => by have := (h.cl a ha).2.2; omega⟩, fun e => by have := own_lt h.own e; omega⟩
 simp [MF.S] at e
 omega
theorem MkNo.nin {f : MF} {k : Nat} {nv : Value} (h : MkNo f k) (hn : nv.ownBlock ≠ some k) : k ∉ f.S ++ ownL nv := fun e => by
 rcases List.mem_append.1 e with e | e
 ·exact h.s e
 ·exact hn (by simpa [ownL] using e)
theorem MkAt.set1 {f : MF} {w : World} {m : Mk} {nv : Value} (h : MkAt f w m nv) {k : Nat} (no : MkNo f k) (hn : nv.ownBlock ≠ some k) (i : Nat) (u : Value) : MkAt f (w.setCell ⟨k, i, none⟩ u) m nv := by
 have hd : Mods [k] w (w.setCell ⟨k, i, none⟩ u) := (Mods.refl _ w).setCell (p := ⟨k, i, none⟩) (.inl (by simp)) u
 have h1 : f.mb ≠ k := fun e => no.s (by simp [MF.S, e])
 have h2 : f.rm ≠ k := fun e => no.s (by simp [MF.S, e])
 have hc : ∀ j, Clr2 f.S nv w j → Clr2 f.S nv (w.setCell ⟨k, i, none⟩ u) j := fun j hj => ⟨hj.1, hj.2.1, by simpa using hj.2.2⟩
 obtain ⟨ps, g1, g2⟩ := h.slots
 exact ⟨h.blk.mods hd (by simpa using h1), own_mods h.own hd (fun b hb => by simp; rintro rfl; exact hn hb), ⟨ps, g1.mods hd (by simpa using fun e => no.m e.symm), g2⟩, h.regs.mods hd (by simpa using h2), h.live.mods hd (fun a ha => by simpa using no.l a ha), hc _ h.cs, fun a ha => hc _ (h.cl a ha), h.pm, h.np, h.nm⟩
theorem _root_.Go.El.PStep.no {S : List Nat} {nv nv' : Value} {w W : World} (h : PStep S nv w nv' W) {k : Nat} (hk : k < w.heap.size) (hn : nv.ownBlock ≠ some k) : nv'.ownBlock ≠ some k := fun e => by
 rcases h.own k e with e | e
 ·exact hn e
 ·omega
end Go.Proofs.YtmnnhdegoapfcaaGreatDoor

/- Layer 17, the program: the walks of add, full, take, pick. -/
namespace Go.Proofs.YtmnnhdegoapfcaaGreatDoor
open Go.RowKit Go.El
theorem insInfo : (Tryz.prog.info? 25).map (fun i => (i.zero, i.size, i.bytes)) = some (some (.agg #[.int .i64 0, .string ⟨#[]⟩, .int .i64 0, .int .i64 0, .int .i64 0]), 5, 48) := by kernel_rfl
def insV (i : Ins) : Value := .agg #[.int .i64 i.op, .string i.s, .int .i64 i.n, .int .i64 i.v, .int .i64 i.a]
theorem insCells_one (i : Ins) : ∀ u ∈ insCells i, u.oneCell' = true := by
 intro u hu
 simp only [insCells, List.mem_cons, List.not_mem_nil, or_false] at hu
 rcases hu with rfl | rfl | rfl | rfl | rfl <;> rfl
theorem mem_ownL2 {v : Value} {k : Nat} (h : k ∈ ownL v) : v.ownBlock = some k := by simpa [ownL] using h
set_option maxRecDepth 100000 in
set_option maxHeartbeats 4000000 in
theorem mAdd (i : Ins) {f : MF} {w : World} {m : Mk} {nv : Value} (h : MkAt f w m nv) (hr : Rm m 1) :
  Calls Tryz.prog 43 #[.pointer (some ⟨f.mb, 0, none⟩), insV i] w fun e w' => e = .returned (.tuple #[]) ∧ MkTo f w nv (m.add i) w' := by
 obtain ⟨i0, hi0, hz0, hz1, hz2⟩ := infoP insInfo
 have hbd := hr.2.2
 obtain ⟨o, s, n, v, a⟩ := i
 unfold insV
 obtain ⟨A, c, rfl⟩ := own_value h.own
 have H := Lib.hid h
 have hp : f.mb < w.heap.size := h.blk.lt
 have hx := ext_box w (.cells #[.int .i64 o, .string s, .int .i64 n, .int .i64 v, .int .i64 a] 25)
 have hb := Blk.new w 25 #[.int .i64 o, .string s, .int .i64 n, .int .i64 v, .int .i64 a]
 clear h hr
 simp only
 go_enter Tryz.func43, Tryz.ntmps43
 go_upto_region 1 with fail
 generalize w.alloc (.cells #[.int .i64 o, .string s, .int .i64 n, .int .i64 v, .int .i64 a] 25) = W at hx hb ⊢
 have HX := Lib.hid hx
 have k7 := (H.out.ext hx).cells.c7
 have f7 := (H.out.ext hx).blk.frozen 7
 have hpW : f.mb < W.heap.size := cell_lt k7
 have hwW : w.heap.size < W.heap.size := hb.lt
 have d0 : W.cell? ⟨w.heap.size, 0, none⟩ = some (.int .i64 o) := hb.cell 0
 have d1 : W.cell? ⟨w.heap.size, 1, none⟩ = some (.string s) := hb.cell 1
 have d2 : W.cell? ⟨w.heap.size, 2, none⟩ = some (.int .i64 n) := hb.cell 2
 have d3 : W.cell? ⟨w.heap.size, 3, none⟩ = some (.int .i64 v) := hb.cell 3
 have d4 : W.cell? ⟨w.heap.size, 4, none⟩ = some (.int .i64 a) := hb.cell 4
 clear hx hb
 go_region_law ((refine step_append_src (P := Tryz.prog) rfl _ _ 22 rfl 25 i0 _ 5 48 Tryz.underlying22 hi0 hz0 hz1 hz2 rfl (by omega) (.slice A m.out.length c) rfl _ _ _ rfl m.out.length (flat insCells m.out) (own_ext H.out.own (HX.out.drew.alloc _)) (insCells ⟨o, s, n, v, a⟩) (Src.new _ #[.int .i64 o, .string s, .int .i64 n, .int .i64 v, .int .i64 a] _ 1 5 rfl) (insCells_one _) (by unfold maxLen; omega) (by omega) ?_; intro v3 w3 ho3 hm3 hb3; obtain ⟨A3, c3, rfl⟩ := own_value ho3; have H3 := Lib.hid ((H.out.ext (HX.out.drew.alloc _)).put1 ho3 hm3 hb3); have hB3 := (H.out.ext (HX.out.drew.alloc _)).blk.mods hm3 (fun e => H.out.np (mem_ownL2 e)); have k3 : w3.cell? ⟨f.mb, 7, none⟩ = some (.slice A m.out.length c) := hB3.cell 7; have f3 := hB3.frozen 7; clear ho3 hm3 hb3 hB3))
 all_goals
  go_wp2_with fail
  go_end0
  exact ⟨rfl, _, H3.out.1, (PStep.ext (HX.out.drew.alloc _)).trans H3.out.2⟩
set_option maxRecDepth 100000 in
set_option maxHeartbeats 1000000 in
theorem mFull {f : MF} {w : World} {m : Mk} {nv : Value} (h : MkAt f w m nv) :
  Calls Tryz.prog 46 #[.pointer (some ⟨f.mb, 0, none⟩)] w fun e w' => e = .returned (.bool m.full) ∧ w' = w := by
 obtain ⟨A, c, rfl⟩ := own_value h.own
 have k4 := h.cells.c4
 have k7 := h.cells.c7
 have q : m.full = (decide (255 < m.next) || decide (4096 < m.out.length)) := rfl
 rw [q]
 clear h q
 generalize m.out.length = L at *
 by_cases h1 : 255 < m.next
 ·have e1 : decide (m.next > 255) = true := decide_eq_true h1
  rw [decide_eq_true h1, Bool.true_or]
  go_enter Tryz.func46, Tryz.ntmps46
  go_wp2_with fail
  go_ret
  exact ⟨rfl, rfl⟩
 ·have e1 : decide (m.next > 255) = false := decide_eq_false h1
  rw [decide_eq_false h1, Bool.false_or]
  go_enter Tryz.func46, Tryz.ntmps46
  go_wp2_with fail
  go_ret
  refine ⟨?_, rfl⟩
  congr 2
  simp
  omega
set_option maxRecDepth 100000 in
set_option maxHeartbeats 1000000 in
theorem mTake {f : MF} {w : World} {m : Mk} {nv : Value} (h : MkAt f w m nv) (hr : Rm m 1) :
  Calls Tryz.prog 133 #[.pointer (some ⟨f.mb, 0, none⟩)] w fun e w' => e = .returned (.int .i64 (m.next + 1)) ∧ MkAt f w' m.take nv ∧ PStep f.S nv w nv w' := by
 have hbd := hr.1
 have hbd2 := hr.2.1
 have k4 := h.cells.c4
 have f4 := h.blk.frozen 4
 have H := Lib.hid h
 clear h hr
 go_enter Tryz.func133, Tryz.ntmps133
 go_wp2_with fail
 go_ret
 have h2 := H.out.setN (m.next + 1)
 refine ⟨by go_num, ?_⟩
 have e : (m.next + 1 : Int) = m.next + 1 := rfl
 exact h2
theorem zeroI (W : World) : (zeroValue 3).run Tryz.prog W = .ok (.int .i64 0) W := by kernel_rfl
def pickR (S : List Int) (m : Mk) (n o1 o2 : Int) : Value := .tuple #[.int .i64 (if (m.pick S n).2.1 then o1 else o2), .int .i64 (m.pick S n).1]
set_option maxRecDepth 100000 in
set_option maxHeartbeats 4000000 in
theorem mPick (n o1 o2 : Int) {f : MF} {w : World} {m : Mk} {nv : Value} (h : MkAt f w m nv) (hr : Rm m 1) :
  Calls Tryz.prog 131 #[.pointer (some ⟨f.mb, 0, none⟩), .int .i64 n, .int .i64 o1, .int .i64 o2] w fun e w' => e = .returned (pickR f.p.slots m n o1 o2) ∧ MkTo f w nv (m.pick f.p.slots n).2.2 w' := by
 have k6 := h.cells.c6
 have k5 := h.cells.c5
 have H := Lib.hid h
 have hf := rg_find n m.regs
 obtain ⟨ps, hps, hsl⟩ := h.slots
 have hs := hsl n
 cases hfr : findR n m.regs with
 | some v =>
  have hp : m.pick f.p.slots n = (v, false, m) := by unfold Mk.pick; rw [hfr]
  unfold pickR
  rw [hp]
  simp only
  rw [hfr] at hf
  have HF := Lib.hid hf
  have HM := Lib.hid h.regs
  clear h hr hf hps hsl hs hp hfr k5
  go_enter Tryz.func131, Tryz.ntmps131
  go_wp2_with (at_lookup; refine wpList_lookup_at (P := Tryz.prog) _ rfl _ _ true rfl (intKind .i64) Tryz.underlying87 Tryz.underlying3 f.rm rfl n rfl _ zeroI _ HM.out ?_; rw [HF.out]; simp only [if_true, Option.map_some, Option.getD_some, Option.isSome_some])
  refine bodyPost_ret (v := (.tuple #[.int .i64 o2, .int .i64 v])) (by simp [results, Tryz.results131, go_sem]) rfl ⟨rfl, nv, H.out, .refl _ _ _⟩
 | none =>
  rw [hfr] at hf
  have HF := Lib.hid hf
  have HM := Lib.hid h.regs
  have HPS := Lib.hid hps
  cases hsn : slotN f.p.slots n with
  | some v =>
   have hp : m.pick f.p.slots n = (v, true, { m with regs := m.regs ++ [(n, v)] }) := by unfold Mk.pick; rw [hfr, hsn]
   unfold pickR
   rw [hp]
   simp only
   rw [hsn] at hs
   have HS := Lib.hid hs
   have HFR := Lib.hid hfr
   clear h hr hf hps hsl hs hp hsn hfr
   go_enter Tryz.func131, Tryz.ntmps131
   go_upto_region 2 with (at_lookup; refine wpList_lookup_at (P := Tryz.prog) _ rfl _ _ true rfl (intKind .i64) Tryz.underlying87 Tryz.underlying3 f.rm rfl n rfl _ zeroI _ HM.out ?_; rw [HF.out]; simp only [if_true, Option.map_none, Option.getD_none, Option.isSome_none])
   go_wp2_with (first | (at_lookup; refine wpList_lookup_at (P := Tryz.prog) _ rfl _ _ true rfl (intKind .i64) Tryz.underlying87 Tryz.underlying3 f.sm rfl n rfl _ zeroI _ HPS.out ?_; rw [HS.out]; simp only [if_true, Option.map_some, Option.getD_some, Option.isSome_some]) | (at_mapUpdate; refine wpList_mapUpdate_at (P := Tryz.prog) _ rfl _ _ _ 87 rfl (intKind .i64) Tryz.underlying87 Tryz.underlying3 (m := f.rm) (ps := rgP m.regs) rfl HM.out n (.int .i64 v) rfl rfl ?_; intro w5 hm5 hd5 hs5; have H5 := Lib.hid (H.out.reg HFR.out hm5 hd5); clear hm5 hd5 hs5))
   refine bodyPost_ret (v := (.tuple #[.int .i64 o1, .int .i64 v])) (by simp [results, Tryz.results131, go_sem]) rfl ⟨rfl, nv, H5.out.1, H5.out.2⟩
  | none =>
   have hp : m.pick f.p.slots n = (m.next + 1, true, { m.take with regs := m.regs ++ [(n, m.next + 1)] }) := by unfold Mk.pick; rw [hfr, hsn]
   unfold pickR
   rw [hp]
   simp only
   rw [hsn] at hs
   have HS := Lib.hid hs
   have HFR := Lib.hid hfr
   have HT := Lib.hid (mTake h hr)
   clear h hr hf hps hsl hs hp hsn hfr
   go_enter Tryz.func131, Tryz.ntmps131
   go_upto_region 2 with (at_lookup; refine wpList_lookup_at (P := Tryz.prog) _ rfl _ _ true rfl (intKind .i64) Tryz.underlying87 Tryz.underlying3 f.rm rfl n rfl _ zeroI _ HM.out ?_; rw [HF.out]; simp only [if_true, Option.map_none, Option.getD_none, Option.isSome_none])
   go_upto_region 5 with (at_lookup; refine wpList_lookup_at (P := Tryz.prog) _ rfl _ _ true rfl (intKind .i64) Tryz.underlying87 Tryz.underlying3 f.sm rfl n rfl _ zeroI _ HPS.out ?_; rw [HS.out]; simp only [if_true, Option.map_none, Option.getD_none, Option.isSome_none])
   go_upto_region 7 with (go_at_call 133; refine HT.out.mono ?_; rintro e W2 ⟨rfl, h2, s2⟩; have H2 := Lib.hid h2; have S2 := Lib.hid s2; have k6 := h2.cells.c6; clear h2 s2)
   go_wp2_with (at_mapUpdate; refine wpList_mapUpdate_at (P := Tryz.prog) _ rfl _ _ _ 87 rfl (intKind .i64) Tryz.underlying87 Tryz.underlying3 (m := f.rm) (ps := rgP m.regs) rfl H2.out.regs n (.int .i64 (m.next + 1)) rfl rfl ?_; intro w5 hm5 hd5 hs5; have H5 := Lib.hid (H2.out.reg (show findR n m.take.regs = none from HFR.out) hm5 hd5); clear hm5 hd5 hs5)
   refine bodyPost_ret (v := (.tuple #[.int .i64 o1, .int .i64 (m.next + 1)])) (by simp [results, Tryz.results131, go_sem]) rfl ⟨rfl, nv, H5.out.1, S2.out.trans H5.out.2⟩
end Go.Proofs.YtmnnhdegoapfcaaGreatDoor
