/- Layer 17, the program: the walk of call. -/
import Derived.Test.YtmnnhdegoapfcaaGreatDoorQ17
import Derived.Test.YtmnnhdegoapfcaaGreatDoorQ14
import Derived.Test.YtmnnhdegoapfcaaGreatDoorQ01
import Derived.Test.YtmnnhdegoapfcaaGreatDoorQ13
import Derived.Deep.RegionLaw
import Derived.Great.Walk
import Derived.Laws.OwnMore
import Derived.OwnWalk
import Derived.BigQuiet
namespace Go.Proofs.YtmnnhdegoapfcaaGreatDoor
open Go.RowKit Go.El
set_option maxRecDepth 100000 in
set_option maxHeartbeats 1000000 in
theorem mCall (g : Int × Tm) (At : Option Addr) (ct : Nat) (live : Int) {f : MF} {w : World} {m : Mk} {nv : Value} (h : MkAt f w m nv) (hr : Rm m (4 * szT g.2 + 4)) (ht : TmIn (Clr2 f.S nv w) w g.2 At ct) (hlv : 0 ≤ f.p.level ∧ f.p.level ≤ 1000) :
  Calls Tryz.prog 88 #[.pointer (some ⟨f.mb, 0, none⟩), goalV g At ct, .int .i64 live] w fun e w' => e = .returned (.tuple #[]) ∧ MkTo f w nv (callF f.p m g live) w' := by
 obtain ⟨k, t⟩ := g
 simp only at hr ht
 have HS := Lib.hid (ArgAt.start h k t At ct ht)
 have hba := bd_args f.p m (k, t)
 have hbl := bd_leave f.p (argsF f.p m (k, t))
 simp only at hba hbl
 have HRA := Lib.hid (show Rm (argsF f.p m (k, t)) 2 from ⟨by have := hba.lo; have := hr.1; omega, by have := hba.hi; have := hr.2.1; have := szT_pos t; omega, by have := hba.oh; have := hr.2.2; have := szT_pos t; omega⟩)
 have HRL := Lib.hid (show Rm (leaveF f.p (argsF f.p m (k, t))) 1 from HRA.out.go (a := 0) (b := 1) (k := 1) hbl)
 have HAR := fun W (h : MkAt f W m nv) (ht : TmIn (Clr2 f.S nv W) W t At ct) => Lib.hid (mArgs (k, t) At ct h hr ht hlv)
 unfold goalV at *
 simp only at HAR ⊢
 clear h hr ht hba hbl
 unfold callF
 simp only
 by_cases hl : 0 ≤ live
 ·have ql : decide (live ≥ 0) = true := decide_eq_true hl
  rw [if_pos hl]
  by_cases h1 : k = 1
  ·subst h1
   simp only [if_true]
   go_enter Tryz.func88, Tryz.ntmps88
   go_upto_region 1 with fail
   generalize w.alloc (.cells #[.int .i64 1, .int .i64 t.k, .int .i64 t.n, .string t.s, .slice At t.l.length ct] 42) = V at HS ⊢
   have c0 : V.cell? ⟨w.heap.size, 0, none⟩ = some (.int .i64 1) := HS.out.gb.cell 0
   have c1 : V.cell? ⟨w.heap.size, 1, none⟩ = some (.int .i64 t.k) := HS.out.gb.cell 1
   have c2 : V.cell? ⟨w.heap.size, 2, none⟩ = some (.int .i64 t.n) := HS.out.gb.cell 2
   have c3 : V.cell? ⟨w.heap.size, 3, none⟩ = some (.string t.s) := HS.out.gb.cell 3
   have c4 : V.cell? ⟨w.heap.size, 4, none⟩ = some (.slice At t.l.length ct) := HS.out.gb.cell 4
   have HC := HAR V HS.out.at_ HS.out.tm
   go_upto_region 2 with (go_at_call 134; refine HC.out.mono ?_; rintro e W1 ⟨rfl, n1, h1, s1⟩; have P1 := Lib.hid (HS.out.go h1 s1); clear h1 s1)
   have d0 : W1.cell? ⟨w.heap.size, 0, none⟩ = some (.int .i64 1) := P1.out.gb.cell 0
   have d3 : W1.cell? ⟨w.heap.size, 3, none⟩ = some (.string t.s) := P1.out.gb.cell 3
   have d4 : W1.cell? ⟨w.heap.size, 4, none⟩ = some (.slice At t.l.length ct) := P1.out.gb.cell 4
   have HA := Lib.hid (mAdd ⟨21, t.s, t.l.length, 0, live⟩ P1.out.at_ (HRA.out.mono (by omega)))
   unfold insV at HA
   go_wp2_with (go_at_call 43; refine HA.out.mono ?_; rintro e W6 ⟨rfl, n6, h6, s6⟩; have P6 := Lib.hid (P1.out.go h6 s6); clear h6 s6)
   go_end0
   exact ⟨rfl, n6, P6.out.at_, P6.out.st⟩
  ·have q1 : (k == 1) = false := by simpa using h1
   rw [if_neg h1]
   go_enter Tryz.func88, Tryz.ntmps88
   go_upto_region 1 with fail
   generalize w.alloc (.cells #[.int .i64 k, .int .i64 t.k, .int .i64 t.n, .string t.s, .slice At t.l.length ct] 42) = V at HS ⊢
   have c0 : V.cell? ⟨w.heap.size, 0, none⟩ = some (.int .i64 k) := HS.out.gb.cell 0
   have c1 : V.cell? ⟨w.heap.size, 1, none⟩ = some (.int .i64 t.k) := HS.out.gb.cell 1
   have c2 : V.cell? ⟨w.heap.size, 2, none⟩ = some (.int .i64 t.n) := HS.out.gb.cell 2
   have c3 : V.cell? ⟨w.heap.size, 3, none⟩ = some (.string t.s) := HS.out.gb.cell 3
   have c4 : V.cell? ⟨w.heap.size, 4, none⟩ = some (.slice At t.l.length ct) := HS.out.gb.cell 4
   have HC := HAR V HS.out.at_ HS.out.tm
   go_upto_region 2 with (go_at_call 134; refine HC.out.mono ?_; rintro e W1 ⟨rfl, n1, h1, s1⟩; have P1 := Lib.hid (HS.out.go h1 s1); clear h1 s1)
   have d0 : W1.cell? ⟨w.heap.size, 0, none⟩ = some (.int .i64 k) := P1.out.gb.cell 0
   have d3 : W1.cell? ⟨w.heap.size, 3, none⟩ = some (.string t.s) := P1.out.gb.cell 3
   have d4 : W1.cell? ⟨w.heap.size, 4, none⟩ = some (.slice At t.l.length ct) := P1.out.gb.cell 4
   have HA := Lib.hid (mAdd ⟨23, ⟨#[]⟩, 0, 0, live⟩ P1.out.at_ (HRA.out.mono (by omega)))
   unfold insV at HA
   go_wp2_with (go_at_call 43; refine HA.out.mono ?_; rintro e W6 ⟨rfl, n6, h6, s6⟩; have P6 := Lib.hid (P1.out.go h6 s6); clear h6 s6)
   go_end0
   exact ⟨rfl, n6, P6.out.at_, P6.out.st⟩
 ·have ql : decide (live ≥ 0) = false := decide_eq_false hl
  rw [if_neg hl]
  by_cases h1 : k = 1
  ·subst h1
   simp only [if_true]
   go_enter Tryz.func88, Tryz.ntmps88
   go_upto_region 1 with fail
   generalize w.alloc (.cells #[.int .i64 1, .int .i64 t.k, .int .i64 t.n, .string t.s, .slice At t.l.length ct] 42) = V at HS ⊢
   have c0 : V.cell? ⟨w.heap.size, 0, none⟩ = some (.int .i64 1) := HS.out.gb.cell 0
   have c1 : V.cell? ⟨w.heap.size, 1, none⟩ = some (.int .i64 t.k) := HS.out.gb.cell 1
   have c2 : V.cell? ⟨w.heap.size, 2, none⟩ = some (.int .i64 t.n) := HS.out.gb.cell 2
   have c3 : V.cell? ⟨w.heap.size, 3, none⟩ = some (.string t.s) := HS.out.gb.cell 3
   have c4 : V.cell? ⟨w.heap.size, 4, none⟩ = some (.slice At t.l.length ct) := HS.out.gb.cell 4
   have HC := HAR V HS.out.at_ HS.out.tm
   go_upto_region 2 with (go_at_call 134; refine HC.out.mono ?_; rintro e W1 ⟨rfl, n1, h1, s1⟩; have P1 := Lib.hid (HS.out.go h1 s1); clear h1 s1)
   have d0 : W1.cell? ⟨w.heap.size, 0, none⟩ = some (.int .i64 1) := P1.out.gb.cell 0
   have d3 : W1.cell? ⟨w.heap.size, 3, none⟩ = some (.string t.s) := P1.out.gb.cell 3
   have d4 : W1.cell? ⟨w.heap.size, 4, none⟩ = some (.slice At t.l.length ct) := P1.out.gb.cell 4
   have HL := Lib.hid (mLeave P1.out.at_ (HRA.out.mono (by omega)))
   go_upto_region 11 with (go_at_call 89; refine HL.out.mono ?_; rintro e W2 ⟨rfl, n2, h2, s2⟩; have P2 := Lib.hid (P1.out.go h2 s2); clear h2 s2)
   have e3 : W2.cell? ⟨w.heap.size, 3, none⟩ = some (.string t.s) := P2.out.gb.cell 3
   have e4 : W2.cell? ⟨w.heap.size, 4, none⟩ = some (.slice At t.l.length ct) := P2.out.gb.cell 4
   have HA := Lib.hid (mAdd ⟨22, t.s, t.l.length, 0, 0⟩ P2.out.at_ HRL.out)
   unfold insV at HA
   go_wp2_with (go_at_call 43; refine HA.out.mono ?_; rintro e W6 ⟨rfl, n6, h6, s6⟩; have P6 := Lib.hid (P2.out.go h6 s6); clear h6 s6)
   go_end0
   exact ⟨rfl, n6, P6.out.at_, P6.out.st⟩
  ·have q1 : (k == 1) = false := by simpa using h1
   rw [if_neg h1]
   go_enter Tryz.func88, Tryz.ntmps88
   go_upto_region 1 with fail
   generalize w.alloc (.cells #[.int .i64 k, .int .i64 t.k, .int .i64 t.n, .string t.s, .slice At t.l.length ct] 42) = V at HS ⊢
   have c0 : V.cell? ⟨w.heap.size, 0, none⟩ = some (.int .i64 k) := HS.out.gb.cell 0
   have c1 : V.cell? ⟨w.heap.size, 1, none⟩ = some (.int .i64 t.k) := HS.out.gb.cell 1
   have c2 : V.cell? ⟨w.heap.size, 2, none⟩ = some (.int .i64 t.n) := HS.out.gb.cell 2
   have c3 : V.cell? ⟨w.heap.size, 3, none⟩ = some (.string t.s) := HS.out.gb.cell 3
   have c4 : V.cell? ⟨w.heap.size, 4, none⟩ = some (.slice At t.l.length ct) := HS.out.gb.cell 4
   have HC := HAR V HS.out.at_ HS.out.tm
   go_upto_region 2 with (go_at_call 134; refine HC.out.mono ?_; rintro e W1 ⟨rfl, n1, h1, s1⟩; have P1 := Lib.hid (HS.out.go h1 s1); clear h1 s1)
   have d0 : W1.cell? ⟨w.heap.size, 0, none⟩ = some (.int .i64 k) := P1.out.gb.cell 0
   have d3 : W1.cell? ⟨w.heap.size, 3, none⟩ = some (.string t.s) := P1.out.gb.cell 3
   have d4 : W1.cell? ⟨w.heap.size, 4, none⟩ = some (.slice At t.l.length ct) := P1.out.gb.cell 4
   have HL := Lib.hid (mLeave P1.out.at_ (HRA.out.mono (by omega)))
   go_upto_region 4 with (go_at_call 89; refine HL.out.mono ?_; rintro e W2 ⟨rfl, n2, h2, s2⟩; have P2 := Lib.hid (P1.out.go h2 s2); clear h2 s2)
   have e3 : W2.cell? ⟨w.heap.size, 3, none⟩ = some (.string t.s) := P2.out.gb.cell 3
   have e4 : W2.cell? ⟨w.heap.size, 4, none⟩ = some (.slice At t.l.length ct) := P2.out.gb.cell 4
   have HA := Lib.hid (mAdd ⟨24, ⟨#[]⟩, 0, 0, 0⟩ P2.out.at_ HRL.out)
   unfold insV at HA
   go_wp2_with (go_at_call 43; refine HA.out.mono ?_; rintro e W6 ⟨rfl, n6, h6, s6⟩; have P6 := Lib.hid (P2.out.go h6 s6); clear h6 s6)
   go_end0
   exact ⟨rfl, n6, P6.out.at_, P6.out.st⟩
end Go.Proofs.YtmnnhdegoapfcaaGreatDoor

/- Layer 15, plain: what a plan's slots are. No program in sight. -/
namespace Go.El
theorem ins_mem {x y : Spn} : ∀ {l : List Spn}, y ∈ spIns x l ↔ y = x ∨ y ∈ l
 | [] => by simp [spIns]
 | z :: l => by
  simp only [spIns]
  split
  ·rw [List.mem_cons, ins_mem (l := l), List.mem_cons]
   constructor
   ·rintro (h | h | h)
    ·exact .inr (.inl h)
    ·exact .inl h
    ·exact .inr (.inr h)
   ·rintro (h | h | h)
    ·exact .inr (.inl h)
    ·exact .inl h
    ·exact .inr (.inr h)
  ·simp
end Go.El

/- Layer 17, plain: any clause's code is right, of the head's arity. No program in sight. -/
namespace Go.El
def cnt (gs : List (Int × Tm)) : Nat := (gs.filter fun g => decide (g.1 ≠ 2)).length
theorem gath_cnt : ∀ (gs : List (Int × Tm)) (L : List Spn) (k : Nat), (gs.foldl gathG (L, k)).2 = k + cnt gs
 | [], L, k => rfl
 | g :: r, L, k => by
  rw [List.foldl_cons]
  by_cases hg : g.1 = 2
  ·have : ∃ L1, gathG (L, k) g = (L1, k) := ⟨_, by unfold gathG; simp only; rw [if_pos hg]⟩
   obtain ⟨L1, h1⟩ := this
   rw [h1, gath_cnt r]
   simp [cnt, hg]
  ·have : ∃ L1, gathG (L, k) g = (L1, k + 1) := ⟨_, by unfold gathG; simp only; rw [if_neg hg]⟩
   obtain ⟨L1, h1⟩ := this
   rw [h1, gath_cnt r]
   simp [cnt, hg]
   omega
end Go.El

/- Layer 17, plain: any clause's code is right: its goals, and all of it. No program in sight. -/
namespace Go.El
variable {c : Cls}
theorem cnt_cons (g : Int × Tm) (r : List (Int × Tm)) : cnt (g :: r) = (if g.1 = 2 then 0 else 1) + cnt r := by
 unfold cnt
 by_cases h : g.1 = 2
 ·simp [h]
 ·simp [h]
  omega
end Go.El

/- Layer 17, the program: the walk of goals. -/
namespace Go.El
open Go.RowKit
structure GoP (p : PlanV) (m0 : Mk) (gs0 : List (Int × Tm)) (k : Nat) (last : Bool) (m : Mk) (gs : List (Int × Tm)) : Prop where
 same : goalsF p gs0 0 false m0 = goalsF p gs k last m
 lo : m0.next ≤ m.next
 hn : m.next + szG gs ≤ m0.next + szG gs0
 ho : m.out.length + 5 * szG gs ≤ m0.out.length + 5 * szG gs0
 lv : k + cnt gs ≤ p.live.length
theorem GoP.start {p : PlanV} {m : Mk} {gs : List (Int × Tm)} (h : cnt gs ≤ p.live.length) : GoP p m gs 0 false m gs :=
 ⟨rfl, Int.le_refl _, Int.le_refl _, Nat.le_refl _, by omega⟩
theorem GoP.call {p : PlanV} {m0 m : Mk} {gs0 r : List (Int × Tm)} {k : Nat} {last : Bool} {g : Int × Tm} (h : GoP p m0 gs0 k last m (g :: r)) (hg : g.1 ≠ 2) : GoP p m0 gs0 (k + 1) r.isEmpty (callF p m g (if r.isEmpty then -1 else p.live.getD k 0)) r ∧ k < p.live.length := by
 obtain ⟨h0, h1, h2, h3, h4⟩ := h
 have hb := bd_call p m g (if r.isEmpty then -1 else p.live.getD k 0)
 have b1 := hb.lo
 have b2 := hb.hi
 have b3 := hb.oh
 have hz := szT_pos g.2
 rw [cnt_cons, if_neg hg] at h4
 simp only [szG] at h2 h3
 refine ⟨⟨?_, by omega, by omega, by omega, by omega⟩, by omega⟩
 rw [h0]
 simp only [goalsF, if_pos hg]
theorem GoP.cut {p : PlanV} {m0 m : Mk} {gs0 r : List (Int × Tm)} {k : Nat} {last : Bool} {g : Int × Tm} (h : GoP p m0 gs0 k last m (g :: r)) (hg : g.1 = 2) : GoP p m0 gs0 k last (m.add (if k = 0 then ⟨28, ⟨#[]⟩, 0, 0, 0⟩ else ⟨29, ⟨#[]⟩, 0, -p.level, 0⟩)) r := by
 obtain ⟨h0, h1, h2, h3, h4⟩ := h
 have hz := szT_pos g.2
 rw [cnt_cons, if_pos hg] at h4
 simp only [szG] at h2 h3
 have e1 : ∀ i, (m.add i).out.length = m.out.length + 1 := fun i => by simp [Mk.add]
 refine ⟨?_, h1, by show m.next + _ ≤ _; omega, by rw [e1]; omega, by omega⟩
 rw [h0]
 simp only [goalsF, if_neg (show ¬ g.1 ≠ 2 by simp [hg])]
 split <;> rfl
structure GoalsIn (D : Nat → Prop) (w : World) (gs : List (Int × Tm)) (A : Option Addr) (c : Nat) : Prop where
 le : gs.length ≤ c
 at_ : ∀ (j : Nat) (k : Int) (t : Tm), gs[j]? = some (k, t) → ∃ b off A' c', A = some ⟨b, off, none⟩ ∧ D b ∧ TmIn D w t A' c' ∧ w.cell? ⟨b, off + j * 5, none⟩ = some (.int .i64 k) ∧ w.cell? ⟨b, off + j * 5 + 1, none⟩ = some (.int .i64 t.k) ∧ w.cell? ⟨b, off + j * 5 + 2, none⟩ = some (.int .i64 t.n) ∧ w.cell? ⟨b, off + j * 5 + 3, none⟩ = some (.string t.s) ∧ w.cell? ⟨b, off + j * 5 + 4, none⟩ = some (.slice A' t.l.length c')
theorem GoalsIn.mods {D D' : Nat → Prop} {S : List Nat} {w w' : World} {gs : List (Int × Tm)} {A : Option Addr} {c : Nat} (h : GoalsIn D w gs A c) (hm : Mods S w w') (hS : ∀ k, D k → k ∉ S) (hD : ∀ k, D k → D' k) : GoalsIn D' w' gs A c := by
 refine ⟨h.le, fun j k t hj => ?_⟩
 obtain ⟨b, off, A', c', h1, h2, h3, q0, q1, q2, q3, q4⟩ := h.at_ j k t hj
 exact ⟨b, off, A', c', h1, hD b h2, TmIn.mods hm hS hD h3, hm.cell q0 (hS b h2), hm.cell q1 (hS b h2), hm.cell q2 (hS b h2), hm.cell q3 (hS b h2), hm.cell q4 (hS b h2)⟩
theorem GoalsIn.ext {D : Nat → Prop} {w w' : World} {gs : List (Int × Tm)} {A : Option Addr} {c : Nat} (h : GoalsIn D w gs A c) (x : Ext w w') : GoalsIn D w' gs A c := h.mods (S := []) (Mods.ext x) (fun _ _ => by simp) (fun _ h => h)
theorem PStep.goals {S : List Nat} {nv nv' : Value} {w w' : World} (s : PStep S nv w nv' w') {gs : List (Int × Tm)} {A : Option Addr} {c : Nat} (h : GoalsIn (Clr2 S nv w) w gs A c) : GoalsIn (Clr2 S nv' w') w' gs A c := h.mods s.mods (fun _ hk => hk.no) (fun _ hk => s.clr hk)
end Go.El
namespace Go.Proofs.YtmnnhdegoapfcaaGreatDoor
open Go.RowKit Go.El
structure GosAt (f : MF) (w : World) (nv0 : Value) (gs : List (Int × Tm)) (A : Option Addr) (c : Nat) (wr : World) (m : Mk) (nv : Value) : Prop where
 at_ : MkAt f wr m nv
 st : PStep f.S nv0 w nv wr
 gs : GoalsIn (Clr2 f.S nv wr) wr gs A c
theorem GosAt.go {f : MF} {w : World} {nv0 : Value} {gs : List (Int × Tm)} {A : Option Addr} {c : Nat} {wr w' : World} {m m' : Mk} {nv nv' : Value} (h : GosAt f w nv0 gs A c wr m nv) (hm : MkAt f w' m' nv') (s : PStep f.S nv wr nv' w') : GosAt f w nv0 gs A c w' m' nv' :=
 ⟨hm, h.st.trans s, s.goals h.gs⟩
theorem GosAt.ext {f : MF} {w : World} {nv0 : Value} {gs : List (Int × Tm)} {A : Option Addr} {c : Nat} {wr w' : World} {m : Mk} {nv : Value} (h : GosAt f w nv0 gs A c wr m nv) (x : Ext wr w') : GosAt f w nv0 gs A c w' m nv :=
 h.go (h.at_.ext x) (PStep.ext x)
set_option maxRecDepth 100000 in
set_option maxHeartbeats 8000000 in
theorem mGoals (gs : List (Int × Tm)) (A : Option Addr) (c : Nat) {f : MF} {w : World} {m : Mk} {nv : Value} (h : MkAt f w m nv) (hr : Rm m (5 * szG gs + 10)) (hg : GoalsIn (Clr2 f.S nv w) w gs A c) (hlv : 0 ≤ f.p.level ∧ f.p.level ≤ 1000) (hcnt : cnt gs ≤ f.p.live.length) (hlen : gs.length ≤ 1000000000) :
  Calls Tryz.prog 45 #[.pointer (some ⟨f.mb, 0, none⟩), .slice A gs.length c] w fun e w' => e = .returned (.tuple #[]) ∧ MkTo f w nv (goalsF f.p gs 0 false m) w' := by
 have HP0 : Hid (GosAt f w nv gs A c w m nv) := Lib.hid ⟨h, .refl _ _ _, hg⟩
 have HR := Lib.hid hr
 have HL := Lib.hid hlv
 have HC := Lib.hid hcnt
 clear h hr hg hlv hcnt
 go_enter Tryz.func45, Tryz.ntmps45
 go_upto_region 2 with fail
 go_loopw [4, 5, 11] (fun cv lv iv wr => ∃ (j k : Nat) (last : Bool) (mj : Mk) (nj : Value), j ≤ gs.length ∧ iv = .int .i64 j ∧ cv = .int .i64 k ∧ lv = .bool last ∧ k ≤ j ∧ Hid (GosAt f w nv gs A c wr mj nj) ∧ Hid (GoP f.p m gs k last mj (gs.drop j))) (fun _ _ iv _ => gs.length - (intOf iv).toNat)
 case atStart => exact ⟨0, 0, false, m, nv, Nat.zero_le _, rfl, rfl, rfl, Nat.le_refl _, HP0, Lib.hid (GoP.start HC.out)⟩
 case round =>
  clear HP0
  obtain ⟨j, k, last, mj, nj, hj, rfl, rfl, rfl, hkj, HP, HG⟩ := hrel
  by_cases hlt : j < gs.length
  ·obtain ⟨g, r, hd⟩ : ∃ g r, gs.drop j = g :: r := by
    cases hq : gs.drop j with
    | nil =>
     have := congrArg List.length hq
     simp at this
     omega
    | cons g r => exact ⟨g, r, rfl⟩
   have ho : gs[j]? = some g := by
    have := congrArg (fun l => l[0]?) hd
    simpa using this
   have hd1 : gs.drop (j + 1) = r := by
    have := congrArg List.tail hd
    simpa using this
   have hrl : r.length = gs.length - (j + 1) := by rw [← hd1]; simp
   obtain ⟨kg, t⟩ := g
   have HD1 := Lib.hid hd1
   rw [hd] at HG
   obtain ⟨bb, off, A', c', rfl, _, hu, q0, q1, q2, q3, q4⟩ := HP.out.gs.at_ j kg t ho
   have g1 := HG.out.lo
   have g2 := HG.out.hn
   have g3 := HG.out.ho
   simp only [szG] at g2 g3
   have hz := szT_pos t
   have r1 := HR.out.1
   have r2 := HR.out.2.1
   have r3 := HR.out.2.2
   have RM := Lib.hid (show Rm mj (4 * szT t + 4) from ⟨by omega, by omega, by omega⟩)
   clear g1 g2 g3 r1 r2 r3 ho hd hd1
   go_upto_region 5 with fail
   refine wp_abs (fun W => Hid (Ext wr W) ∧ Hid (Blk W wr.heap.size 42 #[.int .i64 kg, .int .i64 t.k, .int .i64 t.n, .string t.s, .slice A' t.l.length c'])) ⟨ext_box _ _, Blk.new _ _ _⟩ ?_
   rintro W ⟨HE, HU⟩
   have PW := Lib.hid (HP.out.ext HE.out)
   have x0 : W.cell? ⟨wr.heap.size, 0, none⟩ = some (.int .i64 kg) := HU.out.cell 0
   have x1 : W.cell? ⟨wr.heap.size, 1, none⟩ = some (.int .i64 t.k) := HU.out.cell 1
   have x2 : W.cell? ⟨wr.heap.size, 2, none⟩ = some (.int .i64 t.n) := HU.out.cell 2
   have x3 : W.cell? ⟨wr.heap.size, 3, none⟩ = some (.string t.s) := HU.out.cell 3
   have x4 : W.cell? ⟨wr.heap.size, 4, none⟩ = some (.slice A' t.l.length c') := HU.out.cell 4
   have HT := Lib.hid ((PStep.ext (S := f.S) (nv := nj) HE.out).tm hu)
   clear q0 q1 q2 q3 q4 hu HE HU HP
   generalize wr.heap.size = bx at *
   by_cases hk : kg = 2
   ·have HC2 := Lib.hid (HG.out.cut hk)
    subst hk
    by_cases hk0 : k = 0
    ·subst hk0
     simp only [if_true] at HC2
     have HA := Lib.hid (mAdd ⟨28, ⟨#[]⟩, 0, 0, 0⟩ PW.out.at_ (RM.out.mono (by omega)))
     unfold insV at HA
     go_wp2_with (go_at_call 43; refine HA.out.mono ?_; rintro e W6 ⟨rfl, n6, h6, s6⟩; have P6 := Lib.hid (PW.out.go h6 s6); clear h6 s6)
     go_roundw
     case rel => exact ⟨j + 1, 0, last, _, n6, hlt, by go_num, rfl, rfl, by omega, P6, by rw [HD1.out]; exact HC2⟩
     case measure => simp [intOf]; omega
    ·have qk : ((k : Int) == 0) = false := by simpa using hk0
     rw [if_neg hk0] at HC2
     have l2 := PW.out.at_.cells.c2
     have hl1 := HL.out.1
     have hl2 := HL.out.2
     have HA := Lib.hid (mAdd ⟨29, ⟨#[]⟩, 0, -f.p.level, 0⟩ PW.out.at_ (RM.out.mono (by omega)))
     unfold insV at HA
     go_wp2_with (go_at_call 43; refine HA.out.mono ?_; rintro e W6 ⟨rfl, n6, h6, s6⟩; have P6 := Lib.hid (PW.out.go h6 s6); clear h6 s6)
     go_roundw
     case rel => exact ⟨j + 1, k, last, _, n6, hlt, by go_num, rfl, rfl, by omega, P6, by rw [HD1.out]; exact HC2⟩
     case measure => simp [intOf]; omega
   ·obtain ⟨hgc, hkl⟩ := HG.out.call hk
    obtain ⟨lk, hlk⟩ : ∃ lk, lk = f.p.live.getD k 0 := ⟨_, rfl⟩
    rw [← hlk] at hgc
    have HGC := Lib.hid hgc
    have qk : (kg == 2) = false := by simpa using hk
    have l3 := PW.out.at_.cells.c3
    obtain ⟨lb, lo, hL, hlc⟩ := El.Src.form PW.out.at_.live (by omega) (by omega)
    rw [hL] at l3
    have y0 : W.cell? ⟨lb, lo + k, none⟩ = some (.int .i64 lk) := hlc k _ (by rw [hlk, List.getElem?_map, List.getElem?_eq_getElem hkl]; simp [hkl])
    clear hlc hL hgc hlk
    cases r with
    | nil =>
     simp only [List.length_nil] at hrl
     have qe : ((j : Int) == (gs.length : Int) - 1) = true := by rw [beq_iff_eq]; omega
     have HC := Lib.hid (mCall (kg, t) A' c' (-1) PW.out.at_ RM.out HT.out HL.out)
     unfold goalV at HC
     simp only at HC
     simp only [List.isEmpty_nil, if_true] at HGC
     clear HG hrl
     go_wp2_with (go_at_call 88; refine HC.out.mono ?_; rintro e W6 ⟨rfl, n6, h6, s6⟩; have P6 := Lib.hid (PW.out.go h6 s6); clear h6 s6)
     go_roundw
     case rel => exact ⟨j + 1, k + 1, true, _, n6, hlt, by go_num, by go_num, rfl, by omega, P6, by rw [HD1.out]; exact HGC⟩
     case measure => simp [intOf]; omega
    | cons g2 r =>
     simp only [List.length_cons] at hrl
     have qe : ((j : Int) == (gs.length : Int) - 1) = false := by rw [beq_eq_false_iff_ne]; omega
     have HC := Lib.hid (mCall (kg, t) A' c' lk PW.out.at_ RM.out HT.out HL.out)
     unfold goalV at HC
     simp only at HC
     simp only [List.isEmpty_cons, Bool.false_eq_true, if_false] at HGC
     clear HG hrl
     go_wp2_with (go_at_call 88; refine HC.out.mono ?_; rintro e W6 ⟨rfl, n6, h6, s6⟩; have P6 := Lib.hid (PW.out.go h6 s6); clear h6 s6)
     go_roundw
     case rel => exact ⟨j + 1, k + 1, false, _, n6, hlt, by go_num, by go_num, rfl, by omega, P6, by rw [HD1.out]; exact HGC⟩
     case measure => simp [intOf]; omega
  ·obtain rfl : j = gs.length := by omega
   rw [List.drop_length] at HG
   have g1 := HG.out.lo
   have g2 := HG.out.hn
   have g3 := HG.out.ho
   have r1 := HR.out.1
   have r2 := HR.out.2.1
   have r3 := HR.out.2.2
   simp only [szG] at g2 g3
   have RM := Lib.hid (show Rm mj 2 from ⟨by omega, by omega, by omega⟩)
   have HGS := Lib.hid HG.out.same
   clear g1 g2 g3 r1 r2 r3 HG
   simp only [goalsF] at HGS
   cases last with
   | true =>
    simp only [if_true] at HGS
    go_wp2_with fail
    go_end0
    exact ⟨rfl, nj, by rw [HGS.out]; exact HP.out.at_, HP.out.st⟩
   | false =>
    simp only [Bool.false_eq_true, if_false] at HGS
    have HL1 := Lib.hid (mLeave HP.out.at_ (RM.out.mono (by omega)))
    have hbl := bd_leave f.p mj
    have RML := Lib.hid (show Rm (leaveF f.p mj) 1 from ⟨by have := hbl.lo; have := RM.out.1; omega, by have := hbl.hi; have := RM.out.2.1; omega, by have := hbl.oh; have := RM.out.2.2; omega⟩)
    clear hbl
    go_upto_region 17 with (go_at_call 89; refine HL1.out.mono ?_; rintro e W2 ⟨rfl, n2, h2, s2⟩; have P2 := Lib.hid (HP.out.go h2 s2); clear h2 s2)
    have HA := Lib.hid (mAdd ⟨25, ⟨#[]⟩, 0, 0, 0⟩ P2.out.at_ RML.out)
    unfold insV at HA
    go_wp2_with (go_at_call 43; refine HA.out.mono ?_; rintro e W6 ⟨rfl, n6, h6, s6⟩; have P6 := Lib.hid (P2.out.go h6 s6); clear h6 s6)
    go_end0
    exact ⟨rfl, n6, by rw [HGS.out]; exact P6.out.at_, P6.out.st⟩
end Go.Proofs.YtmnnhdegoapfcaaGreatDoor

/- Layer 14, the reference: the walks of goal, Body. -/
namespace Go.El
end Go.El
namespace Go.Proofs.YtmnnhdegoapfcaaGreatDoor
open Go.RowKit Go.El
def goC (p : TmP) : List Value := [.int .i64 (goalK p.1), .int .i64 p.1.k, .int .i64 p.1.n, .string p.1.s, .slice p.2.1 p.1.l.length p.2.2]
theorem goals_done {wr : World} {A : Option Addr} {c : Nat} {M : List TmP} {D : Nat → Prop} (own : wr.ownsRow 0 42 5 (.slice A M.length c) M.length (flat goC M)) (kid : ∀ p ∈ M, TmIn D wr p.1 p.2.1 p.2.2) (hD : ∀ b, (Value.slice A M.length c).ownBlock = some b → D b) : GoalsIn D wr (M.map fun p => (goalK p.1, p.1)) A c := by
 refine ⟨by rw [List.length_map]; exact own_cap own, fun j k t hj => ?_⟩
 rw [List.getElem?_map] at hj
 obtain ⟨p, hp, he⟩ := Option.map_eq_some_iff.1 hj
 injection he with h1 h2
 subst h1
 subst h2
 have hlt : j < M.length := (List.getElem?_eq_some_iff.1 hp).1
 obtain ⟨b, off, rfl, hc⟩ := El.Src.form (El.Src.of_own own) (by omega) (by omega)
 have hlen : ∀ x : TmP, (goC x).length = 5 := fun _ => rfl
 exact ⟨b, off, p.2.1, p.2.2, rfl, hD b rfl, kid p (List.mem_of_getElem? hp), hc (j * 5) _ (flat_at hlen M j 0 p hp (by omega)), hc (j * 5 + 1) _ (flat_at hlen M j 1 p hp (by omega)), hc (j * 5 + 2) _ (flat_at hlen M j 2 p hp (by omega)), hc (j * 5 + 3) _ (flat_at hlen M j 3 p hp (by omega)), hc (j * 5 + 4) _ (flat_at hlen M j 4 p hp (by omega))⟩
end Go.Proofs.YtmnnhdegoapfcaaGreatDoor

/- Taken out of other seats' texts by extract.py: refRename_any, nu_rn. -/
namespace Go.Proofs.YtmnnhdegoapfcaaGreatDoor
open Go.RowKit Go.El
end Go.Proofs.YtmnnhdegoapfcaaGreatDoor
namespace Go.El
def iV (n : Int) : Value := .int .i64 n
end Go.El
namespace Go.Proofs.YtmnnhdegoapfcaaGreatDoor
open Go.RowKit Go.El
theorem src_int {w : World} {A : Option Addr} {L : List Int} (h : El.Src w A L.length 1 (L.map iV)) {k : Nat} (hk : k < L.length) : ∃ b off, A = some ⟨b, off, none⟩ ∧ w.cell? ⟨b, off + k, none⟩ = some (.int .i64 L[k]) := by
 obtain ⟨b, off, rfl, hc⟩ := El.Src.form h (by omega) (by omega)
 exact ⟨b, off, rfl, hc k _ (by simp [hk, iV])⟩
end Go.Proofs.YtmnnhdegoapfcaaGreatDoor
namespace Go.El
end Go.El
namespace Go.Proofs.YtmnnhdegoapfcaaGreatDoor
open Go.RowKit Go.El
end Go.Proofs.YtmnnhdegoapfcaaGreatDoor
