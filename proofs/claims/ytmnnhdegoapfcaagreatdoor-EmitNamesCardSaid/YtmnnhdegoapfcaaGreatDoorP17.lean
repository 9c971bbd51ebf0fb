/- Layer 17, the program: the walk of call. -/
import Derived.Test.YtmnnhdegoapfcaaGreatDoorP16
import Derived.Test.YtmnnhdegoapfcaaGreatDoorP01
namespace Go.Proofs.YtmnnhdegoapfcaaGreatDoor
open Go.RowKit Go.El
set_option maxRecDepth 100000 in
set_option maxHeartbeats 1000000 in
theorem mCall (g : Int × Tm) (At : Option Addr) (ct : Nat) (live : Int) {f : MF} {w : World} {m : Mk} {nv : Value} (h : MkAt f w m nv) (hr : Rm m (4 * szT g.2 + 4)) (ht : TmIn (Clr2 f.S nv w) w g.2 At ct) (hlv : 0 ≤ f.p.level ∧ f.p.level ≤ 1000) :
  Calls Tryz.prog 88 #[.pointer (some ⟨f.mb, 0, none⟩), goalV g At ct, .int .i64 live] w fun e w' => e = .returned (.tuple #[]) ∧ MkTo f w nv (callF f.p m g live) w' := by
 obtain ⟨k, t⟩ := g
 simp only at hr ht
 have HS := Lib.hid (ArgAt.start h k t At ct ht)
 have hba := bd_args f.p m (k, t)
 have hbl := bd_leave f.p (argsF f.p m (k, t))
 simp only at hba hbl
 have HRA := Lib.hid (show Rm (argsF f.p m (k, t)) 2 from ⟨by have := hba.lo; have := hr.1; omega, by have := hba.hi; have := hr.2.1; have := szT_pos t; omega, by have := hba.oh; have := hr.2.2; have := szT_pos t; omega⟩)
 have HRL := Lib.hid (show Rm (leaveF f.p (argsF f.p m (k, t))) 1 from HRA.out.go (a := 0) (b := 1) (k := 1) hbl)
 have HAR := fun W (h : MkAt f W m nv) (ht : TmIn (Clr2 f.S nv W) W t At ct) => Lib.hid (mArgs (k, t) At ct h hr ht hlv)
 unfold goalV at *
 simp only at HAR ⊢
 clear h hr ht hba hbl
 unfold callF
 simp only
 by_cases hl : 0 ≤ live
 ·have ql : decide (live ≥ 0) = true := decide_eq_true hl
  rw [if_pos hl]
  by_cases h1 : k = 1
  ·subst h1
   simp only [if_true]
   go_enter Tryz.func88, Tryz.ntmps88
   go_upto_region 1 with fail
   generalize w.alloc (.cells #[.int .i64 1, .int .i64 t.k, .int .i64 t.n, .string t.s, .slice At t.l.length ct] 42) = V at HS ⊢
   have c0 : V.cell? ⟨w.heap.size, 0, none⟩ = some (.int .i64 1) := HS.out.gb.cell 0
   have c1 : V.cell? ⟨w.heap.size, 1, none⟩ = some (.int .i64 t.k) := HS.out.gb.cell 1
   have c2 : V.cell? ⟨w.heap.size, 2, none⟩ = some (.int .i64 t.n) := HS.out.gb.cell 2
   have c3 : V.cell? ⟨w.heap.size, 3, none⟩ = some (.string t.s) := HS.out.gb.cell 3
   have c4 : V.cell? ⟨w.heap.size, 4, none⟩ = some (.slice At t.l.length ct) := HS.out.gb.cell 4
   have HC := HAR V HS.out.at_ HS.out.tm
   go_upto_region 2 with (go_at_call 134; refine HC.out.mono ?_; rintro e W1 ⟨rfl, n1, h1, s1⟩; have P1 := Lib.hid (HS.out.go h1 s1); clear h1 s1)
   have d0 : W1.cell? ⟨w.heap.size, 0, none⟩ = some (.int .i64 1) := P1.out.gb.cell 0
   have d3 : W1.cell? ⟨w.heap.size, 3, none⟩ = some (.string t.s) := P1.out.gb.cell 3
   have d4 : W1.cell? ⟨w.heap.size, 4, none⟩ = some (.slice At t.l.length ct) := P1.out.gb.cell 4
   have HA := Lib.hid (mAdd ⟨21, t.s, t.l.length, 0, live⟩ P1.out.at_ (HRA.out.mono (by omega)))
   unfold insV at HA
   go_wp2_with (go_at_call 43; refine HA.out.mono ?_; rintro e W6 ⟨rfl, n6, h6, s6⟩; have P6 := Lib.hid (P1.out.go h6 s6); clear h6 s6)
   go_end0
   exact ⟨rfl, n6, P6.out.at_, P6.out.st⟩
  ·have q1 : (k == 1) = false := by simpa using h1
   rw [if_neg h1]
   go_enter Tryz.func88, Tryz.ntmps88
   go_upto_region 1 with fail
   generalize w.alloc (.cells #[.int .i64 k, .int .i64 t.k, .int .i64 t.n, .string t.s, .slice At t.l.length ct] 42) = V at HS ⊢
   have c0 : V.cell? ⟨w.heap.size, 0, none⟩ = some (.int .i64 k) := HS.out.gb.cell 0
   have c1 : V.cell? ⟨w.heap.size, 1, none⟩ = some (.int .i64 t.k) := HS.out.gb.cell 1
   have c2 : V.cell? ⟨w.heap.size, 2, none⟩ = some (.int .i64 t.n) := HS.out.gb.cell 2
   have c3 : V.cell? ⟨w.heap.size, 3, none⟩ = some (.string t.s) := HS.out.gb.cell 3
   have c4 : V.cell? ⟨w.heap.size, 4, none⟩ = some (.slice At t.l.length ct) := HS.out.gb.cell 4
   have HC := HAR V HS.out.at_ HS.out.tm
   go_upto_region 2 with (go_at_call 134; refine HC.out.mono ?_; rintro e W1 ⟨rfl, n1, h1, s1⟩; have P1 := Lib.hid (HS.out.go h1 s1); clear h1 s1)
   have d0 : W1.cell? ⟨w.heap.size, 0, none⟩ = some (.int .i64 k) := P1.out.gb.cell 0
   have d3 : W1.cell? ⟨w.heap.size, 3, none⟩ = some (.string t.s) := P1.out.gb.cell 3
   have d4 : W1.cell? ⟨w.heap.size, 4, none⟩ = some (.slice At t.l.length ct) := P1.out.gb.cell 4
   have HA := Lib.hid (mAdd ⟨23, ⟨#[]⟩, 0, 0, live⟩ P1.out.at_ (HRA.out.mono (by omega)))
   unfold insV at HA
   go_wp2_with (go_at_call 43; refine HA.out.mono ?_; rintro e W6 ⟨rfl, n6, h6, s6⟩; have P6 := Lib.hid (P1.out.go h6 s6); clear h6 s6)
   go_end0
   exact ⟨rfl, n6, P6.out.at_, P6.out.st⟩
 ·have ql : decide (live ≥ 0) = false := decide_eq_false hl
  rw [if_neg hl]
  by_cases h1 : k = 1
  ·subst h1
   simp only [if_true]
   go_enter Tryz.func88, Tryz.ntmps88
   go_upto_region 1 with fail
   generalize w.alloc (.cells #[.int .i64 1, .int .i64 t.k, .int .i64 t.n, .string t.s, .slice At t.l.length ct] 42) = V at HS ⊢
   have c0 : V.cell? ⟨w.heap.size, 0, none⟩ = some (.int .i64 1) := HS.out.gb.cell 0
   have c1 : V.cell? ⟨w.heap.size, 1, none⟩ = some (.int .i64 t.k) := HS.out.gb.cell 1
   have c2 : V.cell? ⟨w.heap.size, 2, none⟩ = some (.int .i64 t.n) := HS.out.gb.cell 2
   have c3 : V.cell? ⟨w.heap.size, 3, none⟩ = some (.string t.s) := HS.out.gb.cell 3
   have c4 : V.cell? ⟨w.heap.size, 4, none⟩ = some (.slice At t.l.length ct) := HS.out.gb.cell 4
   have HC := HAR V HS.out.at_ HS.out.tm
   go_upto_region 2 with (go_at_call 134; refine HC.out.mono ?_; rintro e W1 ⟨rfl, n1, h1, s1⟩; have P1 := Lib.hid (HS.out.go h1 s1); clear h1 s1)
   have d0 : W1.cell? ⟨w.heap.size, 0, none⟩ = some (.int .i64 1) := P1.out.gb.cell 0
   have d3 : W1.cell? ⟨w.heap.size, 3, none⟩ = some (.string t.s) := P1.out.gb.cell 3
   have d4 : W1.cell? ⟨w.heap.size, 4, none⟩ = some (.slice At t.l.length ct) := P1.out.gb.cell 4
   have HL := Lib.hid (mLeave P1.out.at_ (HRA.out.mono (by omega)))
   go_upto_region 11 with (go_at_call 89; refine HL.out.mono ?_; rintro e W2 ⟨rfl, n2, h2, s2⟩; have P2 := Lib.hid (P1.out.go h2 s2); clear h2 s2)
   have e3 : W2.cell? ⟨w.heap.size, 3, none⟩ = some (.string t.s) := P2.out.gb.cell 3
   have e4 : W2.cell? ⟨w.heap.size, 4, none⟩ = some (.slice At t.l.length ct) := P2.out.gb.cell 4
   have HA := Lib.hid (mAdd ⟨22, t.s, t.l.length, 0, 0⟩ P2.out.at_ HRL.out)
   unfold insV at HA
   go_wp2_with (go_at_call 43; refine HA.out.mono ?_; rintro e W6 ⟨rfl, n6, h6, s6⟩; have P6 := Lib.hid (P2.out.go h6 s6); clear h6 s6)
   go_end0
   exact ⟨rfl, n6, P6.out.at_, P6.out.st⟩
  ·have q1 : (k == 1) = false := by simpa using h1
   rw [if_neg h1]
   go_enter Tryz.func88, Tryz.ntmps88
   go_upto_region 1 with fail
   generalize w.alloc (.cells #[.int .i64 k, .int .i64 t.k, .int .i64 t.n, .string t.s, .slice At t.l.length ct] 42) = V at HS ⊢
   have c0 : V.cell? ⟨w.heap.size, 0, none⟩ = some (.int .i64 k) := HS.out.gb.cell 0
   have c1 : V.cell? ⟨w.heap.size, 1, none⟩ = some (.int .i64 t.k) := HS.out.gb.cell 1
   have c2 : V.cell? ⟨w.heap.size, 2, none⟩ = some (.int .i64 t.n) := HS.out.gb.cell 2
   have c3 : V.cell? ⟨w.heap.size, 3, none⟩ = some (.string t.s) := HS.out.gb.cell 3
   have c4 : V.cell? ⟨w.heap.size, 4, none⟩ = some (.slice At t.l.length ct) := HS.out.gb.cell 4
   have HC := HAR V HS.out.at_ HS.out.tm
   go_upto_region 2 with (go_at_call 134; refine HC.out.mono ?_; rintro e W1 ⟨rfl, n1, h1, s1⟩; have P1 := Lib.hid (HS.out.go h1 s1); clear h1 s1)
   have d0 : W1.cell? ⟨w.heap.size, 0, none⟩ = some (.int .i64 k) := P1.out.gb.cell 0
   have d3 : W1.cell? ⟨w.heap.size, 3, none⟩ = some (.string t.s) := P1.out.gb.cell 3
   have d4 : W1.cell? ⟨w.heap.size, 4, none⟩ = some (.slice At t.l.length ct) := P1.out.gb.cell 4
   have HL := Lib.hid (mLeave P1.out.at_ (HRA.out.mono (by omega)))
   go_upto_region 4 with (go_at_call 89; refine HL.out.mono ?_; rintro e W2 ⟨rfl, n2, h2, s2⟩; have P2 := Lib.hid (P1.out.go h2 s2); clear h2 s2)
   have e3 : W2.cell? ⟨w.heap.size, 3, none⟩ = some (.string t.s) := P2.out.gb.cell 3
   have e4 : W2.cell? ⟨w.heap.size, 4, none⟩ = some (.slice At t.l.length ct) := P2.out.gb.cell 4
   have HA := Lib.hid (mAdd ⟨24, ⟨#[]⟩, 0, 0, 0⟩ P2.out.at_ HRL.out)
   unfold insV at HA
   go_wp2_with (go_at_call 43; refine HA.out.mono ?_; rintro e W6 ⟨rfl, n6, h6, s6⟩; have P6 := Lib.hid (P2.out.go h6 s6); clear h6 s6)
   go_end0
   exact ⟨rfl, n6, P6.out.at_, P6.out.st⟩
end Go.Proofs.YtmnnhdegoapfcaaGreatDoor

/- Layer 16, plain: which instructions may be (printed by gen/e4.py). No program in sight. -/
namespace Go.El
theorem may_1 {v a : Int} (hv : -64 ≤ v ∧ v ≤ 255 ∧ v ≠ 0) (ha : 1 ≤ a ∧ a ≤ 255) : insMay ⟨1, ⟨#[]⟩, 0, v, a⟩ = true := by
 have f0 : ¬ (nameF 1 = [] ∨ 64 < (⟨#[]⟩ : ByteArray).size) := by
  rintro (h | h)
  ·exact absurd h (by decide)
  ·exact absurd h (by decide)
 have g1 : hasF 1 1 = true := by decide
 have g2 : hasF 1 2 = true := by decide
 have g4 : hasF 1 4 = false := by decide
 have g16 : hasF 1 16 = false := by decide
 have g32 : hasF 1 32 = false := by decide
 have g64 : hasF 1 64 = false := by decide
 have g128 : hasF 1 128 = false := by decide
 have g104 : hasF 1 104 = false := by decide
 unfold insMay
 rw [if_neg f0]
 simp [withinF, numberF, g1, g4, g104, g2, g32, g64, g128, g16, hv.1, hv.2.1, hv.2.2, ha.1, ha.2, show (ByteArray.mk #[]).size = 0 from rfl]
theorem may_2 {v a : Int} (hv : -64 ≤ v ∧ v ≤ 255 ∧ v ≠ 0) (ha : 1 ≤ a ∧ a ≤ 255) : insMay ⟨2, ⟨#[]⟩, 0, v, a⟩ = true := by
 have f0 : ¬ (nameF 2 = [] ∨ 64 < (⟨#[]⟩ : ByteArray).size) := by
  rintro (h | h)
  ·exact absurd h (by decide)
  ·exact absurd h (by decide)
 have g1 : hasF 2 1 = true := by decide
 have g2 : hasF 2 2 = true := by decide
 have g4 : hasF 2 4 = false := by decide
 have g16 : hasF 2 16 = false := by decide
 have g32 : hasF 2 32 = false := by decide
 have g64 : hasF 2 64 = false := by decide
 have g128 : hasF 2 128 = false := by decide
 have g104 : hasF 2 104 = false := by decide
 unfold insMay
 rw [if_neg f0]
 simp [withinF, numberF, g1, g4, g104, g2, g32, g64, g128, g16, hv.1, hv.2.1, hv.2.2, ha.1, ha.2, show (ByteArray.mk #[]).size = 0 from rfl]
theorem may_3 {s : ByteArray} {a : Int} (ha : 1 ≤ a ∧ a ≤ 255) (hs : s.size ≤ 64) : insMay ⟨3, s, 0, 0, a⟩ = true := by
 have f0 : ¬ (nameF 3 = [] ∨ 64 < (s : ByteArray).size) := by
  rintro (h | h)
  ·exact absurd h (by decide)
  ·omega
 have g1 : hasF 3 1 = false := by decide
 have g2 : hasF 3 2 = true := by decide
 have g4 : hasF 3 4 = false := by decide
 have g16 : hasF 3 16 = false := by decide
 have g32 : hasF 3 32 = false := by decide
 have g64 : hasF 3 64 = false := by decide
 have g128 : hasF 3 128 = false := by decide
 have g104 : hasF 3 104 = true := by decide
 unfold insMay
 rw [if_neg f0]
 simp [withinF, numberF, g1, g4, g104, g2, g32, g64, g128, g16, ha.1, ha.2]
theorem may_4 {a n : Int} (ha : 1 ≤ a ∧ a ≤ 255) (hn : -9007199254740991 ≤ n ∧ n ≤ 9007199254740991) : insMay ⟨4, ⟨#[]⟩, n, 0, a⟩ = true := by
 have f0 : ¬ (nameF 4 = [] ∨ 64 < (⟨#[]⟩ : ByteArray).size) := by
  rintro (h | h)
  ·exact absurd h (by decide)
  ·exact absurd h (by decide)
 have g1 : hasF 4 1 = false := by decide
 have g2 : hasF 4 2 = true := by decide
 have g4 : hasF 4 4 = false := by decide
 have g16 : hasF 4 16 = true := by decide
 have g32 : hasF 4 32 = false := by decide
 have g64 : hasF 4 64 = false := by decide
 have g128 : hasF 4 128 = false := by decide
 have g104 : hasF 4 104 = false := by decide
 unfold insMay
 rw [if_neg f0]
 simp [withinF, numberF, g1, g4, g104, g2, g32, g64, g128, g16, ha.1, ha.2, hn.1, hn.2, show (ByteArray.mk #[]).size = 0 from rfl]
theorem may_5 {s : ByteArray} {a n : Int} (ha : 1 ≤ a ∧ a ≤ 255) (hs : s.size ≤ 64) (hn : 1 ≤ n ∧ n ≤ 16) : insMay ⟨5, s, n, 0, a⟩ = true := by
 have f0 : ¬ (nameF 5 = [] ∨ 64 < (s : ByteArray).size) := by
  rintro (h | h)
  ·exact absurd h (by decide)
  ·omega
 have g1 : hasF 5 1 = false := by decide
 have g2 : hasF 5 2 = true := by decide
 have g4 : hasF 5 4 = false := by decide
 have g16 : hasF 5 16 = false := by decide
 have g32 : hasF 5 32 = true := by decide
 have g64 : hasF 5 64 = false := by decide
 have g128 : hasF 5 128 = false := by decide
 have g104 : hasF 5 104 = true := by decide
 unfold insMay
 rw [if_neg f0]
 simp [withinF, numberF, g1, g4, g104, g2, g32, ha.1, ha.2, hn.1, hn.2]
theorem may_6 {v : Int} (hv : -64 ≤ v ∧ v ≤ 255 ∧ v ≠ 0) : insMay ⟨6, ⟨#[]⟩, 0, v, 0⟩ = true := by
 have f0 : ¬ (nameF 6 = [] ∨ 64 < (⟨#[]⟩ : ByteArray).size) := by
  rintro (h | h)
  ·exact absurd h (by decide)
  ·exact absurd h (by decide)
 have g1 : hasF 6 1 = true := by decide
 have g2 : hasF 6 2 = false := by decide
 have g4 : hasF 6 4 = false := by decide
 have g16 : hasF 6 16 = false := by decide
 have g32 : hasF 6 32 = false := by decide
 have g64 : hasF 6 64 = false := by decide
 have g128 : hasF 6 128 = false := by decide
 have g104 : hasF 6 104 = false := by decide
 unfold insMay
 rw [if_neg f0]
 simp [withinF, numberF, g1, g4, g104, g2, g32, g64, g128, g16, hv.1, hv.2.1, hv.2.2, show (ByteArray.mk #[]).size = 0 from rfl]
theorem may_7 {v : Int} (hv : -64 ≤ v ∧ v ≤ 255 ∧ v ≠ 0) : insMay ⟨7, ⟨#[]⟩, 0, v, 0⟩ = true := by
 have f0 : ¬ (nameF 7 = [] ∨ 64 < (⟨#[]⟩ : ByteArray).size) := by
  rintro (h | h)
  ·exact absurd h (by decide)
  ·exact absurd h (by decide)
 have g1 : hasF 7 1 = true := by decide
 have g2 : hasF 7 2 = false := by decide
 have g4 : hasF 7 4 = false := by decide
 have g16 : hasF 7 16 = false := by decide
 have g32 : hasF 7 32 = false := by decide
 have g64 : hasF 7 64 = false := by decide
 have g128 : hasF 7 128 = false := by decide
 have g104 : hasF 7 104 = false := by decide
 unfold insMay
 rw [if_neg f0]
 simp [withinF, numberF, g1, g4, g104, g2, g32, g64, g128, g16, hv.1, hv.2.1, hv.2.2, show (ByteArray.mk #[]).size = 0 from rfl]
theorem may_8 {s : ByteArray} (hs : s.size ≤ 64) : insMay ⟨8, s, 0, 0, 0⟩ = true := by
 have f0 : ¬ (nameF 8 = [] ∨ 64 < (s : ByteArray).size) := by
  rintro (h | h)
  ·exact absurd h (by decide)
  ·omega
 have g1 : hasF 8 1 = false := by decide
 have g2 : hasF 8 2 = false := by decide
 have g4 : hasF 8 4 = false := by decide
 have g16 : hasF 8 16 = false := by decide
 have g32 : hasF 8 32 = false := by decide
 have g64 : hasF 8 64 = false := by decide
 have g128 : hasF 8 128 = false := by decide
 have g104 : hasF 8 104 = true := by decide
 unfold insMay
 rw [if_neg f0]
 simp [withinF, numberF, g1, g4, g104, g2, g32, g64, g128, g16]
theorem may_9 {n : Int} (hn : -9007199254740991 ≤ n ∧ n ≤ 9007199254740991) : insMay ⟨9, ⟨#[]⟩, n, 0, 0⟩ = true := by
 have f0 : ¬ (nameF 9 = [] ∨ 64 < (⟨#[]⟩ : ByteArray).size) := by
  rintro (h | h)
  ·exact absurd h (by decide)
  ·exact absurd h (by decide)
 have g1 : hasF 9 1 = false := by decide
 have g2 : hasF 9 2 = false := by decide
 have g4 : hasF 9 4 = false := by decide
 have g16 : hasF 9 16 = true := by decide
 have g32 : hasF 9 32 = false := by decide
 have g64 : hasF 9 64 = false := by decide
 have g128 : hasF 9 128 = false := by decide
 have g104 : hasF 9 104 = false := by decide
 unfold insMay
 rw [if_neg f0]
 simp [withinF, numberF, g1, g4, g104, g2, g32, g64, g128, g16, hn.1, hn.2, show (ByteArray.mk #[]).size = 0 from rfl]
theorem may_10 {v a : Int} (hv : -64 ≤ v ∧ v ≤ 255 ∧ v ≠ 0) (ha : 1 ≤ a ∧ a ≤ 255) : insMay ⟨10, ⟨#[]⟩, 0, v, a⟩ = true := by
 have f0 : ¬ (nameF 10 = [] ∨ 64 < (⟨#[]⟩ : ByteArray).size) := by
  rintro (h | h)
  ·exact absurd h (by decide)
  ·exact absurd h (by decide)
 have g1 : hasF 10 1 = true := by decide
 have g2 : hasF 10 2 = true := by decide
 have g4 : hasF 10 4 = false := by decide
 have g16 : hasF 10 16 = false := by decide
 have g32 : hasF 10 32 = false := by decide
 have g64 : hasF 10 64 = false := by decide
 have g128 : hasF 10 128 = false := by decide
 have g104 : hasF 10 104 = false := by decide
 unfold insMay
 rw [if_neg f0]
 simp [withinF, numberF, g1, g4, g104, g2, g32, g64, g128, g16, hv.1, hv.2.1, hv.2.2, ha.1, ha.2, show (ByteArray.mk #[]).size = 0 from rfl]
theorem may_11 {v a : Int} (hv : -64 ≤ v ∧ v ≤ 255 ∧ v ≠ 0) (ha : 1 ≤ a ∧ a ≤ 255) : insMay ⟨11, ⟨#[]⟩, 0, v, a⟩ = true := by
 have f0 : ¬ (nameF 11 = [] ∨ 64 < (⟨#[]⟩ : ByteArray).size) := by
  rintro (h | h)
  ·exact absurd h (by decide)
  ·exact absurd h (by decide)
 have g1 : hasF 11 1 = true := by decide
 have g2 : hasF 11 2 = true := by decide
 have g4 : hasF 11 4 = false := by decide
 have g16 : hasF 11 16 = false := by decide
 have g32 : hasF 11 32 = false := by decide
 have g64 : hasF 11 64 = false := by decide
 have g128 : hasF 11 128 = false := by decide
 have g104 : hasF 11 104 = false := by decide
 unfold insMay
 rw [if_neg f0]
 simp [withinF, numberF, g1, g4, g104, g2, g32, g64, g128, g16, hv.1, hv.2.1, hv.2.2, ha.1, ha.2, show (ByteArray.mk #[]).size = 0 from rfl]
theorem may_12 {s : ByteArray} {a : Int} (ha : 1 ≤ a ∧ a ≤ 255) (hs : s.size ≤ 64) : insMay ⟨12, s, 0, 0, a⟩ = true := by
 have f0 : ¬ (nameF 12 = [] ∨ 64 < (s : ByteArray).size) := by
  rintro (h | h)
  ·exact absurd h (by decide)
  ·omega
 have g1 : hasF 12 1 = false := by decide
 have g2 : hasF 12 2 = true := by decide
 have g4 : hasF 12 4 = false := by decide
 have g16 : hasF 12 16 = false := by decide
 have g32 : hasF 12 32 = false := by decide
 have g64 : hasF 12 64 = false := by decide
 have g128 : hasF 12 128 = false := by decide
 have g104 : hasF 12 104 = true := by decide
 unfold insMay
 rw [if_neg f0]
 simp [withinF, numberF, g1, g4, g104, g2, g32, g64, g128, g16, ha.1, ha.2]
theorem may_13 {a n : Int} (ha : 1 ≤ a ∧ a ≤ 255) (hn : -9007199254740991 ≤ n ∧ n ≤ 9007199254740991) : insMay ⟨13, ⟨#[]⟩, n, 0, a⟩ = true := by
 have f0 : ¬ (nameF 13 = [] ∨ 64 < (⟨#[]⟩ : ByteArray).size) := by
  rintro (h | h)
  ·exact absurd h (by decide)
  ·exact absurd h (by decide)
 have g1 : hasF 13 1 = false := by decide
 have g2 : hasF 13 2 = true := by decide
 have g4 : hasF 13 4 = false := by decide
 have g16 : hasF 13 16 = true := by decide
 have g32 : hasF 13 32 = false := by decide
 have g64 : hasF 13 64 = false := by decide
 have g128 : hasF 13 128 = false := by decide
 have g104 : hasF 13 104 = false := by decide
 unfold insMay
 rw [if_neg f0]
 simp [withinF, numberF, g1, g4, g104, g2, g32, g64, g128, g16, ha.1, ha.2, hn.1, hn.2, show (ByteArray.mk #[]).size = 0 from rfl]
theorem may_14 {s : ByteArray} {a n : Int} (ha : 1 ≤ a ∧ a ≤ 255) (hs : s.size ≤ 64) (hn : 1 ≤ n ∧ n ≤ 16) : insMay ⟨14, s, n, 0, a⟩ = true := by
 have f0 : ¬ (nameF 14 = [] ∨ 64 < (s : ByteArray).size) := by
  rintro (h | h)
  ·exact absurd h (by decide)
  ·omega
 have g1 : hasF 14 1 = false := by decide
 have g2 : hasF 14 2 = true := by decide
 have g4 : hasF 14 4 = false := by decide
 have g16 : hasF 14 16 = false := by decide
 have g32 : hasF 14 32 = true := by decide
 have g64 : hasF 14 64 = false := by decide
 have g128 : hasF 14 128 = false := by decide
 have g104 : hasF 14 104 = true := by decide
 unfold insMay
 rw [if_neg f0]
 simp [withinF, numberF, g1, g4, g104, g2, g32, ha.1, ha.2, hn.1, hn.2]
theorem may_15 {v : Int} (hv : -64 ≤ v ∧ v ≤ 255 ∧ v ≠ 0) : insMay ⟨15, ⟨#[]⟩, 0, v, 0⟩ = true := by
 have f0 : ¬ (nameF 15 = [] ∨ 64 < (⟨#[]⟩ : ByteArray).size) := by
  rintro (h | h)
  ·exact absurd h (by decide)
  ·exact absurd h (by decide)
 have g1 : hasF 15 1 = true := by decide
 have g2 : hasF 15 2 = false := by decide
 have g4 : hasF 15 4 = false := by decide
 have g16 : hasF 15 16 = false := by decide
 have g32 : hasF 15 32 = false := by decide
 have g64 : hasF 15 64 = false := by decide
 have g128 : hasF 15 128 = false := by decide
 have g104 : hasF 15 104 = false := by decide
 unfold insMay
 rw [if_neg f0]
 simp [withinF, numberF, g1, g4, g104, g2, g32, g64, g128, g16, hv.1, hv.2.1, hv.2.2, show (ByteArray.mk #[]).size = 0 from rfl]
theorem may_16 {v : Int} (hv : -64 ≤ v ∧ v ≤ 255 ∧ v ≠ 0) : insMay ⟨16, ⟨#[]⟩, 0, v, 0⟩ = true := by
 have f0 : ¬ (nameF 16 = [] ∨ 64 < (⟨#[]⟩ : ByteArray).size) := by
  rintro (h | h)
  ·exact absurd h (by decide)
  ·exact absurd h (by decide)
 have g1 : hasF 16 1 = true := by decide
 have g2 : hasF 16 2 = false := by decide
 have g4 : hasF 16 4 = false := by decide
 have g16 : hasF 16 16 = false := by decide
 have g32 : hasF 16 32 = false := by decide
 have g64 : hasF 16 64 = false := by decide
 have g128 : hasF 16 128 = false := by decide
 have g104 : hasF 16 104 = false := by decide
 unfold insMay
 rw [if_neg f0]
 simp [withinF, numberF, g1, g4, g104, g2, g32, g64, g128, g16, hv.1, hv.2.1, hv.2.2, show (ByteArray.mk #[]).size = 0 from rfl]
theorem may_17 {s : ByteArray} (hs : s.size ≤ 64) : insMay ⟨17, s, 0, 0, 0⟩ = true := by
 have f0 : ¬ (nameF 17 = [] ∨ 64 < (s : ByteArray).size) := by
  rintro (h | h)
  ·exact absurd h (by decide)
  ·omega
 have g1 : hasF 17 1 = false := by decide
 have g2 : hasF 17 2 = false := by decide
 have g4 : hasF 17 4 = false := by decide
 have g16 : hasF 17 16 = false := by decide
 have g32 : hasF 17 32 = false := by decide
 have g64 : hasF 17 64 = false := by decide
 have g128 : hasF 17 128 = false := by decide
 have g104 : hasF 17 104 = true := by decide
 unfold insMay
 rw [if_neg f0]
 simp [withinF, numberF, g1, g4, g104, g2, g32, g64, g128, g16]
theorem may_18 {n : Int} (hn : -9007199254740991 ≤ n ∧ n ≤ 9007199254740991) : insMay ⟨18, ⟨#[]⟩, n, 0, 0⟩ = true := by
 have f0 : ¬ (nameF 18 = [] ∨ 64 < (⟨#[]⟩ : ByteArray).size) := by
  rintro (h | h)
  ·exact absurd h (by decide)
  ·exact absurd h (by decide)
 have g1 : hasF 18 1 = false := by decide
 have g2 : hasF 18 2 = false := by decide
 have g4 : hasF 18 4 = false := by decide
 have g16 : hasF 18 16 = true := by decide
 have g32 : hasF 18 32 = false := by decide
 have g64 : hasF 18 64 = false := by decide
 have g128 : hasF 18 128 = false := by decide
 have g104 : hasF 18 104 = false := by decide
 unfold insMay
 rw [if_neg f0]
 simp [withinF, numberF, g1, g4, g104, g2, g32, g64, g128, g16, hn.1, hn.2, show (ByteArray.mk #[]).size = 0 from rfl]
theorem may_19 {n : Int} (hn : 0 ≤ n ∧ n ≤ 64) : insMay ⟨19, ⟨#[]⟩, n, 0, 0⟩ = true := by
 have f0 : ¬ (nameF 19 = [] ∨ 64 < (⟨#[]⟩ : ByteArray).size) := by
  rintro (h | h)
  ·exact absurd h (by decide)
  ·exact absurd h (by decide)
 have g1 : hasF 19 1 = false := by decide
 have g2 : hasF 19 2 = false := by decide
 have g4 : hasF 19 4 = false := by decide
 have g16 : hasF 19 16 = false := by decide
 have g32 : hasF 19 32 = false := by decide
 have g64 : hasF 19 64 = false := by decide
 have g128 : hasF 19 128 = true := by decide
 have g104 : hasF 19 104 = false := by decide
 unfold insMay
 rw [if_neg f0]
 simp [withinF, numberF, g1, g4, g104, g2, g32, g64, g128, hn.1, hn.2, show (ByteArray.mk #[]).size = 0 from rfl]
theorem may_20  : insMay ⟨20, ⟨#[]⟩, 0, 0, 0⟩ = true := by
 have f0 : ¬ (nameF 20 = [] ∨ 64 < (⟨#[]⟩ : ByteArray).size) := by
  rintro (h | h)
  ·exact absurd h (by decide)
  ·exact absurd h (by decide)
 have g1 : hasF 20 1 = false := by decide
 have g2 : hasF 20 2 = false := by decide
 have g4 : hasF 20 4 = false := by decide
 have g16 : hasF 20 16 = false := by decide
 have g32 : hasF 20 32 = false := by decide
 have g64 : hasF 20 64 = false := by decide
 have g128 : hasF 20 128 = false := by decide
 have g104 : hasF 20 104 = false := by decide
 unfold insMay
 rw [if_neg f0]
 simp [withinF, numberF, g1, g4, g104, g2, g32, g64, g128, g16, show (ByteArray.mk #[]).size = 0 from rfl]
theorem may_21 {s : ByteArray} {a n : Int} (ha : 0 ≤ a ∧ a ≤ 64) (hs : s.size ≤ 64) (hn : 0 ≤ n ∧ n ≤ 16) : insMay ⟨21, s, n, 0, a⟩ = true := by
 have f0 : ¬ (nameF 21 = [] ∨ 64 < (s : ByteArray).size) := by
  rintro (h | h)
  ·exact absurd h (by decide)
  ·omega
 have g1 : hasF 21 1 = false := by decide
 have g2 : hasF 21 2 = false := by decide
 have g4 : hasF 21 4 = true := by decide
 have g16 : hasF 21 16 = false := by decide
 have g32 : hasF 21 32 = false := by decide
 have g64 : hasF 21 64 = true := by decide
 have g128 : hasF 21 128 = false := by decide
 have g104 : hasF 21 104 = true := by decide
 unfold insMay
 rw [if_neg f0]
 simp [withinF, numberF, g1, g4, g104, g32, g64, ha.1, ha.2, hn.1, hn.2]
theorem may_22 {s : ByteArray} {n : Int} (hs : s.size ≤ 64) (hn : 0 ≤ n ∧ n ≤ 16) : insMay ⟨22, s, n, 0, 0⟩ = true := by
 have f0 : ¬ (nameF 22 = [] ∨ 64 < (s : ByteArray).size) := by
  rintro (h | h)
  ·exact absurd h (by decide)
  ·omega
 have g1 : hasF 22 1 = false := by decide
 have g2 : hasF 22 2 = false := by decide
 have g4 : hasF 22 4 = false := by decide
 have g16 : hasF 22 16 = false := by decide
 have g32 : hasF 22 32 = false := by decide
 have g64 : hasF 22 64 = true := by decide
 have g128 : hasF 22 128 = false := by decide
 have g104 : hasF 22 104 = true := by decide
 unfold insMay
 rw [if_neg f0]
 simp [withinF, numberF, g1, g4, g104, g2, g32, g64, hn.1, hn.2]
theorem may_23 {a : Int} (ha : 0 ≤ a ∧ a ≤ 64) : insMay ⟨23, ⟨#[]⟩, 0, 0, a⟩ = true := by
 have f0 : ¬ (nameF 23 = [] ∨ 64 < (⟨#[]⟩ : ByteArray).size) := by
  rintro (h | h)
  ·exact absurd h (by decide)
  ·exact absurd h (by decide)
 have g1 : hasF 23 1 = false := by decide
 have g2 : hasF 23 2 = false := by decide
 have g4 : hasF 23 4 = true := by decide
 have g16 : hasF 23 16 = false := by decide
 have g32 : hasF 23 32 = false := by decide
 have g64 : hasF 23 64 = false := by decide
 have g128 : hasF 23 128 = false := by decide
 have g104 : hasF 23 104 = false := by decide
 unfold insMay
 rw [if_neg f0]
 simp [withinF, numberF, g1, g4, g104, g32, g64, g128, g16, ha.1, ha.2, show (ByteArray.mk #[]).size = 0 from rfl]
theorem may_24  : insMay ⟨24, ⟨#[]⟩, 0, 0, 0⟩ = true := by
 have f0 : ¬ (nameF 24 = [] ∨ 64 < (⟨#[]⟩ : ByteArray).size) := by
  rintro (h | h)
  ·exact absurd h (by decide)
  ·exact absurd h (by decide)
 have g1 : hasF 24 1 = false := by decide
 have g2 : hasF 24 2 = false := by decide
 have g4 : hasF 24 4 = false := by decide
 have g16 : hasF 24 16 = false := by decide
 have g32 : hasF 24 32 = false := by decide
 have g64 : hasF 24 64 = false := by decide
 have g128 : hasF 24 128 = false := by decide
 have g104 : hasF 24 104 = false := by decide
 unfold insMay
 rw [if_neg f0]
 simp [withinF, numberF, g1, g4, g104, g2, g32, g64, g128, g16, show (ByteArray.mk #[]).size = 0 from rfl]
theorem may_25  : insMay ⟨25, ⟨#[]⟩, 0, 0, 0⟩ = true := by
 have f0 : ¬ (nameF 25 = [] ∨ 64 < (⟨#[]⟩ : ByteArray).size) := by
  rintro (h | h)
  ·exact absurd h (by decide)
  ·exact absurd h (by decide)
 have g1 : hasF 25 1 = false := by decide
 have g2 : hasF 25 2 = false := by decide
 have g4 : hasF 25 4 = false := by decide
 have g16 : hasF 25 16 = false := by decide
 have g32 : hasF 25 32 = false := by decide
 have g64 : hasF 25 64 = false := by decide
 have g128 : hasF 25 128 = false := by decide
 have g104 : hasF 25 104 = false := by decide
 unfold insMay
 rw [if_neg f0]
 simp [withinF, numberF, g1, g4, g104, g2, g32, g64, g128, g16, show (ByteArray.mk #[]).size = 0 from rfl]
theorem may_26 {v : Int} (hv : -64 ≤ v ∧ v ≤ 255 ∧ v ≠ 0) : insMay ⟨26, ⟨#[]⟩, 0, v, 0⟩ = true := by
 have f0 : ¬ (nameF 26 = [] ∨ 64 < (⟨#[]⟩ : ByteArray).size) := by
  rintro (h | h)
  ·exact absurd h (by decide)
  ·exact absurd h (by decide)
 have g1 : hasF 26 1 = true := by decide
 have g2 : hasF 26 2 = false := by decide
 have g4 : hasF 26 4 = false := by decide
 have g16 : hasF 26 16 = false := by decide
 have g32 : hasF 26 32 = false := by decide
 have g64 : hasF 26 64 = false := by decide
 have g128 : hasF 26 128 = false := by decide
 have g104 : hasF 26 104 = false := by decide
 unfold insMay
 rw [if_neg f0]
 simp [withinF, numberF, g1, g4, g104, g2, g32, g64, g128, g16, hv.1, hv.2.1, hv.2.2, show (ByteArray.mk #[]).size = 0 from rfl]
theorem may_27 {v : Int} (hv : -64 ≤ v ∧ v ≤ 255 ∧ v ≠ 0) : insMay ⟨27, ⟨#[]⟩, 0, v, 0⟩ = true := by
 have f0 : ¬ (nameF 27 = [] ∨ 64 < (⟨#[]⟩ : ByteArray).size) := by
  rintro (h | h)
  ·exact absurd h (by decide)
  ·exact absurd h (by decide)
 have g1 : hasF 27 1 = true := by decide
 have g2 : hasF 27 2 = false := by decide
 have g4 : hasF 27 4 = false := by decide
 have g16 : hasF 27 16 = false := by decide
 have g32 : hasF 27 32 = false := by decide
 have g64 : hasF 27 64 = false := by decide
 have g128 : hasF 27 128 = false := by decide
 have g104 : hasF 27 104 = false := by decide
 unfold insMay
 rw [if_neg f0]
 simp [withinF, numberF, g1, g4, g104, g2, g32, g64, g128, g16, hv.1, hv.2.1, hv.2.2, show (ByteArray.mk #[]).size = 0 from rfl]
theorem may_28  : insMay ⟨28, ⟨#[]⟩, 0, 0, 0⟩ = true := by
 have f0 : ¬ (nameF 28 = [] ∨ 64 < (⟨#[]⟩ : ByteArray).size) := by
  rintro (h | h)
  ·exact absurd h (by decide)
  ·exact absurd h (by decide)
 have g1 : hasF 28 1 = false := by decide
 have g2 : hasF 28 2 = false := by decide
 have g4 : hasF 28 4 = false := by decide
 have g16 : hasF 28 16 = false := by decide
 have g32 : hasF 28 32 = false := by decide
 have g64 : hasF 28 64 = false := by decide
 have g128 : hasF 28 128 = false := by decide
 have g104 : hasF 28 104 = false := by decide
 unfold insMay
 rw [if_neg f0]
 simp [withinF, numberF, g1, g4, g104, g2, g32, g64, g128, g16, show (ByteArray.mk #[]).size = 0 from rfl]
theorem may_29 {v : Int} (hv : -64 ≤ v ∧ v ≤ 255 ∧ v ≠ 0) : insMay ⟨29, ⟨#[]⟩, 0, v, 0⟩ = true := by
 have f0 : ¬ (nameF 29 = [] ∨ 64 < (⟨#[]⟩ : ByteArray).size) := by
  rintro (h | h)
  ·exact absurd h (by decide)
  ·exact absurd h (by decide)
 have g1 : hasF 29 1 = true := by decide
 have g2 : hasF 29 2 = false := by decide
 have g4 : hasF 29 4 = false := by decide
 have g16 : hasF 29 16 = false := by decide
 have g32 : hasF 29 32 = false := by decide
 have g64 : hasF 29 64 = false := by decide
 have g128 : hasF 29 128 = false := by decide
 have g104 : hasF 29 104 = false := by decide
 unfold insMay
 rw [if_neg f0]
 simp [withinF, numberF, g1, g4, g104, g2, g32, g64, g128, g16, hv.1, hv.2.1, hv.2.2, show (ByteArray.mk #[]).size = 0 from rfl]
end Go.El
