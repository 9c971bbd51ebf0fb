/- Layer 10, the program: the walks of infix, name, begins, fail. -/
import Derived.Test.YtgcdhffeacdegaaGreatDoorH09
import Derived.Test.YtgcdhffeacdegaaGreatDoorH10
import Derived.Deep.RegionLaw
import Derived.Test.YtgcdhffeacdegaaGreatDoorH06
namespace Go.Proofs.YtgcdhffeacdegaaGreatDoor
open Go.RowKit Go.El
theorem blk_set3 {w : World} {g : Nat} {t : TypeId} {a b c : Value} (h : Blk w g t #[a, b, c]) (a' b' c' : Value) : Blk (((w.setCell ⟨g, 0, none⟩ a').setCell ⟨g, 1, none⟩ b').setCell ⟨g, 2, none⟩ c') g t #[a', b', c'] := ((h.set_ 0 a').set_ 1 b').set_ 2 c'
theorem ext_set3 {w w' : World} (h : Ext w w') {g : Nat} (hg : w.heap.size ≤ g) (a' b' c' : Value) : Ext w (((w'.setCell ⟨g, 0, none⟩ a').setCell ⟨g, 1, none⟩ b').setCell ⟨g, 2, none⟩ c') := ((h.setCell (p := ⟨g, 0, none⟩) hg a').setCell (p := ⟨g, 1, none⟩) hg b').setCell (p := ⟨g, 2, none⟩) hg c'
theorem blk_set4 {w : World} {g : Nat} {t : TypeId} {a b c d : Value} (h : Blk w g t #[a, b, c, d]) (a' b' c' d' : Value) : Blk ((((w.setCell ⟨g, 0, none⟩ a').setCell ⟨g, 1, none⟩ b').setCell ⟨g, 2, none⟩ c').setCell ⟨g, 3, none⟩ d') g t #[a', b', c', d'] := (((h.set_ 0 a').set_ 1 b').set_ 2 c').set_ 3 d'
def opA (o : OpV) : Value := .agg #[.int .i64 o.p, .int .i64 o.t, .string o.s]
def opR (x : Option OpV) : Value := .tuple #[opA (x.getD zeroO), .bool x.isSome]
theorem PaAt.inf {f : PF} {w : World} {r : List TokV} {nv : Value} {ns : List ByteArray} {bad : Bool} (h : PaAt f w r nv ns bad) (s : ByteArray) :
  Calls Tryz.prog 101 #[.pointer (some ⟨f.tb, 0, none⟩), .string s] w fun e w' => e = .returned (opR (findO s f.I)) ∧ Ext w w' := by
 obtain ⟨m1, m2, ht, _⟩ := h.ops
 exact infix_any f.tb m1 m2 f.I f.Q s w ht
theorem PaAt.pre {f : PF} {w : World} {r : List TokV} {nv : Value} {ns : List ByteArray} {bad : Bool} (h : PaAt f w r nv ns bad) (s : ByteArray) :
  Calls Tryz.prog 144 #[.pointer (some ⟨f.tb, 0, none⟩), .string s] w fun e w' => e = .returned (opR (findO s f.Q)) ∧ Ext w w' := by
 obtain ⟨m1, m2, ht, _⟩ := h.ops
 exact prefix_any f.tb m1 m2 f.I f.Q s w ht
set_option maxRecDepth 100000 in
set_option maxHeartbeats 4000000 in
theorem pinfix_yes {f : PF} {w : World} {r : List TokV} {nv : Value} {ns : List ByteArray} {bad : Bool} (h : PaAt f w r nv ns bad) {t : TokV} {q : List TokV} (e : r = t :: q) (hk : t.kind = 1 ∨ isPu r 44 = true) :
  Calls Tryz.prog 65 #[.pointer (some ⟨f.pb, 0, none⟩)] w fun e w' => e = .returned (opR (findO t.s f.I)) ∧ Ext w w' := by
 have HN := fun W (x : Ext w W) => Lib.hid (paNext (h.ext x) e)
 have HI := fun W (x : Ext w W) => Lib.hid (paIs ⟨#[44]⟩ (h.ext x))
 have HF := fun W (x : Ext w W) => Lib.hid ((h.ext x).inf t.s)
 simp only [isPs_lit] at HI
 have H := Lib.hid h
 have hp : f.pb < w.heap.size := h.blk.lt
 have F0 := tokF0 t.kind t.n t.at_ t.s t.lay
 have F1 := tokF1 t.kind t.n t.at_ t.s t.lay
 unfold tokA at HN
 unfold opR opA at HF ⊢
 have HX0 := Lib.hid (ext_box4 w (.cells #[.int .i64 0, .int .i64 0, .string ⟨#[]⟩] 70))
 have HZ0 := Lib.hid (Blk.new w 70 #[.int .i64 0, .int .i64 0, .string ⟨#[]⟩])
 generalize (findO t.s f.I).isSome = b at *
 generalize (findO t.s f.I).getD zeroO = o at *
 obtain ⟨kd, hkd⟩ : ∃ kd, t.kind = kd := ⟨_, rfl⟩
 rw [hkd] at HN F0 F1 hk
 have hkk : ((kd != 1) = false ∧ (kd == 1) = true) ∨ ((kd != 1) = true ∧ (kd == 1) = false ∧ isPu r 44 = true) := by
  by_cases h1 : kd = 1
  ·exact .inl ⟨by simp [h1], by simp [h1]⟩
  ·exact .inr ⟨by simpa using h1, by simpa using h1, by rcases hk with hk | hk; exact absurd hk h1; exact hk⟩
 clear h e hk hkd
 rcases hkk with ⟨k1, k2⟩ | ⟨k1, k2, k3⟩
 ·clear HI
  go_enter Tryz.func65, Tryz.ntmps65
  go_upto_region 3 with (go_at_call 42; refine (HN _ HX0.out).out.mono ?_; rintro e W1 ⟨rfl, hx1⟩; have X1 := Lib.hid (HX0.out.trans hx1); have Z1 := Lib.hid (HZ0.out.ext hx1); clear hx1)
  have c2 : W1.cell? ⟨f.pb, 2, none⟩ = some (.pointer (some ⟨f.tb, 0, none⟩)) := (H.out.ext X1.out).cells.c2
  go_region_law ((first | (go_simp; go_at_call 42; refine (HN _ (X1.out.drew)).out.mono ?_; rintro e V1 ⟨rfl, hx⟩; have X2 := Lib.hid (X1.out.drew.trans hx); have Z2 := Lib.hid (Z1.out.ext ((Ext.refl _).drew.trans hx)); have a2 := ((Ext.refl _).drew.trans hx).cell c2; clear hx) | (go_simp; go_at_call 101; refine (HF _ X2.out).out.mono ?_; rintro e V2 ⟨rfl, hx⟩; have X3 := Lib.hid (X2.out.trans hx); have Z3 := Lib.hid (Z2.out.ext hx); have zc := (Z2.out.ext hx).cell; have zf := (Z2.out.ext hx).frozen; clear hx)))
  all_goals
   go_wp2_with fail
   have kb := blk_set3 Z3.out (.int .i64 o.p) (.int .i64 o.t) (.string o.s)
   have kc := kb.cell
   refine bodyPost_ret (v := .tuple #[.agg #[.int .i64 o.p, .int .i64 o.t, .string o.s], .bool b]) ?_ rfl ⟨rfl, ext_set3 X3.out (Nat.le_refl _) _ _ _⟩
   simp [results, Tryz.results65, go_sem, kc]
 ·rw [k3] at HI
  go_enter Tryz.func65, Tryz.ntmps65
  go_upto_region 3 with (first | (go_at_call 42; refine (HN _ HX0.out).out.mono ?_; rintro e W0 ⟨rfl, hx1⟩; have X0 := Lib.hid (HX0.out.trans hx1); have Z0 := Lib.hid (HZ0.out.ext hx1); clear hx1) | (go_at_call 100; refine (HI _ X0.out).out.mono ?_; rintro e W1 ⟨rfl, hx1⟩; have X1 := Lib.hid (X0.out.trans hx1); have Z1 := Lib.hid (Z0.out.ext hx1); clear hx1))
  have c2 : W1.cell? ⟨f.pb, 2, none⟩ = some (.pointer (some ⟨f.tb, 0, none⟩)) := (H.out.ext X1.out).cells.c2
  go_region_law ((first | (go_simp; go_at_call 42; refine (HN _ (X1.out.drew)).out.mono ?_; rintro e V1 ⟨rfl, hx⟩; have X2 := Lib.hid (X1.out.drew.trans hx); have Z2 := Lib.hid (Z1.out.ext ((Ext.refl _).drew.trans hx)); have a2 := ((Ext.refl _).drew.trans hx).cell c2; clear hx) | (go_simp; go_at_call 101; refine (HF _ X2.out).out.mono ?_; rintro e V2 ⟨rfl, hx⟩; have X3 := Lib.hid (X2.out.trans hx); have Z3 := Lib.hid (Z2.out.ext hx); have zc := (Z2.out.ext hx).cell; have zf := (Z2.out.ext hx).frozen; clear hx)))
  all_goals
   go_wp2_with fail
   have kb := blk_set3 Z3.out (.int .i64 o.p) (.int .i64 o.t) (.string o.s)
   have kc := kb.cell
   refine bodyPost_ret (v := .tuple #[.agg #[.int .i64 o.p, .int .i64 o.t, .string o.s], .bool b]) ?_ rfl ⟨rfl, ext_set3 X3.out (Nat.le_refl _) _ _ _⟩
   simp [results, Tryz.results65, go_sem, kc]
set_option maxRecDepth 100000 in
set_option maxHeartbeats 4000000 in
theorem pinfix_no {f : PF} {w : World} {r : List TokV} {nv : Value} {ns : List ByteArray} {bad : Bool} (h : PaAt f w r nv ns bad) {t : TokV} {q : List TokV} (e : r = t :: q) (hk : ¬ (t.kind = 1 ∨ isPu r 44 = true)) :
  Calls Tryz.prog 65 #[.pointer (some ⟨f.pb, 0, none⟩)] w fun e w' => e = .returned (opR none) ∧ Ext w w' := by
 have HN := fun W (x : Ext w W) => Lib.hid (paNext (h.ext x) e)
 have HI := fun W (x : Ext w W) => Lib.hid (paIs ⟨#[44]⟩ (h.ext x))
 simp only [isPs_lit] at HI
 have hp : f.pb < w.heap.size := h.blk.lt
 have F0 := tokF0 t.kind t.n t.at_ t.s t.lay
 unfold tokA at HN
 have HX0 := Lib.hid (ext_box4 w (.cells #[.int .i64 0, .int .i64 0, .string ⟨#[]⟩] 70))
 have HZ0 := Lib.hid (Blk.new w 70 #[.int .i64 0, .int .i64 0, .string ⟨#[]⟩])
 have hi : isPu r 44 = false := by
  cases h1 : isPu r 44
  ·rfl
  ·exact absurd (.inr h1) hk
 have k1 : (t.kind != 1) = true := by
  have : t.kind ≠ 1 := fun e => hk (.inl e)
  simpa using this
 have k2 : (t.kind == 1) = false := by
  have : t.kind ≠ 1 := fun e => hk (.inl e)
  simpa using this
 rw [hi] at HI
 generalize t.kind = kd at *
 clear h e hk hi
 go_enter Tryz.func65, Tryz.ntmps65
 go_upto_region 2 with (first | (go_at_call 42; refine (HN _ HX0.out).out.mono ?_; rintro e W0 ⟨rfl, hx1⟩; have X0 := Lib.hid (HX0.out.trans hx1); have Z0 := Lib.hid (HZ0.out.ext hx1); clear hx1) | (go_at_call 100; refine (HI _ X0.out).out.mono ?_; rintro e W1 ⟨rfl, hx1⟩; have X1 := Lib.hid (X0.out.trans hx1); have Z1 := Lib.hid (Z0.out.ext hx1); clear hx1))
 have zc := Z1.out.cell
 have zf := Z1.out.frozen
 go_wp2_with fail
 have kb := blk_set3 Z1.out (.int .i64 0) (.int .i64 0) (.string ⟨#[]⟩)
 have kc := kb.cell
 refine bodyPost_ret (v := opR none) ?_ rfl ⟨rfl, ext_set3 X1.out (Nat.le_refl _) _ _ _⟩
 simp [results, Tryz.results65, go_sem, opR, opA, zeroO, kc]
theorem pinfix_any {f : PF} {w : World} {r : List TokV} {nv : Value} {ns : List ByteArray} {bad : Bool} (h : PaAt f w r nv ns bad) :
  Calls Tryz.prog 65 #[.pointer (some ⟨f.pb, 0, none⟩)] w fun e w' => e = .returned (opR (infixF f.O r)) ∧ Ext w w' := by
 obtain ⟨t, q, e⟩ := ToksOk.ne h.suf h.nil
 by_cases hk : t.kind = 1 ∨ isPu r 44 = true
 ·have : infixF f.O r = findO t.s f.I := by subst e; exact if_pos hk
  rw [this]
  exact pinfix_yes h e hk
 ·have : infixF f.O r = none := by subst e; exact if_neg hk
  rw [this]
  exact pinfix_no h e hk
end Go.Proofs.YtgcdhffeacdegaaGreatDoor

/- Layer 6, the program: the walks of bare, part, of, measure, Check, may. -/
namespace Go.Proofs.YtgcdhffeacdegaaGreatDoor
open Go.RowKit Go.El
theorem size_nil (s : ByteArray) : (s.toList == ([] : List UInt8)) = decide (s.size = 0) := by
 rw [ByteArray.toList_eq, Bool.eq_iff_iff, beq_iff_eq, decide_eq_true_iff]
 rw [← List.length_eq_zero_iff]
 simp
theorem ret_boolP {a b : Bool} (h : a = true ↔ b = true) : Ending.returned (.bool a) = .returned (.bool b) := by rw [Bool.eq_iff_iff.2 h]
set_option maxRecDepth 100000 in
set_option maxHeartbeats 1000000 in
theorem bare_any (t : Tm) (A : Option Addr) (c : Nat) (w : World) :
  Calls Tryz.prog 171 #[tmVal t A c] w fun e w' => e = .returned (.bool (decide (t.s.size = 0 ∧ t.l.length = 0))) ∧ Ext w w' := by
 have h0 := size_nil t.s
 unfold tmVal
 by_cases h1 : t.s.size = 0
 ·rw [decide_eq_true h1] at h0
  go_enter Tryz.func171, Tryz.ntmps171
  go_wp2_with fail
  all_goals
   go_ret
   exact ⟨ret_boolP (by simp [h1]), ext_box _ _⟩
 ·rw [decide_eq_false h1] at h0
  go_enter Tryz.func171, Tryz.ntmps171
  go_wp2_with fail
  all_goals
   go_ret
   exact ⟨ret_boolP (by simp [h1]), ext_box _ _⟩
set_option maxRecDepth 100000 in
set_option maxHeartbeats 4000000 in
theorem part_any (t : Tm) (A : Option Addr) (c : Nat) (w : World) :
  Calls Tryz.prog 146 #[tmVal t A c] w fun e w' => e = .returned (.bool (partK t.k t.n t.s t.l.length)) ∧ Ext w w' := by
 unfold tmVal
 have hB := fun W => Lib.hid (bare_any t A c W)
 unfold tmVal at hB
 generalize t.l.length = m at *
 generalize t.s = s at *
 generalize t.n = n at *
 generalize t.k = k at *
 by_cases hn : n = 0
 ·subst hn
  by_cases hz : (s.size : Int) ≤ 64
  ·by_cases k1 : k = 1
   ·subst k1
    go_enter Tryz.func146, Tryz.ntmps146
    go_wp2_with (go_at_call 171; refine (hB _).out.mono ?_; rintro e W1 ⟨rfl, hx⟩; have HX := Lib.hid ((ext_box w _).trans hx); clear hx)
    go_ret
    refine ⟨ret_boolP (by first | (simp [partK]; done) | (simp [partK]; omega) | (simp [partK, c1, c2]; done)), ?_⟩
    first | exact HX.out | exact ext_box _ _
   by_cases k2 : k = 2
   ·subst k2
    go_enter Tryz.func146, Tryz.ntmps146
    go_wp2_with (go_at_call 171; refine (hB _).out.mono ?_; rintro e W1 ⟨rfl, hx⟩; have HX := Lib.hid ((ext_box w _).trans hx); clear hx)
    go_ret
    refine ⟨ret_boolP (by first | (simp [partK]; done) | (simp [partK]; omega) | (simp [partK, c1, c2]; done)), ?_⟩
    first | exact HX.out | exact ext_box _ _
   by_cases k3 : k = 3
   ·subst k3
    by_cases c1 : m = 0
    ·go_enter Tryz.func146, Tryz.ntmps146
     go_wp2_with fail
     go_ret
     refine ⟨ret_boolP (by first | (simp [partK]; done) | (simp [partK]; omega) | (simp [partK, c1, c2]; done)), ?_⟩
     first | exact HX.out | exact ext_box _ _
    ·go_enter Tryz.func146, Tryz.ntmps146
     go_wp2_with fail
     go_ret
     refine ⟨ret_boolP (by first | (simp [partK]; done) | (simp [partK]; omega) | (simp [partK, c1, c2]; done)), ?_⟩
     first | exact HX.out | exact ext_box _ _
   by_cases k4 : k = 4
   ·subst k4
    by_cases c1 : 1 ≤ (m : Int)
    ·by_cases c2 : (m : Int) ≤ 16
     ·go_enter Tryz.func146, Tryz.ntmps146
      go_wp2_with fail
      go_ret
      refine ⟨ret_boolP (by first | (simp [partK]; done) | (simp [partK]; omega) | (simp [partK, c1, c2]; done)), ?_⟩
      first | exact HX.out | exact ext_box _ _
     ·go_enter Tryz.func146, Tryz.ntmps146
      go_wp2_with fail
      go_ret
      refine ⟨ret_boolP (by first | (simp [partK]; done) | (simp [partK]; omega) | (simp [partK, c1, c2]; done)), ?_⟩
      first | exact HX.out | exact ext_box _ _
    ·go_enter Tryz.func146, Tryz.ntmps146
     go_wp2_with fail
     go_ret
     refine ⟨ret_boolP (by first | (simp [partK]; done) | (simp [partK]; omega) | (simp [partK, c1, c2]; done)), ?_⟩
     first | exact HX.out | exact ext_box _ _
   have q1 : (k == 1) = false := by simpa using k1
   have q2 : (k == 2) = false := by simpa using k2
   have q3 : (k == 3) = false := by simpa using k3
   have q4 : (k == 4) = false := by simpa using k4
   go_enter Tryz.func146, Tryz.ntmps146
   go_wp2_with fail
   go_ret
   refine ⟨ret_boolP (by simp [partK, k1, k2, k3, k4]), ?_⟩
   exact ext_box _ _
  ·by_cases k1 : k = 1
   ·subst k1
    go_enter Tryz.func146, Tryz.ntmps146
    go_wp2_with (go_at_call 171; refine (hB _).out.mono ?_; rintro e W1 ⟨rfl, hx⟩; have HX := Lib.hid ((ext_box w _).trans hx); clear hx)
    go_ret
    refine ⟨ret_boolP (by first | (simp [partK]; done) | (simp [partK]; omega) | (simp [partK, c1, c2]; done)), ?_⟩
    first | exact HX.out | exact ext_box _ _
   by_cases k2 : k = 2
   ·subst k2
    go_enter Tryz.func146, Tryz.ntmps146
    go_wp2_with (go_at_call 171; refine (hB _).out.mono ?_; rintro e W1 ⟨rfl, hx⟩; have HX := Lib.hid ((ext_box w _).trans hx); clear hx)
    go_ret
    refine ⟨ret_boolP (by first | (simp [partK]; done) | (simp [partK]; omega) | (simp [partK, c1, c2]; done)), ?_⟩
    first | exact HX.out | exact ext_box _ _
   by_cases k3 : k = 3
   ·subst k3
    go_enter Tryz.func146, Tryz.ntmps146
    go_wp2_with fail
    go_ret
    refine ⟨ret_boolP (by first | (simp [partK]; done) | (simp [partK]; omega) | (simp [partK, c1, c2]; done)), ?_⟩
    first | exact HX.out | exact ext_box _ _
   by_cases k4 : k = 4
   ·subst k4
    go_enter Tryz.func146, Tryz.ntmps146
    go_wp2_with fail
    go_ret
    refine ⟨ret_boolP (by first | (simp [partK]; done) | (simp [partK]; omega) | (simp [partK, c1, c2]; done)), ?_⟩
    first | exact HX.out | exact ext_box _ _
   have q1 : (k == 1) = false := by simpa using k1
   have q2 : (k == 2) = false := by simpa using k2
   have q3 : (k == 3) = false := by simpa using k3
   have q4 : (k == 4) = false := by simpa using k4
   go_enter Tryz.func146, Tryz.ntmps146
   go_wp2_with fail
   go_ret
   refine ⟨ret_boolP (by simp [partK, k1, k2, k3, k4]), ?_⟩
   exact ext_box _ _
 ·have hn2 : (n == 0) = false := by simpa using hn
  by_cases k1 : k = 1
  ·subst k1
   by_cases c1 : 0 ≤ n
   ·by_cases c2 : n < 1073741824
    ·go_enter Tryz.func146, Tryz.ntmps146
     go_wp2_with (go_at_call 171; refine (hB _).out.mono ?_; rintro e W1 ⟨rfl, hx⟩; have HX := Lib.hid ((ext_box w _).trans hx); clear hx)
     go_ret
     refine ⟨ret_boolP (by first | (simp [partK]; done) | (simp [partK]; omega) | (simp [partK, c1, c2]; done)), ?_⟩
     first | exact HX.out | exact ext_box _ _
    ·go_enter Tryz.func146, Tryz.ntmps146
     go_wp2_with (go_at_call 171; refine (hB _).out.mono ?_; rintro e W1 ⟨rfl, hx⟩; have HX := Lib.hid ((ext_box w _).trans hx); clear hx)
     go_ret
     refine ⟨ret_boolP (by first | (simp [partK]; done) | (simp [partK]; omega) | (simp [partK, c1, c2]; done)), ?_⟩
     first | exact HX.out | exact ext_box _ _
   ·go_enter Tryz.func146, Tryz.ntmps146
    go_wp2_with (go_at_call 171; refine (hB _).out.mono ?_; rintro e W1 ⟨rfl, hx⟩; have HX := Lib.hid ((ext_box w _).trans hx); clear hx)
    go_ret
    refine ⟨ret_boolP (by first | (simp [partK]; done) | (simp [partK]; omega) | (simp [partK, c1, c2]; done)), ?_⟩
    first | exact HX.out | exact ext_box _ _
  by_cases k2 : k = 2
  ·subst k2
   by_cases c1 : -9007199254740991 ≤ n
   ·by_cases c2 : n ≤ 9007199254740991
    ·go_enter Tryz.func146, Tryz.ntmps146
     go_wp2_with (go_at_call 171; refine (hB _).out.mono ?_; rintro e W1 ⟨rfl, hx⟩; have HX := Lib.hid ((ext_box w _).trans hx); clear hx)
     go_ret
     refine ⟨ret_boolP (by first | (simp [partK]; done) | (simp [partK]; omega) | (simp [partK, c1, c2]; done)), ?_⟩
     first | exact HX.out | exact ext_box _ _
    ·go_enter Tryz.func146, Tryz.ntmps146
     go_wp2_with (go_at_call 171; refine (hB _).out.mono ?_; rintro e W1 ⟨rfl, hx⟩; have HX := Lib.hid ((ext_box w _).trans hx); clear hx)
     go_ret
     refine ⟨ret_boolP (by first | (simp [partK]; done) | (simp [partK]; omega) | (simp [partK, c1, c2]; done)), ?_⟩
     first | exact HX.out | exact ext_box _ _
   ·go_enter Tryz.func146, Tryz.ntmps146
    go_wp2_with (go_at_call 171; refine (hB _).out.mono ?_; rintro e W1 ⟨rfl, hx⟩; have HX := Lib.hid ((ext_box w _).trans hx); clear hx)
    go_ret
    refine ⟨ret_boolP (by first | (simp [partK]; done) | (simp [partK]; omega) | (simp [partK, c1, c2]; done)), ?_⟩
    first | exact HX.out | exact ext_box _ _
  by_cases k3 : k = 3
  ·subst k3
   go_enter Tryz.func146, Tryz.ntmps146
   go_wp2_with fail
   go_ret
   refine ⟨ret_boolP (by first | (simp [partK]; done) | (simp [partK]; omega) | (simp [partK, c1, c2]; done)), ?_⟩
   first | exact HX.out | exact ext_box _ _
  by_cases k4 : k = 4
  ·subst k4
   go_enter Tryz.func146, Tryz.ntmps146
   go_wp2_with fail
   go_ret
   refine ⟨ret_boolP (by first | (simp [partK]; done) | (simp [partK]; omega) | (simp [partK, c1, c2]; done)), ?_⟩
   first | exact HX.out | exact ext_box _ _
  have q1 : (k == 1) = false := by simpa using k1
  have q2 : (k == 2) = false := by simpa using k2
  have q3 : (k == 3) = false := by simpa using k3
  have q4 : (k == 4) = false := by simpa using k4
  go_enter Tryz.func146, Tryz.ntmps146
  go_wp2_with fail
  go_ret
  refine ⟨ret_boolP (by simp [partK, k1, k2, k3, k4]), ?_⟩
  exact ext_box _ _
end Go.Proofs.YtgcdhffeacdegaaGreatDoor

/- Layer 6, the program: the walks of of, measure, Check, may. -/
namespace Go.Proofs.YtgcdhffeacdegaaGreatDoor
open Go.RowKit Go.El
def cntV (p d : Int) (b : Bool) : Array Value := #[.int .i64 p, .int .i64 d, .bool b]
set_option maxRecDepth 100000 in
set_option maxHeartbeats 4000000 in
theorem countOf_any : ∀ (N : Nat) (t : Tm), szT t ≤ N → ∀ (A : Option Addr) (c : Nat) (w : World) (g : Nat) (D : Nat → Prop) (p d depth : Int) (b : Bool), Blk w g 112 (cntV p d b) → TmIn D w t A c → (∀ k, D k → k ≠ g) → 0 ≤ p → p + (szT t : Int) ≤ 1000000000000 → 0 ≤ depth → depth + (dpT t : Int) ≤ 1000000000000 →
  Calls Tryz.prog 105 #[.pointer (some ⟨g, 0, none⟩), tmVal t A c, .int .i64 depth] w fun e w' => e = .returned (.tuple #[]) ∧ Blk w' g 112 (cntV (p + (szT t : Int)) (max d (depth + (dpT t : Int) - 1)) (b || !okT t)) ∧ Mods [g] w w'
 | 0, t, h => by
  have := szT_pos t
  omega
 | N + 1, .mk k n s l, hN => by
  intro A c w g D p d depth b hb ht hD hp0 hp1 hd0 hd1
  have IH := countOf_any N
  simp only [szT, dpT] at hN hp1 hd1
  have b0 : w.cell? ⟨g, 0, none⟩ = some (.int .i64 p) := hb.cell 0
  have b1 : w.cell? ⟨g, 1, none⟩ = some (.int .i64 d) := hb.cell 1
  have b2 : w.cell? ⟨g, 2, none⟩ = some (.bool b) := hb.cell 2
  have f0 := hb.frozen 0
  have f1 := hb.frozen 1
  have f2 := hb.frozen 2
  have hglt : g < w.heap.size := hb.lt
  have hw1 : IntKind.i64.wrap (p + 1) = p + 1 := IntWalk.i64_in _ (by omega)
  have hw2 : IntKind.i64.wrap (depth + 1) = depth + 1 := IntWalk.i64_in _ (by omega)
  have HP := fun W => Lib.hid (part_any (.mk k n s l) A c W)
  unfold tmVal at HP ⊢
  simp only [Tm.k, Tm.n, Tm.s, Tm.l] at HP ⊢
  have H := Lib.hid ht
  have HB := Lib.hid hb
  clear hb ht
  go_enter Tryz.func105, Tryz.ntmps105
  go_upto_region 3 with fail
  have hmax : (if d < depth then depth else d) = max d depth := by rw [Int.max_def]; split <;> split <;> omega
  (try rw [hmax])
  clear hmax
  refine wp_abs (fun V => Hid (Blk V g 112 (cntV (p + 1) (max d depth) b)) ∧ Hid (Blk V w.heap.size 32 #[.int .i64 k, .int .i64 n, .string s, .slice A l.length c]) ∧ Hid (Mods [g] w V)) ⟨((HB.out.set_ 0 _).set_ 1 _).alloc _, ?_, (((Mods.refl [g] w).setCell (p := ⟨g, 0, none⟩) (.inl (by simp)) _).setCell (p := ⟨g, 1, none⟩) (.inl (by simp)) _).alloc _⟩ ?_
  ·have := Blk.new ((w.setCell ⟨g, 0, none⟩ (.int .i64 (p + 1))).setCell ⟨g, 1, none⟩ (.int .i64 (max d depth))) 32 #[.int .i64 k, .int .i64 n, .string s, .slice A l.length c]
   rw [World.size_setCell, World.size_setCell] at this
   exact this
  rintro V ⟨HB1, HX1, HM1⟩
  clear b0 b1 b2 f0 f1 f2 HB
  have x0 : V.cell? ⟨w.heap.size, 0, none⟩ = some (.int .i64 k) := HX1.out.cell 0
  have x1 : V.cell? ⟨w.heap.size, 1, none⟩ = some (.int .i64 n) := HX1.out.cell 1
  have x2 : V.cell? ⟨w.heap.size, 2, none⟩ = some (.string s) := HX1.out.cell 2
  have x3 : V.cell? ⟨w.heap.size, 3, none⟩ = some (.slice A l.length c) := HX1.out.cell 3
  have b2 : V.cell? ⟨g, 2, none⟩ = some (.bool b) := HB1.out.cell 2
  have f2 := HB1.out.frozen 2
  generalize hpk : partK k n s l.length = pk at HP
  have HPK := Lib.hid hpk
  clear hpk
  cases hb : b
  ·subst hb
   cases hpk : pk
   ·subst hpk
    go_upto_region 4 with (go_at_call 146; refine (HP _).out.mono ?_; rintro e W1 ⟨rfl, hx⟩; have g2 := HB1.out.ext hx; have f2 := g2.frozen 2; have d2 : W1.cell? ⟨g, 2, none⟩ = some (.bool false) := g2.cell 2; have HXX := Lib.hid hx; have HB2 := Lib.hid g2; clear hx g2)
    refine wp_abs (fun V2 => Hid (Blk V2 g 112 (cntV (p + 1) (max d depth) true)) ∧ Hid (Blk V2 w.heap.size 32 #[.int .i64 k, .int .i64 n, .string s, .slice A l.length c]) ∧ Hid (Mods [g] w V2)) ⟨HB2.out.set_ 2 _, (HX1.out.ext HXX.out).far (p := ⟨g, 2, none⟩) (by simp; omega) _, ((HM1.out.trans (Mods.ext HXX.out)).setCell (p := ⟨g, 2, none⟩) (.inl (by simp)) _)⟩ ?_
    rintro V2 ⟨HB3, HX3, HM3⟩
    have y3 : V2.cell? ⟨w.heap.size, 3, none⟩ = some (.slice A l.length c) := HX3.out.cell 3
    clear HP HB1 HX1 HM1 HB2 HXX f2 x0 x1 x2 x3
    go_upto_region 5 with fail
    go_loopw [39] (fun i wr => ∃ j : Nat, j ≤ l.length ∧ i = .int .i64 j ∧ Hid (Blk wr g 112 (cntV (p + 1 + (szL (l.take j) : Int)) (max d (depth + (dpL (l.take j) : Int))) true)) ∧ Hid (Mods [g] w wr)) (fun i _ => l.length - (intOf i).toNat)
    case atStart => exact ⟨0, Nat.zero_le _, rfl, Lib.hid (by simpa [szL, dpL, okL] using HB3.out), HM3.out⟩
    case round =>
     obtain ⟨j, hj, rfl, HC, HM⟩ := hrel
     by_cases hlt : j < l.length
     ·have ho : l[j]? = some l[j] := List.getElem?_eq_getElem hlt
      generalize l[j] = u at ho
      have hsz := szL_take ho
      have hdp := dpL_take ho
      have hok := okL_take ho
      have hs1 := szL_take_le l (j + 1)
      have hdl := dpL_get ho
      have hup := szT_pos u
      have hll := len_szL l
      obtain ⟨bb, off, A', c', rfl, _, hu, q0, q1, q2, q3⟩ := (TmIn.mods (D' := D) HM.out (fun k hk => by simpa using hD k hk) (fun _ h => h) H.out).child ho
      have HU := Lib.hid hu
      clear ho hu
      go_wp2_with (go_at_call 105; refine (IH u (by omega) A' c' _ g D _ _ (depth + 1) _ (HC.out.alloc _) (HU.out.ext (ext_box _ _)) hD (by omega) (by omega) (by omega) (by omega)).mono ?_; rintro e W3 ⟨rfl, h1, h2⟩; have HC3 := Lib.hid h1; have HM3' := Lib.hid h2; clear h1 h2)
      go_roundw
      case rel =>
       refine ⟨j + 1, hlt, by go_num, ?_, (HM.out.alloc _).trans HM3'.out⟩
       have h1 := HC3.out
       rw [hsz, hdp]
       (try rw [hok])
       have e1 : p + 1 + ((szL (l.take j) + szT u : Nat) : Int) = p + 1 + (szL (l.take j) : Int) + (szT u : Int) := by omega
       have e2 : max d (depth + ((max (dpL (l.take j)) (dpT u) : Nat) : Int)) = max (max d (depth + (dpL (l.take j) : Int))) (depth + 1 + (dpT u : Int) - 1) := by omega
       rw [e1, e2]
       exact Lib.hid (by simpa using h1)
      case measure => simp [intOf]; omega
     ·obtain rfl : j = l.length := by omega
      rw [List.take_length] at HC
      go_wp2_with fail
      go_end0
      refine ⟨rfl, ?_, HM.out⟩
      have h1 := HC.out
      have e1 : p + ((1 + szL l : Nat) : Int) = p + 1 + (szL l : Int) := by omega
      have e2 : depth + ((1 + dpL l : Nat) : Int) - 1 = depth + (dpL l : Int) := by omega
      simp only [szT, dpT, okT]
      rw [e1, e2, HPK.out]
      simpa using h1
   ·subst hpk
    go_upto_region 4 with (go_at_call 146; refine (HP _).out.mono ?_; rintro e W1 ⟨rfl, hx⟩; have g2 := HB1.out.ext hx; have f2 := g2.frozen 2; have d2 : W1.cell? ⟨g, 2, none⟩ = some (.bool false) := g2.cell 2; have HXX := Lib.hid hx; have HB2 := Lib.hid g2; clear hx g2)
    refine wp_abs (fun V2 => Hid (Blk V2 g 112 (cntV (p + 1) (max d depth) false)) ∧ Hid (Blk V2 w.heap.size 32 #[.int .i64 k, .int .i64 n, .string s, .slice A l.length c]) ∧ Hid (Mods [g] w V2)) ⟨HB2.out.set_ 2 _, (HX1.out.ext HXX.out).far (p := ⟨g, 2, none⟩) (by simp; omega) _, ((HM1.out.trans (Mods.ext HXX.out)).setCell (p := ⟨g, 2, none⟩) (.inl (by simp)) _)⟩ ?_
    rintro V2 ⟨HB3, HX3, HM3⟩
    have y3 : V2.cell? ⟨w.heap.size, 3, none⟩ = some (.slice A l.length c) := HX3.out.cell 3
    clear HP HB1 HX1 HM1 HB2 HXX f2 x0 x1 x2 x3
    go_upto_region 5 with fail
    go_loopw [39] (fun i wr => ∃ j : Nat, j ≤ l.length ∧ i = .int .i64 j ∧ Hid (Blk wr g 112 (cntV (p + 1 + (szL (l.take j) : Int)) (max d (depth + (dpL (l.take j) : Int))) (!okL (l.take j)))) ∧ Hid (Mods [g] w wr)) (fun i _ => l.length - (intOf i).toNat)
    case atStart => exact ⟨0, Nat.zero_le _, rfl, Lib.hid (by simpa [szL, dpL, okL] using HB3.out), HM3.out⟩
    case round =>
     obtain ⟨j, hj, rfl, HC, HM⟩ := hrel
     by_cases hlt : j < l.length
     ·have ho : l[j]? = some l[j] := List.getElem?_eq_getElem hlt
      generalize l[j] = u at ho
      have hsz := szL_take ho
      have hdp := dpL_take ho
      have hok := okL_take ho
      have hs1 := szL_take_le l (j + 1)
      have hdl := dpL_get ho
      have hup := szT_pos u
      have hll := len_szL l
      obtain ⟨bb, off, A', c', rfl, _, hu, q0, q1, q2, q3⟩ := (TmIn.mods (D' := D) HM.out (fun k hk => by simpa using hD k hk) (fun _ h => h) H.out).child ho
      have HU := Lib.hid hu
      clear ho hu
      go_wp2_with (go_at_call 105; refine (IH u (by omega) A' c' _ g D _ _ (depth + 1) _ (HC.out.alloc _) (HU.out.ext (ext_box _ _)) hD (by omega) (by omega) (by omega) (by omega)).mono ?_; rintro e W3 ⟨rfl, h1, h2⟩; have HC3 := Lib.hid h1; have HM3' := Lib.hid h2; clear h1 h2)
      go_roundw
      case rel =>
       refine ⟨j + 1, hlt, by go_num, ?_, (HM.out.alloc _).trans HM3'.out⟩
       have h1 := HC3.out
       rw [hsz, hdp]
       (try rw [hok])
       have e1 : p + 1 + ((szL (l.take j) + szT u : Nat) : Int) = p + 1 + (szL (l.take j) : Int) + (szT u : Int) := by omega
       have e2 : max d (depth + ((max (dpL (l.take j)) (dpT u) : Nat) : Int)) = max (max d (depth + (dpL (l.take j) : Int))) (depth + 1 + (dpT u : Int) - 1) := by omega
       rw [e1, e2]
       exact Lib.hid (by simpa using h1)
      case measure => simp [intOf]; omega
     ·obtain rfl : j = l.length := by omega
      rw [List.take_length] at HC
      go_wp2_with fail
      go_end0
      refine ⟨rfl, ?_, HM.out⟩
      have h1 := HC.out
      have e1 : p + ((1 + szL l : Nat) : Int) = p + 1 + (szL l : Int) := by omega
      have e2 : depth + ((1 + dpL l : Nat) : Int) - 1 = depth + (dpL l : Int) := by omega
      simp only [szT, dpT, okT]
      rw [e1, e2, HPK.out]
      simpa using h1
  ·subst hb
   go_upto_region 4 with fail
   have HXX := Lib.hid (Ext.refl V)
   have HB2 := HB1
   refine wp_abs (fun V2 => Hid (Blk V2 g 112 (cntV (p + 1) (max d depth) true)) ∧ Hid (Blk V2 w.heap.size 32 #[.int .i64 k, .int .i64 n, .string s, .slice A l.length c]) ∧ Hid (Mods [g] w V2)) ⟨HB2.out.set_ 2 _, (HX1.out.ext HXX.out).far (p := ⟨g, 2, none⟩) (by simp; omega) _, ((HM1.out.trans (Mods.ext HXX.out)).setCell (p := ⟨g, 2, none⟩) (.inl (by simp)) _)⟩ ?_
   rintro V2 ⟨HB3, HX3, HM3⟩
   have y3 : V2.cell? ⟨w.heap.size, 3, none⟩ = some (.slice A l.length c) := HX3.out.cell 3
   clear HP HB1 HX1 HM1 HB2 HXX f2 x0 x1 x2 x3
   go_upto_region 5 with fail
   go_loopw [39] (fun i wr => ∃ j : Nat, j ≤ l.length ∧ i = .int .i64 j ∧ Hid (Blk wr g 112 (cntV (p + 1 + (szL (l.take j) : Int)) (max d (depth + (dpL (l.take j) : Int))) true)) ∧ Hid (Mods [g] w wr)) (fun i _ => l.length - (intOf i).toNat)
   case atStart => exact ⟨0, Nat.zero_le _, rfl, Lib.hid (by simpa [szL, dpL, okL] using HB3.out), HM3.out⟩
   case round =>
    obtain ⟨j, hj, rfl, HC, HM⟩ := hrel
    by_cases hlt : j < l.length
    ·have ho : l[j]? = some l[j] := List.getElem?_eq_getElem hlt
     generalize l[j] = u at ho
     have hsz := szL_take ho
     have hdp := dpL_take ho
     have hok := okL_take ho
     have hs1 := szL_take_le l (j + 1)
     have hdl := dpL_get ho
     have hup := szT_pos u
     have hll := len_szL l
     obtain ⟨bb, off, A', c', rfl, _, hu, q0, q1, q2, q3⟩ := (TmIn.mods (D' := D) HM.out (fun k hk => by simpa using hD k hk) (fun _ h => h) H.out).child ho
     have HU := Lib.hid hu
     clear ho hu
     go_wp2_with (go_at_call 105; refine (IH u (by omega) A' c' _ g D _ _ (depth + 1) _ (HC.out.alloc _) (HU.out.ext (ext_box _ _)) hD (by omega) (by omega) (by omega) (by omega)).mono ?_; rintro e W3 ⟨rfl, h1, h2⟩; have HC3 := Lib.hid h1; have HM3' := Lib.hid h2; clear h1 h2)
     go_roundw
     case rel =>
      refine ⟨j + 1, hlt, by go_num, ?_, (HM.out.alloc _).trans HM3'.out⟩
      have h1 := HC3.out
      rw [hsz, hdp]
      (try rw [hok])
      have e1 : p + 1 + ((szL (l.take j) + szT u : Nat) : Int) = p + 1 + (szL (l.take j) : Int) + (szT u : Int) := by omega
      have e2 : max d (depth + ((max (dpL (l.take j)) (dpT u) : Nat) : Int)) = max (max d (depth + (dpL (l.take j) : Int))) (depth + 1 + (dpT u : Int) - 1) := by omega
      rw [e1, e2]
      exact Lib.hid (by simpa using h1)
     case measure => simp [intOf]; omega
    ·obtain rfl : j = l.length := by omega
     rw [List.take_length] at HC
     go_wp2_with fail
     go_end0
     refine ⟨rfl, ?_, HM.out⟩
     have h1 := HC.out
     have e1 : p + ((1 + szL l : Nat) : Int) = p + 1 + (szL l : Int) := by omega
     have e2 : depth + ((1 + dpL l : Nat) : Int) - 1 = depth + (dpL l : Int) := by omega
     simp only [szT, dpT, okT]
     rw [e1, e2]
     simpa using h1
end Go.Proofs.YtgcdhffeacdegaaGreatDoor

/- Layer 6, the program: the walks of measure, Check, may. -/
namespace Go.El
open Go.RowKit
theorem TmIn.lt {D : Nat → Prop} {w : World} {t : Tm} {A : Option Addr} {c : Nat} (h : TmIn D w t A c) : TmIn (fun k => k < w.heap.size) w t A c := by
 induction h with
 | mk k n s l A cap ch hl hr hs hc ih =>
  refine .mk k n s l A cap ch hl ih (fun hne => ?_) hc
  obtain ⟨b, off, hA, hb, hcell⟩ := hs hne
  refine ⟨b, off, hA, ?_, hcell⟩
  have h0 : 0 < l.length := List.length_pos_iff.2 hne
  exact cell_lt (hcell 0 _ _ (List.getElem?_eq_getElem h0) (List.getElem?_eq_getElem (by omega))).1
mutual
theorem dpT_le : ∀ t : Tm, dpT t ≤ szT t
 | .mk _ _ _ l => by
  have := dpL_le l
  simp only [dpT, szT]
  omega
theorem dpL_le : ∀ l : List Tm, dpL l ≤ szL l
 | [] => Nat.le_refl _
 | t :: r => by
  have := dpT_le t
  have := dpL_le r
  simp only [dpL, szL]
  omega
end
end Go.El
namespace Go.Proofs.YtgcdhffeacdegaaGreatDoor
open Go.RowKit Go.El
set_option maxRecDepth 100000 in
set_option maxHeartbeats 2000000 in
theorem measure_any (t : Tm) (A : Option Addr) (c : Nat) (w : World) (D : Nat → Prop) (ht : TmIn D w t A c) (hsz : szT t ≤ 1000000000) :
  Calls Tryz.prog 69 #[tmVal t A c] w fun e w' => e = .returned (.agg (cntV (szT t) (dpT t) (!okT t))) ∧ Ext w w' := by
 have hd := dpT_le t
 have hdp := dpT_pos t
 have H := Lib.hid ht.lt
 have HC := fun W g hb hT hD => Lib.hid (countOf_any (szT t) t (Nat.le_refl _) A c W g (fun k => k < w.heap.size) 0 0 1 false hb hT hD (by omega) (by omega) (by omega) (by omega))
 unfold tmVal at HC ⊢
 generalize t.k = k at HC ⊢
 generalize t.n = n at HC ⊢
 generalize t.s = s at HC ⊢
 generalize t.l.length = m at HC ⊢
 clear ht
 go_enter Tryz.func69, Tryz.ntmps69
 go_upto_region 2 with fail
 refine wp_abs (fun V => Hid (Blk V (w.heap.size + 1 + 1) 112 (cntV 0 0 false)) ∧ Hid (Blk V (w.heap.size + 1) 112 (cntV 0 0 false)) ∧ Hid (Blk V w.heap.size 32 #[.int .i64 k, .int .i64 n, .string s, .slice A m c]) ∧ Hid (Ext w V)) ⟨?_, ?_, ((Blk.new w _ _).alloc _).alloc _, (((Ext.refl w).alloc _).alloc _).alloc _⟩ ?_
 ·have := Blk.new ((w.alloc (.cells #[.int .i64 k, .int .i64 n, .string s, .slice A m c] 32)).alloc (.cells (cntV 0 0 false) 112)) 112 (cntV 0 0 false)
  rw [World.size_alloc, World.size_alloc] at this
  exact this
 ·have := (Blk.new (w.alloc (.cells #[.int .i64 k, .int .i64 n, .string s, .slice A m c] 32)) 112 (cntV 0 0 false)).alloc (.cells (cntV 0 0 false) 112)
  rw [World.size_alloc] at this
  exact this
 rintro V ⟨HG, HZ, HX, HE⟩
 have x0 : V.cell? ⟨w.heap.size, 0, none⟩ = some (.int .i64 k) := HX.out.cell 0
 have x1 : V.cell? ⟨w.heap.size, 1, none⟩ = some (.int .i64 n) := HX.out.cell 1
 have x2 : V.cell? ⟨w.heap.size, 2, none⟩ = some (.string s) := HX.out.cell 2
 have x3 : V.cell? ⟨w.heap.size, 3, none⟩ = some (.slice A m c) := HX.out.cell 3
 go_upto_region 3 with (go_at_call 105; refine (HC V _ HG.out (H.out.ext HE.out) (fun k hk => by omega)).out.mono ?_; rintro e W3 ⟨rfl, h1, h2⟩; have HB := Lib.hid h1; have HM := Lib.hid h2; have HZ3 := Lib.hid (HZ.out.mods h2 (by simp)); clear h1 h2)
 generalize hP : (0 : Int) + (szT t : Int) = P0 at HB
 generalize hQ : max (0 : Int) (1 + (dpT t : Int) - 1) = Q0 at HB
 generalize hR : (false || !okT t) = R0 at HB
 have g0 : W3.cell? ⟨w.heap.size + 1 + 1, 0, none⟩ = some (.int .i64 P0) := HB.out.cell 0
 have g1 : W3.cell? ⟨w.heap.size + 1 + 1, 1, none⟩ = some (.int .i64 Q0) := HB.out.cell 1
 have g2 : W3.cell? ⟨w.heap.size + 1 + 1, 2, none⟩ = some (.bool R0) := HB.out.cell 2
 have z0 : W3.cell? ⟨w.heap.size + 1, 0, none⟩ = some (.int .i64 0) := HZ3.out.cell 0
 have z1 : W3.cell? ⟨w.heap.size + 1, 1, none⟩ = some (.int .i64 0) := HZ3.out.cell 1
 have z2 : W3.cell? ⟨w.heap.size + 1, 2, none⟩ = some (.bool false) := HZ3.out.cell 2
 have f0 := HZ3.out.frozen 0
 have f1 := HZ3.out.frozen 1
 have f2 := HZ3.out.frozen 2
 have hP2 : P0 = (szT t : Int) := by omega
 have hQ2 : Q0 = (dpT t : Int) := by omega
 have hR2 : R0 = !okT t := by rw [← hR]; rfl
 clear hP hQ hR
 have hbf := ((HZ3.out.set_ 0 (.int .i64 (szT t : Int))).set_ 1 (.int .i64 (dpT t : Int))).set_ 2 (.bool (!okT t))
 have hlt := HB.out.lt
 have hE3 : Ext w W3 := ext_mods HE.out HM.out (fun k hk => by simp at hk; omega)
 have hEF : Ext w (((W3.setCell ⟨w.heap.size + 1, 0, none⟩ (.int .i64 (szT t : Int))).setCell ⟨w.heap.size + 1, 1, none⟩ (.int .i64 (dpT t : Int))).setCell ⟨w.heap.size + 1, 2, none⟩ (.bool (!okT t))) := ((hE3.setCell (p := ⟨w.heap.size + 1, 0, none⟩) (by simp) _).setCell (p := ⟨w.heap.size + 1, 1, none⟩) (by simp) _).setCell (p := ⟨w.heap.size + 1, 2, none⟩) (by simp) _
 have HF := Lib.hid hEF
 have HBF := Lib.hid hbf
 clear hbf hE3 hEF hlt
 go_wp2_with fail
 generalize ((W3.setCell ⟨w.heap.size + 1, 0, none⟩ (.int .i64 (szT t : Int))).setCell ⟨w.heap.size + 1, 1, none⟩ (.int .i64 (dpT t : Int))).setCell ⟨w.heap.size + 1, 2, none⟩ (.bool (!okT t)) = V5 at HF HBF ⊢
 have r0 : V5.cell? ⟨w.heap.size + 1, 0, none⟩ = some (.int .i64 (szT t : Int)) := HBF.out.cell 0
 have r1 : V5.cell? ⟨w.heap.size + 1, 1, none⟩ = some (.int .i64 (dpT t : Int)) := HBF.out.cell 1
 have r2 : V5.cell? ⟨w.heap.size + 1, 2, none⟩ = some (.bool (!okT t)) := HBF.out.cell 2
 refine bodyPost_ret (v := .agg (cntV (szT t) (dpT t) (!okT t))) (by simp [results, Tryz.results69, go_sem, r0, r1, r2, cntV]) rfl ⟨rfl, HF.out⟩
set_option maxRecDepth 100000 in
set_option maxHeartbeats 2000000 in
theorem check_any (t : Tm) (A : Option Addr) (c : Nat) (w : World) (D : Nat → Prop) (ht : TmIn D w t A c) (hsz : szT t ≤ 1000000000) :
  Calls Tryz.prog 43 #[tmVal t A c] w fun e w' => e = .returned (.int .i64 (chkT t)) ∧ Ext w w' := by
 have HM := Lib.hid (measure_any t A c _ D (ht.ext (ext_box w (.cells #[.int .i64 t.k, .int .i64 t.n, .string t.s, .slice A t.l.length c] 32))) hsz)
 have HN := Lib.hid (show chkT t = (if okT t = false then 60 else if 200 < dpT t then 61 else if 4096 < szT t then 62 else 0) from rfl)
 generalize chkT t = r at HN ⊢
 unfold tmVal cntV at HM
 unfold tmVal
 generalize t.k = k at HM ⊢
 generalize t.n = n at HM ⊢
 generalize t.s = s at HM ⊢
 generalize t.l.length = m at HM ⊢
 generalize hok : okT t = ok at HM HN
 clear ht hok
 cases ok
 ·rw [if_pos rfl] at HN
  simp only [Bool.not_false] at HM
  go_enter Tryz.func43, Tryz.ntmps43
  go_wp2_with (go_at_call 69; refine HM.out.mono ?_; rintro e W1 ⟨rfl, hx⟩; have HX := Lib.hid ((ext_box w _).trans hx); clear hx)
  go_ret
  exact ⟨by rw [HN.out]; rfl, HX.out.trans (ext_box _ _)⟩
 ·rw [if_neg (by decide)] at HN
  simp only [Bool.not_true] at HM
  by_cases h1 : 200 < dpT t
  ·rw [if_pos h1] at HN
   have q1 : 200 < (dpT t : Int) := by omega
   go_enter Tryz.func43, Tryz.ntmps43
   go_wp2_with (go_at_call 69; refine HM.out.mono ?_; rintro e W1 ⟨rfl, hx⟩; have HX := Lib.hid ((ext_box w _).trans hx); clear hx)
   go_ret
   exact ⟨by rw [HN.out]; rfl, HX.out.trans (ext_box _ _)⟩
  ·rw [if_neg h1] at HN
   have q1 : ¬ 200 < (dpT t : Int) := by omega
   by_cases h2 : 4096 < szT t
   ·rw [if_pos h2] at HN
    have q2 : 4096 < (szT t : Int) := by omega
    go_enter Tryz.func43, Tryz.ntmps43
    go_wp2_with (go_at_call 69; refine HM.out.mono ?_; rintro e W1 ⟨rfl, hx⟩; have HX := Lib.hid ((ext_box w _).trans hx); clear hx)
    go_ret
    exact ⟨by rw [HN.out]; rfl, HX.out.trans (ext_box _ _)⟩
   ·rw [if_neg h2] at HN
    have q2 : ¬ 4096 < (szT t : Int) := by omega
    go_enter Tryz.func43, Tryz.ntmps43
    go_wp2_with (go_at_call 69; refine HM.out.mono ?_; rintro e W1 ⟨rfl, hx⟩; have HX := Lib.hid ((ext_box w _).trans hx); clear hx)
    go_ret
    exact ⟨by rw [HN.out]; rfl, HX.out.trans (ext_box _ _)⟩
set_option maxRecDepth 100000 in
set_option maxHeartbeats 2000000 in
theorem may_any (t : Tm) (A : Option Addr) (c : Nat) (w : World) (D : Nat → Prop) (ht : TmIn D w t A c) (hsz : szT t ≤ 1000000000) :
  Calls Tryz.prog 175 #[tmVal t A c] w fun e w' => e = .returned (.bool (mayT t)) ∧ Ext w w' := by
 have HM := Lib.hid (check_any t A c _ D (ht.ext (ext_box w (.cells #[.int .i64 t.k, .int .i64 t.n, .string t.s, .slice A t.l.length c] 32))) hsz)
 have hm : mayT t = (chkT t == 0) := rfl
 rw [hm]
 generalize chkT t = r at HM ⊢
 unfold tmVal at HM ⊢
 clear ht hm
 go_enter Tryz.func175, Tryz.ntmps175
 go_wp2_with (go_at_call 43; refine HM.out.mono ?_; rintro e W1 ⟨rfl, hx⟩; have HX := Lib.hid ((ext_box w _).trans hx); clear hx)
 go_ret
 exact ⟨rfl, HX.out⟩
end Go.Proofs.YtgcdhffeacdegaaGreatDoor
