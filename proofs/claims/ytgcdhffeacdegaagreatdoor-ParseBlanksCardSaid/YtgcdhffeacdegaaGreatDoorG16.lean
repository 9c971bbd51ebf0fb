/- Layer 10, the program: the walks of infix, name, begins, fail. -/
import Derived.Test.YtgcdhffeacdegaaGreatDoorG14
import Derived.Test.YtgcdhffeacdegaaGreatDoorG15
import Derived.Deep.RegionLaw
import Derived.Test.YtgcdhffeacdegaaGreatDoorG08
import Derived.Test.YtgcdhffeacdegaaGreatDoorG09
namespace Go.Proofs.YtgcdhffeacdegaaGreatDoor
open Go.RowKit Go.El

theorem blk_set3 {w : World} {g : Nat} {t : TypeId} {a b c : Value} (h : Blk w g t #[a, b, c]) (a' b' c' : Value) : Blk (((w.setCell ⟨g, 0, none⟩ a').setCell ⟨g, 1, none⟩ b').setCell ⟨g, 2, none⟩ c') g t #[a', b', c'] := ((h.set_ 0 a').set_ 1 b').set_ 2 c'
theorem ext_set3 {w w' : World} (h : Ext w w') {g : Nat} (hg : w.heap.size ≤ g) (a' b' c' : Value) : Ext w (((w'.setCell ⟨g, 0, none⟩ a').setCell ⟨g, 1, none⟩ b').setCell ⟨g, 2, none⟩ c') := ((h.setCell (p := ⟨g, 0, none⟩) hg a').setCell (p := ⟨g, 1, none⟩) hg b').setCell (p := ⟨g, 2, none⟩) hg c'
theorem blk_set4 {w : World} {g : Nat} {t : TypeId} {a b c d : Value} (h : Blk w g t #[a, b, c, d]) (a' b' c' d' : Value) : Blk ((((w.setCell ⟨g, 0, none⟩ a').setCell ⟨g, 1, none⟩ b').setCell ⟨g, 2, none⟩ c').setCell ⟨g, 3, none⟩ d') g t #[a', b', c', d'] := (((h.set_ 0 a').set_ 1 b').set_ 2 c').set_ 3 d'
/-- An operator as the table tells it. -/
def opA (o : OpV) : Value := .agg #[.int .i64 o.p, .int .i64 o.t, .string o.s]
def opR (x : Option OpV) : Value := .tuple #[opA (x.getD zeroO), .bool x.isSome]
theorem PaAt.inf {f : PF} {w : World} {r : List TokV} {nv : Value} {ns : List ByteArray} {bad : Bool} (h : PaAt f w r nv ns bad) (s : ByteArray) :
    Calls Tryz.prog 101 #[.pointer (some ⟨f.tb, 0, none⟩), .string s] w fun e w' => e = .returned (opR (findO s f.I)) ∧ Ext w w' := by
  obtain ⟨m1, m2, ht, _⟩ := h.ops
  exact infix_any f.tb m1 m2 f.I f.Q s w ht
theorem PaAt.pre {f : PF} {w : World} {r : List TokV} {nv : Value} {ns : List ByteArray} {bad : Bool} (h : PaAt f w r nv ns bad) (s : ByteArray) :
    Calls Tryz.prog 144 #[.pointer (some ⟨f.tb, 0, none⟩), .string s] w fun e w' => e = .returned (opR (findO s f.Q)) ∧ Ext w w' := by
  obtain ⟨m1, m2, ht, _⟩ := h.ops
  exact prefix_any f.tb m1 m2 f.I f.Q s w ht

set_option maxRecDepth 100000 in
set_option maxHeartbeats 4000000 in
theorem pinfix_yes {f : PF} {w : World} {r : List TokV} {nv : Value} {ns : List ByteArray} {bad : Bool} (h : PaAt f w r nv ns bad) {t : TokV} {q : List TokV} (e : r = t :: q) (hk : t.kind = 1 ∨ isPu r 44 = true) :
    Calls Tryz.prog 65 #[.pointer (some ⟨f.pb, 0, none⟩)] w fun e w' => e = .returned (opR (findO t.s f.I)) ∧ Ext w w' := by
  have HN := fun W (x : Ext w W) => Lib.hid (paNext (h.ext x) e)
  have HI := fun W (x : Ext w W) => Lib.hid (paIs ⟨#[44]⟩ (h.ext x))
  have HF := fun W (x : Ext w W) => Lib.hid ((h.ext x).inf t.s)
  simp only [isPs_lit] at HI
  have H := Lib.hid h
  have hp : f.pb < w.heap.size := h.blk.lt
  have F0 := tokF0 t.kind t.n t.at_ t.s t.lay
  have F1 := tokF1 t.kind t.n t.at_ t.s t.lay
  unfold tokA at HN
  unfold opR opA at HF ⊢
  have HX0 := Lib.hid (ext_box4 w (.cells #[.int .i64 0, .int .i64 0, .string ⟨#[]⟩] 70))
  have HZ0 := Lib.hid (Blk.new w 70 #[.int .i64 0, .int .i64 0, .string ⟨#[]⟩])
  generalize (findO t.s f.I).isSome = b at *
  generalize (findO t.s f.I).getD zeroO = o at *
  obtain ⟨kd, hkd⟩ : ∃ kd, t.kind = kd := ⟨_, rfl⟩
  rw [hkd] at HN F0 F1 hk
  have hkk : ((kd != 1) = false ∧ (kd == 1) = true) ∨ ((kd != 1) = true ∧ (kd == 1) = false ∧ isPu r 44 = true) := by
    by_cases h1 : kd = 1
    · exact .inl ⟨by simp [h1], by simp [h1]⟩
    · exact .inr ⟨by simpa using h1, by simpa using h1, by rcases hk with hk | hk; exact absurd hk h1; exact hk⟩
  clear h e hk hkd
  rcases hkk with ⟨k1, k2⟩ | ⟨k1, k2, k3⟩
  · clear HI
    go_enter Tryz.func65, Tryz.ntmps65
    go_upto_region 3 with (go_at_call 42; refine (HN _ HX0.out).out.mono ?_; rintro e W1 ⟨rfl, hx1⟩; have X1 := Lib.hid (HX0.out.trans hx1); have Z1 := Lib.hid (HZ0.out.ext hx1); clear hx1)
    have c2 : W1.cell? ⟨f.pb, 2, none⟩ = some (.pointer (some ⟨f.tb, 0, none⟩)) := (H.out.ext X1.out).cells.c2
    go_region_law ((first | (go_simp; go_at_call 42; refine (HN _ (X1.out.drew)).out.mono ?_; rintro e V1 ⟨rfl, hx⟩; have X2 := Lib.hid (X1.out.drew.trans hx); have Z2 := Lib.hid (Z1.out.ext ((Ext.refl _).drew.trans hx)); have a2 := ((Ext.refl _).drew.trans hx).cell c2; clear hx) | (go_simp; go_at_call 101; refine (HF _ X2.out).out.mono ?_; rintro e V2 ⟨rfl, hx⟩; have X3 := Lib.hid (X2.out.trans hx); have Z3 := Lib.hid (Z2.out.ext hx); have zc := (Z2.out.ext hx).cell; have zf := (Z2.out.ext hx).frozen; clear hx)))
    all_goals
      go_wp2_with fail
      have kb := blk_set3 Z3.out (.int .i64 o.p) (.int .i64 o.t) (.string o.s)
      have kc := kb.cell
      refine bodyPost_ret (v := .tuple #[.agg #[.int .i64 o.p, .int .i64 o.t, .string o.s], .bool b]) ?_ rfl ⟨rfl, ext_set3 X3.out (Nat.le_refl _) _ _ _⟩
      simp [results, Tryz.results65, go_sem, kc]
  · rw [k3] at HI
    go_enter Tryz.func65, Tryz.ntmps65
    go_upto_region 3 with (first | (go_at_call 42; refine (HN _ HX0.out).out.mono ?_; rintro e W0 ⟨rfl, hx1⟩; have X0 := Lib.hid (HX0.out.trans hx1); have Z0 := Lib.hid (HZ0.out.ext hx1); clear hx1) | (go_at_call 100; refine (HI _ X0.out).out.mono ?_; rintro e W1 ⟨rfl, hx1⟩; have X1 := Lib.hid (X0.out.trans hx1); have Z1 := Lib.hid (Z0.out.ext hx1); clear hx1))
    have c2 : W1.cell? ⟨f.pb, 2, none⟩ = some (.pointer (some ⟨f.tb, 0, none⟩)) := (H.out.ext X1.out).cells.c2
    go_region_law ((first | (go_simp; go_at_call 42; refine (HN _ (X1.out.drew)).out.mono ?_; rintro e V1 ⟨rfl, hx⟩; have X2 := Lib.hid (X1.out.drew.trans hx); have Z2 := Lib.hid (Z1.out.ext ((Ext.refl _).drew.trans hx)); have a2 := ((Ext.refl _).drew.trans hx).cell c2; clear hx) | (go_simp; go_at_call 101; refine (HF _ X2.out).out.mono ?_; rintro e V2 ⟨rfl, hx⟩; have X3 := Lib.hid (X2.out.trans hx); have Z3 := Lib.hid (Z2.out.ext hx); have zc := (Z2.out.ext hx).cell; have zf := (Z2.out.ext hx).frozen; clear hx)))
    all_goals
      go_wp2_with fail
      have kb := blk_set3 Z3.out (.int .i64 o.p) (.int .i64 o.t) (.string o.s)
      have kc := kb.cell
      refine bodyPost_ret (v := .tuple #[.agg #[.int .i64 o.p, .int .i64 o.t, .string o.s], .bool b]) ?_ rfl ⟨rfl, ext_set3 X3.out (Nat.le_refl _) _ _ _⟩
      simp [results, Tryz.results65, go_sem, kc]

set_option maxRecDepth 100000 in
set_option maxHeartbeats 4000000 in
theorem pinfix_no {f : PF} {w : World} {r : List TokV} {nv : Value} {ns : List ByteArray} {bad : Bool} (h : PaAt f w r nv ns bad) {t : TokV} {q : List TokV} (e : r = t :: q) (hk : ¬ (t.kind = 1 ∨ isPu r 44 = true)) :
    Calls Tryz.prog 65 #[.pointer (some ⟨f.pb, 0, none⟩)] w fun e w' => e = .returned (opR none) ∧ Ext w w' := by
  have HN := fun W (x : Ext w W) => Lib.hid (paNext (h.ext x) e)
  have HI := fun W (x : Ext w W) => Lib.hid (paIs ⟨#[44]⟩ (h.ext x))
  simp only [isPs_lit] at HI
  have hp : f.pb < w.heap.size := h.blk.lt
  have F0 := tokF0 t.kind t.n t.at_ t.s t.lay
  unfold tokA at HN
  have HX0 := Lib.hid (ext_box4 w (.cells #[.int .i64 0, .int .i64 0, .string ⟨#[]⟩] 70))
  have HZ0 := Lib.hid (Blk.new w 70 #[.int .i64 0, .int .i64 0, .string ⟨#[]⟩])
  have hi : isPu r 44 = false := by
    cases h1 : isPu r 44
    · rfl
    · exact absurd (.inr h1) hk
  have k1 : (t.kind != 1) = true := by
    have : t.kind ≠ 1 := fun e => hk (.inl e)
    simpa using this
  have k2 : (t.kind == 1) = false := by
    have : t.kind ≠ 1 := fun e => hk (.inl e)
    simpa using this
  rw [hi] at HI
  generalize t.kind = kd at *
  clear h e hk hi
  go_enter Tryz.func65, Tryz.ntmps65
  go_upto_region 2 with (first | (go_at_call 42; refine (HN _ HX0.out).out.mono ?_; rintro e W0 ⟨rfl, hx1⟩; have X0 := Lib.hid (HX0.out.trans hx1); have Z0 := Lib.hid (HZ0.out.ext hx1); clear hx1) | (go_at_call 100; refine (HI _ X0.out).out.mono ?_; rintro e W1 ⟨rfl, hx1⟩; have X1 := Lib.hid (X0.out.trans hx1); have Z1 := Lib.hid (Z0.out.ext hx1); clear hx1))
  have zc := Z1.out.cell
  have zf := Z1.out.frozen
  go_wp2_with fail
  have kb := blk_set3 Z1.out (.int .i64 0) (.int .i64 0) (.string ⟨#[]⟩)
  have kc := kb.cell
  refine bodyPost_ret (v := opR none) ?_ rfl ⟨rfl, ext_set3 X1.out (Nat.le_refl _) _ _ _⟩
  simp [results, Tryz.results65, go_sem, opR, opA, zeroO, kc]
theorem pinfix_any {f : PF} {w : World} {r : List TokV} {nv : Value} {ns : List ByteArray} {bad : Bool} (h : PaAt f w r nv ns bad) :
    Calls Tryz.prog 65 #[.pointer (some ⟨f.pb, 0, none⟩)] w fun e w' => e = .returned (opR (infixF f.O r)) ∧ Ext w w' := by
  obtain ⟨t, q, e⟩ := ToksOk.ne h.suf h.nil
  by_cases hk : t.kind = 1 ∨ isPu r 44 = true
  · have : infixF f.O r = findO t.s f.I := by subst e; exact if_pos hk
    rw [this]
    exact pinfix_yes h e hk
  · have : infixF f.O r = none := by subst e; exact if_neg hk
    rw [this]
    exact pinfix_no h e hk
end Go.Proofs.YtgcdhffeacdegaaGreatDoor

/- Layer 6, the program: the walks of bare, part, of, measure, Check, may. -/
namespace Go.Proofs.YtgcdhffeacdegaaGreatDoor
open Go.RowKit Go.El

theorem size_nil (s : ByteArray) : (s.toList == ([] : List UInt8)) = decide (s.size = 0) := by
  rw [ByteArray.toList_eq, Bool.eq_iff_iff, beq_iff_eq, decide_eq_true_iff]
  rw [← List.length_eq_zero_iff]
  simp
theorem ret_boolP {a b : Bool} (h : a = true ↔ b = true) : Ending.returned (.bool a) = .returned (.bool b) := by rw [Bool.eq_iff_iff.2 h]

set_option maxRecDepth 100000 in
set_option maxHeartbeats 1000000 in
theorem bare_any (t : Tm) (A : Option Addr) (c : Nat) (w : World) :
    Calls Tryz.prog 171 #[tmVal t A c] w fun e w' => e = .returned (.bool (decide (t.s.size = 0 ∧ t.l.length = 0))) ∧ Ext w w' := by
  have h0 := size_nil t.s
  unfold tmVal
  by_cases h1 : t.s.size = 0
  · rw [decide_eq_true h1] at h0
    go_enter Tryz.func171, Tryz.ntmps171
    go_wp2_with fail
    all_goals
      go_ret
      exact ⟨ret_boolP (by simp [h1]), ext_box _ _⟩
  · rw [decide_eq_false h1] at h0
    go_enter Tryz.func171, Tryz.ntmps171
    go_wp2_with fail
    all_goals
      go_ret
      exact ⟨ret_boolP (by simp [h1]), ext_box _ _⟩

set_option maxRecDepth 100000 in
set_option maxHeartbeats 4000000 in
theorem part_any (t : Tm) (A : Option Addr) (c : Nat) (w : World) :
    Calls Tryz.prog 146 #[tmVal t A c] w fun e w' => e = .returned (.bool (partK t.k t.n t.s t.l.length)) ∧ Ext w w' := by
  unfold tmVal
  have hB := fun W => Lib.hid (bare_any t A c W)
  unfold tmVal at hB
  generalize t.l.length = m at *
  generalize t.s = s at *
  generalize t.n = n at *
  generalize t.k = k at *
  by_cases hn : n = 0
  · subst hn
    by_cases hz : (s.size : Int) ≤ 64
    · by_cases k1 : k = 1
      · subst k1
        go_enter Tryz.func146, Tryz.ntmps146
        go_wp2_with (go_at_call 171; refine (hB _).out.mono ?_; rintro e W1 ⟨rfl, hx⟩; have HX := Lib.hid ((ext_box w _).trans hx); clear hx)
        go_ret
        refine ⟨ret_boolP (by first | (simp [partK]; done) | (simp [partK]; omega) | (simp [partK, c1, c2]; done)), ?_⟩
        first | exact HX.out | exact ext_box _ _
      by_cases k2 : k = 2
      · subst k2
        go_enter Tryz.func146, Tryz.ntmps146
        go_wp2_with (go_at_call 171; refine (hB _).out.mono ?_; rintro e W1 ⟨rfl, hx⟩; have HX := Lib.hid ((ext_box w _).trans hx); clear hx)
        go_ret
        refine ⟨ret_boolP (by first | (simp [partK]; done) | (simp [partK]; omega) | (simp [partK, c1, c2]; done)), ?_⟩
        first | exact HX.out | exact ext_box _ _
      by_cases k3 : k = 3
      · subst k3
        by_cases c1 : m = 0
        · go_enter Tryz.func146, Tryz.ntmps146
          go_wp2_with fail
          go_ret
          refine ⟨ret_boolP (by first | (simp [partK]; done) | (simp [partK]; omega) | (simp [partK, c1, c2]; done)), ?_⟩
          first | exact HX.out | exact ext_box _ _
        · go_enter Tryz.func146, Tryz.ntmps146
          go_wp2_with fail
          go_ret
          refine ⟨ret_boolP (by first | (simp [partK]; done) | (simp [partK]; omega) | (simp [partK, c1, c2]; done)), ?_⟩
          first | exact HX.out | exact ext_box _ _
      by_cases k4 : k = 4
      · subst k4
        by_cases c1 : 1 ≤ (m : Int)
        · by_cases c2 : (m : Int) ≤ 16
          · go_enter Tryz.func146, Tryz.ntmps146
            go_wp2_with fail
            go_ret
            refine ⟨ret_boolP (by first | (simp [partK]; done) | (simp [partK]; omega) | (simp [partK, c1, c2]; done)), ?_⟩
            first | exact HX.out | exact ext_box _ _
          · go_enter Tryz.func146, Tryz.ntmps146
            go_wp2_with fail
            go_ret
            refine ⟨ret_boolP (by first | (simp [partK]; done) | (simp [partK]; omega) | (simp [partK, c1, c2]; done)), ?_⟩
            first | exact HX.out | exact ext_box _ _
        · go_enter Tryz.func146, Tryz.ntmps146
          go_wp2_with fail
          go_ret
          refine ⟨ret_boolP (by first | (simp [partK]; done) | (simp [partK]; omega) | (simp [partK, c1, c2]; done)), ?_⟩
          first | exact HX.out | exact ext_box _ _
      have q1 : (k == 1) = false := by simpa using k1
      have q2 : (k == 2) = false := by simpa using k2
      have q3 : (k == 3) = false := by simpa using k3
      have q4 : (k == 4) = false := by simpa using k4
      go_enter Tryz.func146, Tryz.ntmps146
      go_wp2_with fail
      go_ret
      refine ⟨ret_boolP (by simp [partK, k1, k2, k3, k4]), ?_⟩
      exact ext_box _ _
    · by_cases k1 : k = 1
      · subst k1
        go_enter Tryz.func146, Tryz.ntmps146
        go_wp2_with (go_at_call 171; refine (hB _).out.mono ?_; rintro e W1 ⟨rfl, hx⟩; have HX := Lib.hid ((ext_box w _).trans hx); clear hx)
        go_ret
        refine ⟨ret_boolP (by first | (simp [partK]; done) | (simp [partK]; omega) | (simp [partK, c1, c2]; done)), ?_⟩
        first | exact HX.out | exact ext_box _ _
      by_cases k2 : k = 2
      · subst k2
        go_enter Tryz.func146, Tryz.ntmps146
        go_wp2_with (go_at_call 171; refine (hB _).out.mono ?_; rintro e W1 ⟨rfl, hx⟩; have HX := Lib.hid ((ext_box w _).trans hx); clear hx)
        go_ret
        refine ⟨ret_boolP (by first | (simp [partK]; done) | (simp [partK]; omega) | (simp [partK, c1, c2]; done)), ?_⟩
        first | exact HX.out | exact ext_box _ _
      by_cases k3 : k = 3
      · subst k3
        go_enter Tryz.func146, Tryz.ntmps146
        go_wp2_with fail
        go_ret
        refine ⟨ret_boolP (by first | (simp [partK]; done) | (simp [partK]; omega) | (simp [partK, c1, c2]; done)), ?_⟩
        first | exact HX.out | exact ext_box _ _
      by_cases k4 : k = 4
      · subst k4
        go_enter Tryz.func146, Tryz.ntmps146
        go_wp2_with fail
        go_ret
        refine ⟨ret_boolP (by first | (simp [partK]; done) | (simp [partK]; omega) | (simp [partK, c1, c2]; done)), ?_⟩
        first | exact HX.out | exact ext_box _ _
      have q1 : (k == 1) = false := by simpa using k1
      have q2 : (k == 2) = false := by simpa using k2
      have q3 : (k == 3) = false := by simpa using k3
      have q4 : (k == 4) = false := by simpa using k4
      go_enter Tryz.func146, Tryz.ntmps146
      go_wp2_with fail
      go_ret
      refine ⟨ret_boolP (by simp [partK, k1, k2, k3, k4]), ?_⟩
      exact ext_box _ _
  · have hn2 : (n == 0) = false := by simpa using hn
    by_cases k1 : k = 1
    · subst k1
      by_cases c1 : 0 ≤ n
      · by_cases c2 : n < 1073741824
        · go_enter Tryz.func146, Tryz.ntmps146
          go_wp2_with (go_at_call 171; refine (hB _).out.mono ?_; rintro e W1 ⟨rfl, hx⟩; have HX := Lib.hid ((ext_box w _).trans hx); clear hx)
          go_ret
          refine ⟨ret_boolP (by first | (simp [partK]; done) | (simp [partK]; omega) | (simp [partK, c1, c2]; done)), ?_⟩
          first | exact HX.out | exact ext_box _ _
        · go_enter Tryz.func146, Tryz.ntmps146
          go_wp2_with (go_at_call 171; refine (hB _).out.mono ?_; rintro e W1 ⟨rfl, hx⟩; have HX := Lib.hid ((ext_box w _).trans hx); clear hx)
          go_ret
          refine ⟨ret_boolP (by first | (simp [partK]; done) | (simp [partK]; omega) | (simp [partK, c1, c2]; done)), ?_⟩
          first | exact HX.out | exact ext_box _ _
      · go_enter Tryz.func146, Tryz.ntmps146
        go_wp2_with (go_at_call 171; refine (hB _).out.mono ?_; rintro e W1 ⟨rfl, hx⟩; have HX := Lib.hid ((ext_box w _).trans hx); clear hx)
        go_ret
        refine ⟨ret_boolP (by first | (simp [partK]; done) | (simp [partK]; omega) | (simp [partK, c1, c2]; done)), ?_⟩
        first | exact HX.out | exact ext_box _ _
    by_cases k2 : k = 2
    · subst k2
      by_cases c1 : -9007199254740991 ≤ n
      · by_cases c2 : n ≤ 9007199254740991
        · go_enter Tryz.func146, Tryz.ntmps146
          go_wp2_with (go_at_call 171; refine (hB _).out.mono ?_; rintro e W1 ⟨rfl, hx⟩; have HX := Lib.hid ((ext_box w _).trans hx); clear hx)
          go_ret
          refine ⟨ret_boolP (by first | (simp [partK]; done) | (simp [partK]; omega) | (simp [partK, c1, c2]; done)), ?_⟩
          first | exact HX.out | exact ext_box _ _
        · go_enter Tryz.func146, Tryz.ntmps146
          go_wp2_with (go_at_call 171; refine (hB _).out.mono ?_; rintro e W1 ⟨rfl, hx⟩; have HX := Lib.hid ((ext_box w _).trans hx); clear hx)
          go_ret
          refine ⟨ret_boolP (by first | (simp [partK]; done) | (simp [partK]; omega) | (simp [partK, c1, c2]; done)), ?_⟩
          first | exact HX.out | exact ext_box _ _
      · go_enter Tryz.func146, Tryz.ntmps146
        go_wp2_with (go_at_call 171; refine (hB _).out.mono ?_; rintro e W1 ⟨rfl, hx⟩; have HX := Lib.hid ((ext_box w _).trans hx); clear hx)
        go_ret
        refine ⟨ret_boolP (by first | (simp [partK]; done) | (simp [partK]; omega) | (simp [partK, c1, c2]; done)), ?_⟩
        first | exact HX.out | exact ext_box _ _
    by_cases k3 : k = 3
    · subst k3
      go_enter Tryz.func146, Tryz.ntmps146
      go_wp2_with fail
      go_ret
      refine ⟨ret_boolP (by first | (simp [partK]; done) | (simp [partK]; omega) | (simp [partK, c1, c2]; done)), ?_⟩
      first | exact HX.out | exact ext_box _ _
    by_cases k4 : k = 4
    · subst k4
      go_enter Tryz.func146, Tryz.ntmps146
      go_wp2_with fail
      go_ret
      refine ⟨ret_boolP (by first | (simp [partK]; done) | (simp [partK]; omega) | (simp [partK, c1, c2]; done)), ?_⟩
      first | exact HX.out | exact ext_box _ _
    have q1 : (k == 1) = false := by simpa using k1
    have q2 : (k == 2) = false := by simpa using k2
    have q3 : (k == 3) = false := by simpa using k3
    have q4 : (k == 4) = false := by simpa using k4
    go_enter Tryz.func146, Tryz.ntmps146
    go_wp2_with fail
    go_ret
    refine ⟨ret_boolP (by simp [partK, k1, k2, k3, k4]), ?_⟩
    exact ext_box _ _

end Go.Proofs.YtgcdhffeacdegaaGreatDoor
