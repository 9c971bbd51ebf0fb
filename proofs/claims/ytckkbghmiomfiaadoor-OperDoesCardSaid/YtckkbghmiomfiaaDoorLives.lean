/- Layer 9: lives. -/
import Derived.Test.YtckkbghmiomfiaaDoorOper17
namespace Go.Proofs.YtckkbghmiomfiaaDoor
open Go.RowKit Go.El Go.Proofs

/-- What stays true in lives: all that was there is as it was, the table is at its place. -/
structure LvAt (w W : World) (tb m1 m2 : Nat) (I Q : List OpV) : Prop where
  ext : Ext w W
  types : TypesAt 0 W
  tab : TabAt W tb m1 m2 I Q
  b0 : w.heap.size ≤ tb
  b1 : w.heap.size ≤ m1
  b2 : w.heap.size ≤ m2
theorem LvAt.go {w W W' : World} {tb m1 m2 : Nat} {I Q : List OpV} (h : LvAt w W tb m1 m2 I Q) (k : Ext W W') : LvAt w W' tb m1 m2 I Q :=
  ⟨h.ext.trans k, h.types.ext k, h.tab.ext k, h.b0, h.b1, h.b2⟩
theorem types_ne {g m : Nat} {w : World} {α : Type} {kv : α → Value} {ps : List (α × Value)} (h : TypesAt g w) (k : MapAt kv w m ps) : g ≠ m := k.ne_cell h.h0
theorem LvAt.set_ {w W W' : World} {tb m1 m2 : Nat} {I Q I' Q' : List OpV} (h : LvAt w W tb m1 m2 I Q) (k : Mods [m1, m2] W W') (t : TabAt W' tb m1 m2 I' Q') : LvAt w W' tb m1 m2 I' Q' :=
  ⟨(Mods.step (S := []) (Mods.ext h.ext) k (fun x hx => .inr (by
      simp at hx
      rcases hx with rfl | rfl
      · exact h.b1
      · exact h.b2))).toExt (by simp),
    h.types.mods k (by
      have n1 := types_ne h.types h.tab.mi
      have n2 := types_ne h.types h.tab.mq
      simp [n1, n2]), t, h.b0, h.b1, h.b2⟩

/-- All cells are as they were. -/
structure Kept (w w' : World) : Prop where
  cell : ∀ {p v}, w.cell? p = some v → w'.cell? p = some v
theorem kept_set {W W' : World} {tb m1 m2 : Nat} {I Q : List OpV} (h : TabAt W tb m1 m2 I Q) (k : Mods [m1, m2] W W') : Kept W W' :=
  ⟨fun hc => k.cell hc (by
    have n1 := h.mi.ne_cell hc
    have n2 := h.mq.ne_cell hc
    simp [n1, n2])⟩

def lvI : List OpV := setO ⟨300, 2, ⟨#[42, 42]⟩⟩ initI
theorem lv_next : nextI ⟨300, 2, ⟨#[42, 42]⟩⟩ initI initQ = lvI ∧ nextQ ⟨300, 2, ⟨#[42, 42]⟩⟩ initI initQ = initQ ∧ errT ⟨300, 2, ⟨#[42, 42]⟩⟩ initI initQ = 0 := by decide +kernel
theorem lv_next2 : nextI ⟨300, 2, ⟨#[44]⟩⟩ lvI initQ = lvI ∧ nextQ ⟨300, 2, ⟨#[44]⟩⟩ lvI initQ = initQ ∧ errT ⟨300, 2, ⟨#[44]⟩⟩ lvI initQ = 90 := by decide +kernel
theorem lv_len : (lvI ++ initQ).length = 32 := by decide +kernel
theorem lv_plus : findO ⟨#[43]⟩ initI = some ⟨500, 3, ⟨#[43]⟩⟩ := by decide +kernel
theorem lv_minus : findO ⟨#[45]⟩ initQ = some ⟨200, 4, ⟨#[45]⟩⟩ := by decide +kernel
theorem lv_stars : findO ⟨#[42, 42]⟩ lvI = some ⟨300, 2, ⟨#[42, 42]⟩⟩ := by decide +kernel
theorem lv_mod : ((findO ⟨#[109, 111, 100]⟩ lvI).isSome || (findO ⟨#[109, 111, 100]⟩ initQ).isSome) = true := by decide +kernel
theorem lv_foo : ((findO ⟨#[102, 111, 111]⟩ lvI).isSome || (findO ⟨#[102, 111, 111]⟩ initQ).isSome) = false := by decide +kernel
theorem lv_max : initI.length + initQ.length ≤ 1000 ∧ lvI.length + initQ.length ≤ 1000 ∧ lvI.length ≤ 1000 ∧ initQ.length ≤ 1000 := by decide +kernel

theorem lvNew (w : World) (hT : TypesAt 0 w) :
    Calls Tryd.prog 8 #[] w fun e w' => ∃ tb m1 m2, e = .returned (.pointer (some ⟨tb, 0, none⟩)) ∧ LvAt w w' tb m1 m2 initI initQ :=
  (pNew_any w).mono fun _ _ ⟨tb, m1, m2, e, h1, h2, h3, h4, h5⟩ => ⟨tb, m1, m2, e, h5, hT.ext h5, h4, h1, h2, h3⟩
theorem lvInfix {w W : World} {tb m1 m2 : Nat} {I Q : List OpV} (h : LvAt w W tb m1 m2 I Q) (s : ByteArray) (o : OpV) (ho : findO s I = some o) :
    Calls Tryd.prog 25 #[.pointer (some ⟨tb, 0, none⟩), .string s] W fun e w' => e = .returned (.tuple #[.agg #[.int .i64 o.p, .int .i64 o.t, .string o.s], .bool true]) ∧ Ext W w' :=
  (infix_any tb m1 m2 I Q s W h.tab).mono fun _ _ ⟨e, h1⟩ => ⟨by rw [e, ho]; rfl, h1⟩
theorem lvPrefix {w W : World} {tb m1 m2 : Nat} {I Q : List OpV} (h : LvAt w W tb m1 m2 I Q) (s : ByteArray) (o : OpV) (ho : findO s Q = some o) :
    Calls Tryd.prog 26 #[.pointer (some ⟨tb, 0, none⟩), .string s] W fun e w' => e = .returned (.tuple #[.agg #[.int .i64 o.p, .int .i64 o.t, .string o.s], .bool true]) ∧ Ext W w' :=
  (prefix_any tb m1 m2 I Q s W h.tab).mono fun _ _ ⟨e, h1⟩ => ⟨by rw [e, ho]; rfl, h1⟩
theorem lvSet {w W : World} {tb m1 m2 : Nat} {I Q : List OpV} (h : LvAt w W tb m1 m2 I Q) (p t : Int) (s : ByteArray) (I' Q' : List OpV) (n : Int) (hmax : I.length + Q.length ≤ 1000) (hn : nextI ⟨p, t, s⟩ I Q = I' ∧ nextQ ⟨p, t, s⟩ I Q = Q' ∧ errT ⟨p, t, s⟩ I Q = n) :
    Calls Tryd.prog 24 #[.pointer (some ⟨tb, 0, none⟩), .agg #[.int .i64 p, .int .i64 t, .string s]] W fun e w' => e = .returned (.int .i64 n) ∧ LvAt w w' tb m1 m2 I' Q' ∧ Kept W w' :=
  (pSet_any tb m1 m2 ⟨p, t, s⟩ I Q W h.types h.tab hmax).mono fun _ _ ⟨e, h1, h2⟩ => by
    obtain ⟨e1, e2, e3⟩ := hn
    rw [e1, e2] at h1
    exact ⟨by rw [e, e3], h.set_ h2 h1, kept_set h.tab h2⟩
theorem lvIs {w W : World} {tb m1 m2 : Nat} {I Q : List OpV} (h : LvAt w W tb m1 m2 I Q) (s : ByteArray) (b : Bool) (hb : ((findO s I).isSome || (findO s Q).isSome) = b) :
    Calls Tryd.prog 16 #[.pointer (some ⟨tb, 0, none⟩), .string s] W fun e w' => e = .returned (.bool b) ∧ Ext W w' :=
  (is_any tb m1 m2 I Q s W h.tab).mono fun _ _ ⟨e, h1⟩ => ⟨by rw [e, hb], h1⟩
theorem lvAll {w W : World} {tb m1 m2 : Nat} {I Q : List OpV} (h : LvAt w W tb m1 m2 I Q) (n : Nat) (hn : (I ++ Q).length = n) (h1 : I.length ≤ 1000) (h2 : Q.length ≤ 1000) :
    Calls Tryd.prog 12 #[.pointer (some ⟨tb, 0, none⟩)] W fun e w' => ∃ A c, e = .returned (.slice A n c) ∧ Ext W w' :=
  (pAll_any tb m1 m2 I Q W h.tab h1 h2).mono fun _ _ ⟨v, M, e, p, _, o, _, x⟩ => by
    obtain ⟨A, c, rfl⟩ := own_value o
    exact ⟨A, c, by rw [e, p.length_eq, hn], x⟩
theorem lvFork {w W : World} {tb m1 m2 : Nat} {I Q : List OpV} (h : LvAt w W tb m1 m2 I Q) :
    Calls Tryd.prog 27 #[.pointer (some ⟨tb, 0, none⟩)] W fun e w' => ∃ fb, e = .returned (.pointer (some ⟨fb, 0, none⟩)) ∧ Ext W w' :=
  (pFork_any tb m1 m2 I Q W h.tab).mono fun _ _ ⟨fb, _, _, e, _, _, _, _, x⟩ => ⟨fb, e, x⟩

theorem lvLeft {w W : World} {tb m1 m2 : Nat} {I Q : List OpV} (h : LvAt w W tb m1 m2 I Q) (p t n : Int) (s : ByteArray) (hn : leftI p t = n) :
    Calls Tryd.prog 18 #[.agg #[.int .i64 p, .int .i64 t, .string s]] W fun e w' => e = .returned (.int .i64 n) ∧ Ext W w' :=
  (pLeft_any p t s W h.types).mono fun _ _ ⟨e, x⟩ => ⟨by rw [e, hn], x⟩
theorem lvRight {w W : World} {tb m1 m2 : Nat} {I Q : List OpV} (h : LvAt w W tb m1 m2 I Q) (p t n : Int) (s : ByteArray) (hn : rightI p t = n) :
    Calls Tryd.prog 20 #[.agg #[.int .i64 p, .int .i64 t, .string s]] W fun e w' => e = .returned (.int .i64 n) ∧ Ext W w' :=
  (pRight_any p t s W h.types).mono fun _ _ ⟨e, x⟩ => ⟨by rw [e, hn], x⟩
theorem lvTypeName {w W : World} {tb m1 m2 : Nat} {I Q : List OpV} (h : LvAt w W tb m1 m2 I Q) (n : Int) (s : ByteArray) (hn : tnameS n = s) :
    Calls Tryd.prog 22 #[.int .i64 n] W fun e w' => e = .returned (.string s) ∧ W = w' :=
  (pTypeName_any n W h.types).mono fun _ _ ⟨e, x⟩ => ⟨by rw [e, hn], x⟩
theorem lvTypeOf {w W : World} {tb m1 m2 : Nat} {I Q : List OpV} (h : LvAt w W tb m1 m2 I Q) (s : ByteArray) (n : Int) (hn : typeOfI s = n) :
    Calls Tryd.prog 23 #[.string s] W fun e w' => e = .returned (.int .i64 n) ∧ W = w' :=
  (typeOf_any s W h.types).mono fun _ _ ⟨e, x⟩ => ⟨by rw [e, hn], x⟩
theorem lv_left : leftI 500 3 = 500 := by decide +kernel
theorem lv_right : rightI 500 3 = 499 := by decide +kernel
theorem lv_yfx : tnameS 3 = ⟨#[121, 102, 120]⟩ := by decide +kernel
theorem lv_fy : typeOfI ⟨#[102, 121]⟩ = 4 := by decide +kernel
theorem lv_yf : typeOfI ⟨#[121, 102]⟩ = 0 := by decide +kernel

set_option maxRecDepth 100000 in
set_option maxHeartbeats 4000000 in
theorem lives_any (w : World) (hT : TypesAt 0 w) : Calls Tryd.prog 10 #[] w fun e w' => e = .returned (.bool true) ∧ Ext w w' := by
  have HT := Lib.hid hT
  clear hT
  go_enter Tryd.func10, Tryd.ntmps10
  go_upto_region 4 with (go_at_call 8; refine (lvNew _ HT.out).mono ?_; rintro e W ⟨tb, m1, m2, rfl, L0⟩)
  go_upto_region 5 with (go_at_call 25; refine (lvInfix L0 _ _ lv_plus).mono ?_; rintro e W1 ⟨rfl, x1⟩)
  refine wp_abs (fun V => LvAt w V tb m1 m2 initI initQ ∧ V.cell? ⟨W1.heap.size, 0, none⟩ = some (.int .i64 500) ∧ V.cell? ⟨W1.heap.size, 1, none⟩ = some (.int .i64 3) ∧ V.cell? ⟨W1.heap.size, 2, none⟩ = some (.string ⟨#[43]⟩)) ⟨(L0.go x1).go (ext_box _ _), new_cell (Ext.refl _) 0, new_cell (Ext.refl _) 1, new_cell (Ext.refl _) 2⟩ ?_
  clear x1 L0
  rintro V ⟨L0, a0, a1, a2⟩
  go_upto_region 6 with (go_at_call 26; refine (lvPrefix L0 _ _ lv_minus).mono ?_; rintro e W2 ⟨rfl, x1⟩)
  refine wp_abs (fun V => LvAt w V tb m1 m2 initI initQ ∧ V.cell? ⟨W2.heap.size, 0, none⟩ = some (.int .i64 200) ∧ V.cell? ⟨W1.heap.size, 0, none⟩ = some (.int .i64 500) ∧ V.cell? ⟨W1.heap.size, 1, none⟩ = some (.int .i64 3) ∧ V.cell? ⟨W1.heap.size, 2, none⟩ = some (.string ⟨#[43]⟩)) ⟨(L0.go x1).go (ext_box _ _), new_cell (Ext.refl _) 0, (x1.trans (ext_box _ _)).cell a0, (x1.trans (ext_box _ _)).cell a1, (x1.trans (ext_box _ _)).cell a2⟩ ?_
  clear x1 L0 a0 a1 a2
  rintro V2 ⟨L0, c0, a0, a1, a2⟩
  go_upto_region 7 with (go_at_call 24; refine (lvSet L0 _ _ _ _ _ _ lv_max.1 lv_next).mono ?_; rintro e V3 ⟨rfl, L1, k1⟩)
  refine wp_abs (fun V => LvAt w V tb m1 m2 lvI initQ ∧ V.cell? ⟨W2.heap.size, 0, none⟩ = some (.int .i64 200) ∧ V.cell? ⟨W1.heap.size, 0, none⟩ = some (.int .i64 500) ∧ V.cell? ⟨W1.heap.size, 1, none⟩ = some (.int .i64 3) ∧ V.cell? ⟨W1.heap.size, 2, none⟩ = some (.string ⟨#[43]⟩)) ⟨L1, k1.cell c0, k1.cell a0, k1.cell a1, k1.cell a2⟩ ?_
  clear L0 L1 k1 c0 a0 a1 a2
  rintro V4 ⟨L0, c0, a0, a1, a2⟩
  go_upto_region 8 with (go_at_call 24; refine (lvSet L0 _ _ _ _ _ _ lv_max.2.1 lv_next2).mono ?_; rintro e V5 ⟨rfl, L1, k1⟩)
  refine wp_abs (fun V => LvAt w V tb m1 m2 lvI initQ ∧ V.cell? ⟨W2.heap.size, 0, none⟩ = some (.int .i64 200) ∧ V.cell? ⟨W1.heap.size, 0, none⟩ = some (.int .i64 500) ∧ V.cell? ⟨W1.heap.size, 1, none⟩ = some (.int .i64 3) ∧ V.cell? ⟨W1.heap.size, 2, none⟩ = some (.string ⟨#[43]⟩)) ⟨L1, k1.cell c0, k1.cell a0, k1.cell a1, k1.cell a2⟩ ?_
  clear L0 L1 k1 c0 a0 a1 a2
  rintro V6 ⟨L0, c0, a0, a1, a2⟩
  go_upto_region 9 with (go_at_call 25; refine (lvInfix L0 _ _ lv_stars).mono ?_; rintro e W3 ⟨rfl, x1⟩)
  refine wp_abs (fun V => LvAt w V tb m1 m2 lvI initQ ∧ V.cell? ⟨W3.heap.size, 0, none⟩ = some (.int .i64 300) ∧ V.cell? ⟨W2.heap.size, 0, none⟩ = some (.int .i64 200) ∧ V.cell? ⟨W1.heap.size, 0, none⟩ = some (.int .i64 500) ∧ V.cell? ⟨W1.heap.size, 1, none⟩ = some (.int .i64 3) ∧ V.cell? ⟨W1.heap.size, 2, none⟩ = some (.string ⟨#[43]⟩)) ⟨(L0.go x1).go (ext_box _ _), new_cell (Ext.refl _) 0, (x1.trans (ext_box _ _)).cell c0, (x1.trans (ext_box _ _)).cell a0, (x1.trans (ext_box _ _)).cell a1, (x1.trans (ext_box _ _)).cell a2⟩ ?_
  clear x1 L0 c0 a0 a1 a2
  rintro V7 ⟨L0, b0, c0, a0, a1, a2⟩
  go_wp2_with (first | (go_at_call 18; refine (lvLeft L0 _ _ _ _ lv_left).mono ?_; rintro e W4 ⟨rfl, x⟩; replace L0 := L0.go x; replace a0 := x.cell a0; replace a1 := x.cell a1; replace a2 := x.cell a2; clear x) | (go_at_call 20; refine (lvRight L0 _ _ _ _ lv_right).mono ?_; rintro e W5 ⟨rfl, x⟩; replace L0 := L0.go x; clear a0 a1 a2 x) | (go_at_call 22; refine (lvTypeName L0 _ _ lv_yfx).mono ?_; rintro e w' ⟨rfl, rfl⟩) | (go_at_call 23; with_reducible refine (lvTypeOf L0 _ _ lv_fy).mono ?_; rintro e w' ⟨rfl, rfl⟩) | (go_at_call 23; with_reducible refine (lvTypeOf L0 _ _ lv_yf).mono ?_; rintro e w' ⟨rfl, rfl⟩) | (go_at_call 16; with_reducible refine (lvIs L0 _ _ lv_mod).mono ?_; rintro e W6 ⟨rfl, x⟩; replace L0 := L0.go x; clear x) | (go_at_call 16; with_reducible refine (lvIs L0 _ _ lv_foo).mono ?_; rintro e W8 ⟨rfl, x⟩; replace L0 := L0.go x; clear x) | (go_at_call 12; refine (lvAll L0 _ lv_len lv_max.2.2.1 lv_max.2.2.2).mono ?_; rintro e W9 ⟨A, c, rfl, x⟩; replace L0 := L0.go x; clear x) | (go_at_call 27; refine (lvFork L0).mono ?_; rintro e W10 ⟨fb, rfl, x⟩; replace L0 := L0.go x; clear x))
  go_ret
  exact ⟨rfl, L0.ext⟩

end Go.Proofs.YtckkbghmiomfiaaDoor
