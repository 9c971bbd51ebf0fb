/- Layer 9: one call of both tables. -/
import Derived.Test.YtckkbghmiomfiaaDoorROper9
import Derived.Test.YtckkbghmiomfiaaDoorSets
import Derived.Test.YtckkbghmiomfiaaDoorBoth
import Derived.Test.YtckkbghmiomfiaaDoorOpen
namespace Go.Proofs.YtckkbghmiomfiaaDoor
open Go.RowKit Go.El Go.Proofs

/-- The program's table and the reference's, side by side. -/
structure TwoAt (w W : World) (tb m1 m2 rb : Nat) (v : Value) (I Q L : List OpV) : Prop where
  ext : Ext w W
  types : TypesAt 0 W
  tab : TabAt W tb m1 m2 I Q
  ref : RefAt 32 W rb v L
  g : 0 < w.heap.size
  b1 : w.heap.size ≤ m1
  b2 : w.heap.size ≤ m2
  b3 : w.heap.size ≤ rb
  b4 : ∀ b, v.ownBlock = some b → w.heap.size ≤ b
  n1 : tb ≠ rb
  n2 : ∀ b, v.ownBlock = some b → b ≠ tb

theorem own_ne_map {w : World} {e : TypeId} {size n : Nat} {v : Value} {xs : List Value} {α : Type} {kv : α → Value} {m : Nat} {ps : List (α × Value)} (h : w.ownsRow 0 e size v n xs) (k : MapAt kv w m ps) : ∀ b, v.ownBlock = some b → b ≠ m := by
  rintro b hb rfl
  obtain ⟨es, c, hk, _⟩ := k
  rcases h.2 with ⟨rfl, _⟩ | ⟨g, cap, cur, rfl, _, hh, _⟩
  · simp [Value.ownBlock] at hb
  · simp [Value.ownBlock] at hb
    subst hb
    rw [hk] at hh
    cases hh

variable {w W W' : World} {tb m1 m2 rb : Nat} {v : Value} {I Q L : List OpV}

theorem TwoAt.go (h : TwoAt w W tb m1 m2 rb v I Q L) (k : Ext W W') : TwoAt w W' tb m1 m2 rb v I Q L :=
  ⟨h.ext.trans k, h.types.ext k, h.tab.ext k, h.ref.ext k, h.g, h.b1, h.b2, h.b3, h.b4, h.n1, h.n2⟩

/-- Two maps are turned that are none of these. -/
theorem TwoAt.far (h : TwoAt w W tb m1 m2 rb v I Q L) {k1 k2 : Nat} {α : Type} {kv : α → Value} {p1 p2 : List (α × Value)} (a1 : MapAt kv W k1 p1) (a2 : MapAt kv W k2 p2) (c1 : w.heap.size ≤ k1) (c2 : w.heap.size ≤ k2)
    (ne : m1 ≠ k1 ∧ m1 ≠ k2 ∧ m2 ≠ k1 ∧ m2 ≠ k2) (k : Mods [k1, k2] W W') : TwoAt w W' tb m1 m2 rb v I Q L := by
  have ht1 := a1.ne_cell h.tab.c0
  have ht2 := a2.ne_cell h.tab.c0
  have hr1 := a1.ne_cell h.ref.cell
  have hr2 := a2.ne_cell h.ref.cell
  refine ⟨(Mods.step (S := []) (Mods.ext h.ext) k (fun x hx => .inr (by
      simp at hx
      rcases hx with rfl | rfl
      · exact c1
      · exact c2))).toExt (by simp), h.types.mods k (by have := h.g; simp; omega), h.tab.mods k (by simp [ht1, ht2]) (by simp [ne.1, ne.2.1]) (by simp [ne.2.2.1, ne.2.2.2]), h.ref.mods k (by simp [hr1, hr2]) (fun b hb => ?_), h.g, h.b1, h.b2, h.b3, h.b4, h.n1, h.n2⟩
  have e1 := own_ne_map h.ref.own a1 b hb
  have e2 := own_ne_map h.ref.own a2 b hb
  simp [e1, e2]

theorem TwoAt.setP (h : TwoAt w W tb m1 m2 rb v I Q L) {I' Q' : List OpV} (k : Mods [m1, m2] W W') (t : TabAt W' tb m1 m2 I' Q') : TwoAt w W' tb m1 m2 rb v I' Q' L := by
  have hr1 := h.tab.mi.ne_cell h.ref.cell
  have hr2 := h.tab.mq.ne_cell h.ref.cell
  refine ⟨(Mods.step (S := []) (Mods.ext h.ext) k (fun x hx => .inr (by
      simp at hx
      rcases hx with rfl | rfl
      · exact h.b1
      · exact h.b2))).toExt (by simp), h.types.mods k (by have := h.g; have := h.b1; have := h.b2; simp; omega), t, h.ref.mods k (by simp [hr1, hr2]) (fun b hb => ?_), h.g, h.b1, h.b2, h.b3, h.b4, h.n1, h.n2⟩
  have e1 := own_ne_map h.ref.own h.tab.mi b hb
  have e2 := own_ne_map h.ref.own h.tab.mq b hb
  simp [e1, e2]

theorem TwoAt.setR (h : TwoAt w W tb m1 m2 rb v I Q L) {v' : Value} {L' : List OpV} (k : Mods (rb :: ownL v) W W') (r : RefAt 32 W' rb v' L') (hb : ∀ b, v'.ownBlock = some b → v.ownBlock = some b ∨ W.heap.size ≤ b) : TwoAt w W' tb m1 m2 rb v' I Q L' := by
  have hr1 := h.tab.mi.ne_cell h.ref.cell
  have hr2 := h.tab.mq.ne_cell h.ref.cell
  have ht := cell_lt h.tab.c0
  have hsz := h.ext.size
  refine ⟨(Mods.step (S := []) (Mods.ext h.ext) k (fun x hx => .inr ?_)).toExt (by simp), h.types.mods k ?_, h.tab.mods k ?_ ?_ ?_, r, h.g, h.b1, h.b2, h.b3, fun b hb' => ?_, h.n1, fun b hb' => ?_⟩
  · rcases List.mem_cons.1 hx with rfl | hx
    · exact h.b3
    · exact h.b4 x (mem_ownL hx)
  · intro hx
    have hg := h.g
    rcases List.mem_cons.1 hx with hx | hx
    · have := h.b3; omega
    · have := h.b4 _ (mem_ownL hx); omega
  · intro hx
    rcases List.mem_cons.1 hx with hx | hx
    · exact h.n1 hx
    · exact h.n2 _ (mem_ownL hx) rfl
  · intro hx
    rcases List.mem_cons.1 hx with hx | hx
    · exact hr1 hx.symm
    · exact own_ne_map h.ref.own h.tab.mi _ (mem_ownL hx) rfl
  · intro hx
    rcases List.mem_cons.1 hx with hx | hx
    · exact hr2 hx.symm
    · exact own_ne_map h.ref.own h.tab.mq _ (mem_ownL hx) rfl
  · rcases hb b hb' with hb | hb
    · exact h.b4 b hb
    · omega
  · rcases hb b hb' with hb | hb
    · exact h.n2 b hb
    · simp at ht; omega

theorem twSetP (h : TwoAt w W tb m1 m2 rb v I Q L) (hi : Inv I Q) (p t : Int) (s : ByteArray) :
    Calls Tryd.prog 24 #[.pointer (some ⟨tb, 0, none⟩), .agg #[.int .i64 p, .int .i64 t, .string s]] W fun e w' => e = .returned (.int .i64 (errT ⟨p, t, s⟩ I Q)) ∧ TwoAt w w' tb m1 m2 rb v (nextI ⟨p, t, s⟩ I Q) (nextQ ⟨p, t, s⟩ I Q) L ∧ Kept W w' := by
  have hl := hi.len
  exact (pSet_any tb m1 m2 ⟨p, t, s⟩ I Q W h.types h.tab (by omega)).mono fun _ _ ⟨e, h1, h2⟩ => ⟨e, h.setP h2 h1, kept_set h.tab h2⟩
theorem twSetR (h : TwoAt w W tb m1 m2 rb v I Q L) (p t : Int) (s : ByteArray) (hs : s.size ≤ 9223372036854775807) (hL : L.length ≤ 1000) (n : Int) (hn : errR ⟨p, t, s⟩ L = n) :
    Calls Tryd.prog 41 #[.pointer (some ⟨rb, 0, none⟩), .agg #[.int .i64 p, .int .i64 t, .string s]] W fun e w' => e = .returned (.int .i64 n) ∧ ∃ v', TwoAt w w' tb m1 m2 rb v' I Q (nextR ⟨p, t, s⟩ L) ∧ Mods (rb :: ownL v) W w' :=
  (rSet_any rb v ⟨p, t, s⟩ L W h.ref hs hL).mono fun _ _ ⟨e, v', h1, h2, h3⟩ => ⟨by rw [e, hn], v', h.setR h2 h1 h3, h2⟩

def foundO (s : ByteArray) (l : List OpV) : OpV := (findO s l).getD zeroO
theorem twFind (h : TwoAt w W tb m1 m2 rb v I Q L) (hi : Inv I Q) (hp : (I ++ Q).Perm L) (s : ByteArray) (pre : Bool) :
    Calls Tryd.prog 15 #[.pointer (some ⟨rb, 0, none⟩), .string s, .bool pre] W fun e w' => e = .returned (.tuple #[.agg #[.int .i64 (foundO s (if pre then Q else I)).p, .int .i64 (foundO s (if pre then Q else I)).t, .string (foundO s (if pre then Q else I)).s], .bool (findO s (if pre then Q else I)).isSome]) ∧ Ext W w' :=
  (rFind_any rb v L s pre W h.ref).mono fun _ _ ⟨e, x⟩ => ⟨by
    have hf : findR s pre L = findO s (if pre then Q else I) := find_both hi hp s pre
    rw [e, hf]; rfl, x⟩
theorem twInfix (h : TwoAt w W tb m1 m2 rb v I Q L) (s : ByteArray) :
    Calls Tryd.prog 25 #[.pointer (some ⟨tb, 0, none⟩), .string s] W fun e w' => e = .returned (.tuple #[.agg #[.int .i64 (foundO s I).p, .int .i64 (foundO s I).t, .string (foundO s I).s], .bool (findO s I).isSome]) ∧ Ext W w' :=
  (infix_any tb m1 m2 I Q s W h.tab).mono fun _ _ ⟨e, x⟩ => ⟨by rw [e]; rfl, x⟩
theorem twPrefix (h : TwoAt w W tb m1 m2 rb v I Q L) (s : ByteArray) :
    Calls Tryd.prog 26 #[.pointer (some ⟨tb, 0, none⟩), .string s] W fun e w' => e = .returned (.tuple #[.agg #[.int .i64 (foundO s Q).p, .int .i64 (foundO s Q).t, .string (foundO s Q).s], .bool (findO s Q).isSome]) ∧ Ext W w' :=
  (prefix_any tb m1 m2 I Q s W h.tab).mono fun _ _ ⟨e, x⟩ => ⟨by rw [e]; rfl, x⟩

/-- What one call of both leaves. -/
def DoPost (w : World) (rb : Nat) (e : Ending) (w' : World) : Prop := ∃ (tb m1 m2 : Nat) (v : Value) (I Q L : List OpV), e = .returned (.tuple #[.pointer (some ⟨tb, 0, none⟩), .bool true]) ∧ TwoAt w w' tb m1 m2 rb v I Q L ∧ Inv I Q ∧ (I ++ Q).Perm L

/-- The box of a call. -/
structure BoxAt (W : World) (B : Nat) (k p t : Int) (s nm : ByteArray) : Prop where
  a0 : W.cell? ⟨B, 0, none⟩ = some (.int .i64 k)
  a1 : W.cell? ⟨B, 1, none⟩ = some (.int .i64 p)
  a2 : W.cell? ⟨B, 2, none⟩ = some (.int .i64 t)
  a3 : W.cell? ⟨B, 3, none⟩ = some (.string s)
  a4 : W.cell? ⟨B, 4, none⟩ = some (.string nm)
theorem BoxAt.kept {B : Nat} {k p t : Int} {s nm : ByteArray} (h : BoxAt W B k p t s nm) (x : Kept W W') : BoxAt W' B k p t s nm := ⟨x.cell h.a0, x.cell h.a1, x.cell h.a2, x.cell h.a3, x.cell h.a4⟩
theorem BoxAt.new (W : World) (ty : TypeId) (k p t : Int) (s nm : ByteArray) : BoxAt (W.alloc (.cells #[.int .i64 k, .int .i64 p, .int .i64 t, .string s, .string nm] ty)) W.heap.size k p t s nm := ⟨new_cell (Ext.refl _) 0, new_cell (Ext.refl _) 1, new_cell (Ext.refl _) 2, new_cell (Ext.refl _) 3, new_cell (Ext.refl _) 4⟩

set_option maxRecDepth 100000 in
set_option maxHeartbeats 4000000 in
theorem do_other (h : TwoAt w W tb m1 m2 rb v I Q L) (hi : Inv I Q) (hp : (I ++ Q).Perm L) (k p t : Int) (s nm : ByteArray) (k1 : (k == 1) = false) (k2 : (k == 2) = false) (k3 : (k == 3) = false) (k4 : (k == 4) = false) :
    Calls Tryd.prog 14 #[.pointer (some ⟨tb, 0, none⟩), .pointer (some ⟨rb, 0, none⟩), .agg #[.int .i64 k, .int .i64 p, .int .i64 t, .string s, .string nm]] W (DoPost w rb) := by
  have hx := h.go (ext_box W (.cells #[.int .i64 k, .int .i64 p, .int .i64 t, .string s, .string nm] 34))
  have HP := Lib.hid hp
  clear hp h
  go_enter Tryd.func14, Tryd.ntmps14
  go_wp2_with fail
  go_ret2
  exact ⟨tb, m1, m2, v, I, Q, L, rfl, hx, hi, HP.out⟩

set_option maxRecDepth 100000 in
set_option maxHeartbeats 4000000 in
theorem do_two (h : TwoAt w W tb m1 m2 rb v I Q L) (hi : Inv I Q) (hp : (I ++ Q).Perm L) (p t : Int) (s nm : ByteArray) :
    Calls Tryd.prog 14 #[.pointer (some ⟨tb, 0, none⟩), .pointer (some ⟨rb, 0, none⟩), .agg #[.int .i64 2, .int .i64 p, .int .i64 t, .string s, .string nm]] W (DoPost w rb) := by
  have hx := h.go (ext_box W (.cells #[.int .i64 2, .int .i64 p, .int .i64 t, .string s, .string nm] 34))
  have HP := Lib.hid hp
  clear hp h
  go_enter Tryd.func14, Tryd.ntmps14
  go_upto_region 5 with fail
  refine wp_abs (fun V => TwoAt w V tb m1 m2 rb v I Q L ∧ V.cell? ⟨W.heap.size, 4, none⟩ = some (.string nm)) ⟨hx, (BoxAt.new W _ 2 p t s nm).a4⟩ ?_
  clear hx
  rintro V ⟨hx, a4⟩
  go_upto_region 6 with (go_at_call 25; refine (twInfix hx _).mono ?_; rintro e V1 ⟨rfl, x1⟩)
  refine wp_abs (fun V => TwoAt w V tb m1 m2 rb v I Q L ∧ V.cell? ⟨W.heap.size, 4, none⟩ = some (.string nm) ∧ V.cell? ⟨V1.heap.size, 0, none⟩ = some (.int .i64 (foundO nm I).p) ∧ V.cell? ⟨V1.heap.size, 1, none⟩ = some (.int .i64 (foundO nm I).t) ∧ V.cell? ⟨V1.heap.size, 2, none⟩ = some (.string (foundO nm I).s)) ⟨(hx.go x1).go (ext_box _ _), (x1.trans (ext_box _ _)).cell a4, new_cell (Ext.refl _) 0, new_cell (Ext.refl _) 1, new_cell (Ext.refl _) 2⟩ ?_
  clear hx a4 x1
  rintro V2 ⟨hx, a4, d0, d1, d2⟩
  go_upto_region 7 with (go_at_call 15; refine (twFind hx hi HP.out _ false).mono ?_; rintro e V3 ⟨rfl, x1⟩; simp only [Bool.false_eq_true, if_false])
  refine wp_abs (fun V => TwoAt w V tb m1 m2 rb v I Q L ∧ V.cell? ⟨V3.heap.size, 0, none⟩ = some (.int .i64 (foundO nm I).p) ∧ V.cell? ⟨V3.heap.size, 1, none⟩ = some (.int .i64 (foundO nm I).t) ∧ V.cell? ⟨V3.heap.size, 2, none⟩ = some (.string (foundO nm I).s) ∧ V.cell? ⟨V1.heap.size, 0, none⟩ = some (.int .i64 (foundO nm I).p) ∧ V.cell? ⟨V1.heap.size, 1, none⟩ = some (.int .i64 (foundO nm I).t) ∧ V.cell? ⟨V1.heap.size, 2, none⟩ = some (.string (foundO nm I).s)) (have y := x1.trans (ext_box _ _); ⟨hx.go y, new_cell (Ext.refl _) 0, new_cell (Ext.refl _) 1, new_cell (Ext.refl _) 2, y.cell d0, y.cell d1, y.cell d2⟩) ?_
  clear hx a4 d0 d1 d2 x1
  rintro V4 ⟨hx, f0, f1, f2, d0, d1, d2⟩
  go_wp2_with fail
  go_ret2
  exact ⟨tb, m1, m2, v, I, Q, L, rfl, hx, hi, HP.out⟩

set_option maxRecDepth 100000 in
set_option maxHeartbeats 4000000 in
theorem do_three (h : TwoAt w W tb m1 m2 rb v I Q L) (hi : Inv I Q) (hp : (I ++ Q).Perm L) (p t : Int) (s nm : ByteArray) :
    Calls Tryd.prog 14 #[.pointer (some ⟨tb, 0, none⟩), .pointer (some ⟨rb, 0, none⟩), .agg #[.int .i64 3, .int .i64 p, .int .i64 t, .string s, .string nm]] W (DoPost w rb) := by
  have hx := h.go (ext_box W (.cells #[.int .i64 3, .int .i64 p, .int .i64 t, .string s, .string nm] 34))
  have HP := Lib.hid hp
  clear hp h
  go_enter Tryd.func14, Tryd.ntmps14
  go_upto_region 9 with fail
  refine wp_abs (fun V => TwoAt w V tb m1 m2 rb v I Q L ∧ V.cell? ⟨W.heap.size, 4, none⟩ = some (.string nm)) ⟨hx, (BoxAt.new W _ 3 p t s nm).a4⟩ ?_
  clear hx
  rintro V ⟨hx, a4⟩
  go_upto_region 10 with (go_at_call 26; refine (twPrefix hx _).mono ?_; rintro e V1 ⟨rfl, x1⟩)
  refine wp_abs (fun V => TwoAt w V tb m1 m2 rb v I Q L ∧ V.cell? ⟨W.heap.size, 4, none⟩ = some (.string nm) ∧ V.cell? ⟨V1.heap.size, 0, none⟩ = some (.int .i64 (foundO nm Q).p) ∧ V.cell? ⟨V1.heap.size, 1, none⟩ = some (.int .i64 (foundO nm Q).t) ∧ V.cell? ⟨V1.heap.size, 2, none⟩ = some (.string (foundO nm Q).s)) ⟨(hx.go x1).go (ext_box _ _), (x1.trans (ext_box _ _)).cell a4, new_cell (Ext.refl _) 0, new_cell (Ext.refl _) 1, new_cell (Ext.refl _) 2⟩ ?_
  clear hx a4 x1
  rintro V2 ⟨hx, a4, d0, d1, d2⟩
  go_upto_region 11 with (go_at_call 15; refine (twFind hx hi HP.out _ true).mono ?_; rintro e V3 ⟨rfl, x1⟩; simp only [if_true])
  refine wp_abs (fun V => TwoAt w V tb m1 m2 rb v I Q L ∧ V.cell? ⟨V3.heap.size, 0, none⟩ = some (.int .i64 (foundO nm Q).p) ∧ V.cell? ⟨V3.heap.size, 1, none⟩ = some (.int .i64 (foundO nm Q).t) ∧ V.cell? ⟨V3.heap.size, 2, none⟩ = some (.string (foundO nm Q).s) ∧ V.cell? ⟨V1.heap.size, 0, none⟩ = some (.int .i64 (foundO nm Q).p) ∧ V.cell? ⟨V1.heap.size, 1, none⟩ = some (.int .i64 (foundO nm Q).t) ∧ V.cell? ⟨V1.heap.size, 2, none⟩ = some (.string (foundO nm Q).s)) (have y := x1.trans (ext_box _ _); ⟨hx.go y, new_cell (Ext.refl _) 0, new_cell (Ext.refl _) 1, new_cell (Ext.refl _) 2, y.cell d0, y.cell d1, y.cell d2⟩) ?_
  clear hx a4 d0 d1 d2 x1
  rintro V4 ⟨hx, f0, f1, f2, d0, d1, d2⟩
  go_wp2_with fail
  go_ret2
  exact ⟨tb, m1, m2, v, I, Q, L, rfl, hx, hi, HP.out⟩

theorem twFork (h : TwoAt w W tb m1 m2 rb v I Q L) :
    Calls Tryd.prog 27 #[.pointer (some ⟨tb, 0, none⟩)] W fun e w' => ∃ fb n1 n2, e = .returned (.pointer (some ⟨fb, 0, none⟩)) ∧ TwoAt w w' fb n1 n2 rb v I Q L ∧ TwoAt w w' tb m1 m2 rb v I Q L ∧ Hid (n1 ≠ m1 ∧ n1 ≠ m2 ∧ n2 ≠ m1 ∧ n2 ≠ m2) :=
  (pFork_any tb m1 m2 I Q W h.tab).mono fun _ _ ⟨fb, n1, n2, e, g1, g2, g3, t, x⟩ => by
    have l1 := h.tab.mi.lt
    have l2 := h.tab.mq.lt
    have l3 : rb < W.heap.size := cell_lt h.ref.cell
    have y := h.ext.size
    exact ⟨fb, n1, n2, e, ⟨h.ext.trans x, h.types.ext x, t, h.ref.ext x, h.g, by omega, by omega, h.b3, h.b4, by omega, fun b hb => by have := own_lt h.ref.own hb; omega⟩, h.go x, by omega, by omega, by omega, by omega⟩
/-- The table that a fork came from is set; the fork stays. -/
theorem twSetOld {fb n1 n2 : Nat} {I0 Q0 : List OpV} (h : TwoAt w W fb n1 n2 rb v I Q L) (h0 : TwoAt w W tb m1 m2 rb v I0 Q0 L) (hi : Inv I0 Q0) (ne : n1 ≠ m1 ∧ n1 ≠ m2 ∧ n2 ≠ m1 ∧ n2 ≠ m2) (p t : Int) (s : ByteArray) :
    Calls Tryd.prog 24 #[.pointer (some ⟨tb, 0, none⟩), .agg #[.int .i64 p, .int .i64 t, .string s]] W fun e w' => (∃ n, e = .returned (.int .i64 n)) ∧ TwoAt w w' fb n1 n2 rb v I Q L ∧ ∃ I1 Q1, TwoAt w w' tb m1 m2 rb v I1 Q1 L ∧ Inv I1 Q1 := by
  have hl := hi.len
  exact (pSet_any tb m1 m2 ⟨p, t, s⟩ I0 Q0 W h0.types h0.tab (by omega)).mono fun _ _ ⟨e, h1, h2⟩ => ⟨⟨_, e⟩, h.far h0.tab.mi h0.tab.mq h0.b1 h0.b2 ne h2, _, _, h0.setP h2 h1, hi.next _⟩

set_option maxRecDepth 100000 in
set_option maxHeartbeats 4000000 in
theorem do_four (h : TwoAt w W tb m1 m2 rb v I Q L) (hi : Inv I Q) (hp : (I ++ Q).Perm L) (p t : Int) (s nm : ByteArray) :
    Calls Tryd.prog 14 #[.pointer (some ⟨tb, 0, none⟩), .pointer (some ⟨rb, 0, none⟩), .agg #[.int .i64 4, .int .i64 p, .int .i64 t, .string s, .string nm]] W (DoPost w rb) := by
  have hx := h.go (ext_box W (.cells #[.int .i64 4, .int .i64 p, .int .i64 t, .string s, .string nm] 34))
  have HP := Lib.hid hp
  have HI := Lib.hid hi
  clear hp h
  go_enter Tryd.func14, Tryd.ntmps14
  go_upto_region 14 with (go_at_call 27; refine (twFork hx).mono ?_; rintro e V1 ⟨fb, n1, n2, rfl, g, h0, HN⟩)
  go_upto_region 15 with (go_at_call 24; refine (twSetOld g h0 hi HN.out _ _ _).mono ?_; rintro e V2 ⟨⟨n, rfl⟩, g2, I1, Q1, h1, hi1⟩)
  go_upto_region 16 with (go_at_call 24; refine (twSetOld g2 h1 hi1 HN.out _ _ _).mono ?_; rintro e V3 ⟨⟨n3, rfl⟩, g3, I3, Q3, h3, hi3⟩)
  go_wp2_with fail
  go_ret2
  exact ⟨fb, n1, n2, v, I, Q, L, rfl, g3, HI.out, HP.out⟩

theorem box_keep {B : Nat} {p t : Int} {s : ByteArray} {a c : World} (k : Kept a c) (h : (a.cell? ⟨B, 1, none⟩ = some (.int .i64 p) ∧ a.cell? ⟨B, 2, none⟩ = some (.int .i64 t) ∧ a.cell? ⟨B, 3, none⟩ = some (.string s))) : (c.cell? ⟨B, 1, none⟩ = some (.int .i64 p) ∧ c.cell? ⟨B, 2, none⟩ = some (.int .i64 t) ∧ c.cell? ⟨B, 3, none⟩ = some (.string s)) := ⟨k.cell h.1, k.cell h.2.1, k.cell h.2.2⟩

theorem mods_box {B rb : Nat} {v : Value} {p t : Int} {s : ByteArray} {a c : World} (k : Mods (rb :: ownL v) a c) (hn : B ≠ rb ∧ ∀ b, v.ownBlock = some b → B ≠ b) (h : (a.cell? ⟨B, 1, none⟩ = some (.int .i64 p) ∧ a.cell? ⟨B, 2, none⟩ = some (.int .i64 t) ∧ a.cell? ⟨B, 3, none⟩ = some (.string s))) : (c.cell? ⟨B, 1, none⟩ = some (.int .i64 p) ∧ c.cell? ⟨B, 2, none⟩ = some (.int .i64 t) ∧ c.cell? ⟨B, 3, none⟩ = some (.string s)) := by
  have hb : B ∉ rb :: ownL v := fun hm => by
    rcases List.mem_cons.1 hm with hm | hm
    · exact hn.1 hm
    · exact hn.2 B (mem_ownL hm) rfl
  exact ⟨k.cell h.1 hb, k.cell h.2.1 hb, k.cell h.2.2 hb⟩

set_option maxRecDepth 100000 in
set_option maxHeartbeats 4000000 in
theorem do_one (h : TwoAt w W tb m1 m2 rb v I Q L) (hi : Inv I Q) (hp : (I ++ Q).Perm L) (p t : Int) (s nm : ByteArray) (hs : s.size ≤ 9223372036854775807) :
    Calls Tryd.prog 14 #[.pointer (some ⟨tb, 0, none⟩), .pointer (some ⟨rb, 0, none⟩), .agg #[.int .i64 1, .int .i64 p, .int .i64 t, .string s, .string nm]] W (DoPost w rb) := by
  have hx := h.go (ext_box W (.cells #[.int .i64 1, .int .i64 p, .int .i64 t, .string s, .string nm] 34))
  have hbk : Hid (W.heap.size ≠ rb ∧ ∀ b, v.ownBlock = some b → W.heap.size ≠ b) := ⟨by have := cell_lt h.ref.cell; simp at this; omega, fun b hb => by have := own_lt h.ref.own hb; omega⟩
  have hL : L.length ≤ 1000 := by rw [len_both hp]; have := hi.len; omega
  have HE := Lib.hid (err_both hi hp ⟨p, t, s⟩)
  have HNX := Lib.hid (next_both hi hp ⟨p, t, s⟩)
  have HI := Lib.hid hi
  clear hp h
  go_enter Tryd.func14, Tryd.ntmps14
  go_upto_region 3 with fail
  refine wp_abs (fun V => TwoAt w V tb m1 m2 rb v I Q L ∧ BoxAt V W.heap.size 1 p t s nm) ⟨hx, BoxAt.new W _ 1 p t s nm⟩ ?_
  clear hx
  rintro V ⟨hx, hb⟩
  have hS0 : V.cell? ⟨W.heap.size, 1, none⟩ = some (.int .i64 p) ∧ V.cell? ⟨W.heap.size, 2, none⟩ = some (.int .i64 t) ∧ V.cell? ⟨W.heap.size, 3, none⟩ = some (.string s) := ⟨hb.a1, hb.a2, hb.a3⟩
  have hS1 := box_keep (Kept.ext ((Ext.refl V).drew)) hS0
  have hp1 := twSetP (hx.go ((Ext.refl V).drew)) HI.out p t s
  clear hb hx hi
  generalize errT ⟨p, t, s⟩ I Q = er at HE hp1
  go_region_held3 (fun w' => w'.cell? ⟨W.heap.size, 1, none⟩ = some (.int .i64 p) ∧ w'.cell? ⟨W.heap.size, 2, none⟩ = some (.int .i64 t) ∧ w'.cell? ⟨W.heap.size, 3, none⟩ = some (.string s))
    (first | assumption | (exact box_keep (by assumption) (by assumption)))
    (first | (go_at_call 24; refine hp1.mono ?_; clear hp1; rintro e w3 ⟨rfl, hT3, k3⟩; have hS3 := box_keep k3 hS1) | (go_at_call 41; refine (twSetR hT3 p t s hs hL _ HE.out).mono ?_; rintro e w4 ⟨rfl, v', hT4, hm4⟩; have hS4 := mods_box hm4 hbk.out hS3))
  go_wp2_with fail
  go_ret2
  exact ⟨tb, m1, m2, v', _, _, _, rfl, hT4, HI.out.next _, HNX.out⟩

theorem do_any (h : TwoAt w W tb m1 m2 rb v I Q L) (hi : Inv I Q) (hp : (I ++ Q).Perm L) (c : CallV) (hs : c.o.s.size ≤ 9223372036854775807) :
    Calls Tryd.prog 14 #[.pointer (some ⟨tb, 0, none⟩), .pointer (some ⟨rb, 0, none⟩), .agg #[.int .i64 c.k, .int .i64 c.o.p, .int .i64 c.o.t, .string c.o.s, .string c.nm]] W (DoPost w rb) := by
  obtain ⟨k, ⟨p, t, s⟩, nm⟩ := c
  by_cases k1 : k = 1
  · subst k1; exact do_one h hi hp p t s nm hs
  by_cases k2 : k = 2
  · subst k2; exact do_two h hi hp p t s nm
  by_cases k3 : k = 3
  · subst k3; exact do_three h hi hp p t s nm
  by_cases k4 : k = 4
  · subst k4; exact do_four h hi hp p t s nm
  exact do_other h hi hp k p t s nm (by simpa using k1) (by simpa using k2) (by simpa using k3) (by simpa using k4)

end Go.Proofs.YtckkbghmiomfiaaDoor
