/- Layer 16: the tables that the calls read; Itoa, reg. -/
import Derived.Test.YtmnnhdegoapfcaaGreatDoorP02
import Derived.Test.YtmnnhdegoapfcaaGreatDoorP03
import Derived.Lib.AppendIntMem
import Derived.Lib.ItoaLen
import Derived.Test.YtmnnhdegoapfcaaGreatDoorP01
import Derived.Lib.SliceRun
namespace Go.Proofs.YtmnnhdegoapfcaaGreatDoor
open Go.RowKit Go.El
noncomputable def pwName : String := (Tryz.prog.globals[4]?).elim "" (·.name)
theorem pwNamed : Tryz.prog.globalNamed pwName = some 4 := by kernel_rfl
structure EnvT (w : World) : Prop where
 ops : OpTabAt w
 tz : TzAt w
 pw : Lib.TabIs Tryz.prog w pwName .u64 Lib.pow10Tab
theorem var_ext {w w' : World} {n : String} {g : Nat} (hg : Tryz.prog.globalNamed n = some g) (hm : Ext w w') {cs : Array Value} (h : w.var? Tryz.prog n = some cs) :
  w'.var? Tryz.prog n = some cs := by
 unfold World.var? at h ⊢
 simp only [hg, Option.bind_some] at h ⊢
 have hlt : g < w.heap.size := by
  rcases Nat.lt_or_ge g w.heap.size with h' | h'
  ·exact h'
  ·simp [Array.getElem?_eq_none h'] at h
 rw [hm.block g hlt]
 exact h
theorem EnvT.ext {w w' : World} (h : EnvT w) (x : Ext w w') : EnvT w' := ⟨h.ops.ext x, x.cell h.tz, var_ext pwNamed x h.pw⟩
theorem itoa_calls (n : Int) (h0 : -9223372036854775808 ≤ n) (h1 : n ≤ 9223372036854775807) (w : World) (he : EnvT w) :
  Calls Tryz.prog 70 #[.int .i64 n] w fun e w' => e = .returned (.string (strB (Lib.itoa n))) ∧ Ext w w' := by
 refine (Tryz.strconv_Itoa n h0 h1 w he.pw).mono ?_
 rintro e w' ⟨rfl, k, os, rfl⟩
 exact ⟨rfl, Lib.below_grow _ w (Nat.le_refl _) k os⟩
set_option maxRecDepth 100000 in
theorem reg_any (v : Int) (w : World) (he : EnvT w) (hv : -64 ≤ v) (hv2 : v ≤ 255) :
  Calls Tryz.prog 68 #[.int .i64 v] w fun e w' => e = .returned (.string (strB (regT v))) ∧ Ext w w' := by
 by_cases h : v < 0
 ·have HI := Lib.hid (itoa_calls (-v) (by omega) (by omega) w he)
  have HR : Hid (strB (regT v) = ⟨#[89]⟩ ++ strB (Lib.itoa (-v))) := by
   unfold regT
   rw [if_pos h]
   rfl
  have hbig : ¬ 9223372036854775807 < 1 + (strB (Lib.itoa (-v))).size := by
   rw [strB_size]
   have := Lib.itoa_length_le (-v) (by omega) (by omega)
   omega
  generalize strB (regT v) = r at *
  generalize strB (Lib.itoa (-v)) = q at *
  clear he
  go_enter Tryz.func68, Tryz.ntmps68
  go_wp2_with (go_at_call 70; refine HI.out.mono ?_; rintro e W1 ⟨rfl, hx⟩; have HX := Lib.hid hx; clear hx)
  go_ret
  exact ⟨by rw [HR.out]; rfl, HX.out⟩
 ·have HI := Lib.hid (itoa_calls v (by omega) (by omega) w he)
  have HR : Hid (strB (regT v) = ⟨#[88]⟩ ++ strB (Lib.itoa v)) := by
   unfold regT
   rw [if_neg h]
   rfl
  have hbig : ¬ 9223372036854775807 < 1 + (strB (Lib.itoa v)).size := by
   rw [strB_size]
   have := Lib.itoa_length_le v (by omega) (by omega)
   omega
  generalize strB (regT v) = r at *
  generalize strB (Lib.itoa v) = q at *
  clear he
  go_enter Tryz.func68, Tryz.ntmps68
  go_wp2_with (go_at_call 70; refine HI.out.mono ?_; rintro e W1 ⟨rfl, hx⟩; have HX := Lib.hid hx; clear hx)
  go_ret
  exact ⟨by rw [HR.out]; rfl, HX.out⟩
end Go.Proofs.YtmnnhdegoapfcaaGreatDoor

/- Layer 16: what is known ahead of an instruction, as it lies in memory. Over any program. -/
namespace Go.El
def bV (b : Bool) : Value := .bool b
def stTail (s : InSt) : List Value := [.int .i64 s.slots, .int .i64 s.uni, .int .i64 s.set, .int .i64 s.put, .bool s.calls, .bool s.ended]
def stList (s : InSt) : List Value := s.x.map bV ++ (s.y.map bV ++ stTail s)
structure StAt (w : World) (b : Nat) (ty : TypeId) (s : InSt) : Prop where
 blk : Blk w b ty (stList s).toArray
 lx : s.x.length = 256
 ly : s.y.length = 65
theorem getD_some {l : List Bool} {j : Nat} (h : j < l.length) : l[j]? = some (l.getD j false) := by
 rw [List.getD_eq_getElem?_getD, List.getElem?_eq_getElem h]
 rfl
theorem stX {s : InSt} (lx : s.x.length = 256) {j : Nat} (h : j < 256) : (stList s)[j]? = some (.bool (s.x.getD j false)) := by
 unfold stList
 rw [List.getElem?_append_left (by simp; omega), List.getElem?_map, getD_some (by omega)]
 rfl
theorem stY {s : InSt} (lx : s.x.length = 256) (ly : s.y.length = 65) {j : Nat} (h : j < 65) : (stList s)[256 + j]? = some (.bool (s.y.getD j false)) := by
 unfold stList
 rw [List.getElem?_append_right (by simp; omega), List.getElem?_append_left (by simp; omega), List.getElem?_map]
 have e : 256 + j - (s.x.map bV).length = j := by simp; omega
 rw [e, getD_some (by omega)]
 rfl
theorem stT {s : InSt} (lx : s.x.length = 256) (ly : s.y.length = 65) {j : Nat} : (stList s)[321 + j]? = (stTail s)[j]? := by
 unfold stList
 rw [List.getElem?_append_right (by simp; omega), List.getElem?_append_right (by simp; omega)]
 have e : 321 + j - (s.x.map bV).length - (s.y.map bV).length = j := by simp; omega
 rw [e]
section
variable {w w' : World} {b : Nat} {ty : TypeId} {s : InSt}
theorem StAt.x (h : StAt w b ty s) {j : Nat} (hj : j < 256) : w.cell? ⟨b, j, none⟩ = some (.bool (s.x.getD j false)) := by
 rw [h.blk.cell, List.getElem?_toArray, stX h.lx hj]
theorem StAt.y (h : StAt w b ty s) {j : Nat} (hj : j < 65) : w.cell? ⟨b, 256 + j, none⟩ = some (.bool (s.y.getD j false)) := by
 rw [h.blk.cell, List.getElem?_toArray, stY h.lx h.ly hj]
theorem StAt.t (h : StAt w b ty s) (j : Nat) : w.cell? ⟨b, 321 + j, none⟩ = (stTail s)[j]? := by
 rw [h.blk.cell, List.getElem?_toArray, stT h.lx h.ly]
theorem StAt.slots (h : StAt w b ty s) : w.cell? ⟨b, 321, none⟩ = some (.int .i64 s.slots) := h.t 0
theorem StAt.uni (h : StAt w b ty s) : w.cell? ⟨b, 322, none⟩ = some (.int .i64 s.uni) := h.t 1
theorem StAt.set (h : StAt w b ty s) : w.cell? ⟨b, 323, none⟩ = some (.int .i64 s.set) := h.t 2
theorem StAt.put (h : StAt w b ty s) : w.cell? ⟨b, 324, none⟩ = some (.int .i64 s.put) := h.t 3
theorem StAt.calls (h : StAt w b ty s) : w.cell? ⟨b, 325, none⟩ = some (.bool s.calls) := h.t 4
theorem StAt.ended (h : StAt w b ty s) : w.cell? ⟨b, 326, none⟩ = some (.bool s.ended) := h.t 5
theorem StAt.frozen (h : StAt w b ty s) (i : Nat) : w.frozen? ⟨b, i, none⟩ = false := h.blk.frozen i
theorem StAt.ext (h : StAt w b ty s) (x : Ext w w') : StAt w' b ty s := ⟨h.blk.ext x, h.lx, h.ly⟩
theorem StAt.put_ (h : StAt w b ty s) {i : Nat} {u : Value} {s' : InSt} (e : (stList s).set i u = stList s') (lx : s'.x.length = 256) (ly : s'.y.length = 65) : StAt (w.setCell ⟨b, i, none⟩ u) b ty s' := by
 refine ⟨?_, lx, ly⟩
 have := h.blk.set_ i u
 rwa [List.setIfInBounds_toArray, e] at this
theorem set_x (lx : s.x.length = 256) {j : Nat} (hj : j < 256) (v : Bool) : (stList s).set j (.bool v) = stList { s with x := s.x.set j v } := by
 unfold stList
 rw [List.set_append_left _ _ (by simp; omega)]
 simp only [stTail, List.map_set]
 rfl
theorem set_y (lx : s.x.length = 256) (ly : s.y.length = 65) {j : Nat} (hj : j < 65) (v : Bool) : (stList s).set (256 + j) (.bool v) = stList { s with y := s.y.set j v } := by
 unfold stList
 rw [List.set_append_right _ _ (by simp; omega), List.set_append_left _ _ (by simp; omega)]
 have e : 256 + j - (s.x.map bV).length = j := by simp; omega
 rw [e]
 simp only [stTail, List.map_set]
 rfl
theorem set_t (lx : s.x.length = 256) (ly : s.y.length = 65) {j : Nat} (u : Value) : (stList s).set (321 + j) u = s.x.map bV ++ (s.y.map bV ++ (stTail s).set j u) := by
 unfold stList
 rw [List.set_append_right _ _ (by simp; omega), List.set_append_right _ _ (by simp; omega)]
 have e : 321 + j - (s.x.map bV).length - (s.y.map bV).length = j := by simp; omega
 rw [e]
theorem StAt.setX (h : StAt w b ty s) {j : Nat} (hj : j < 256) (v : Bool) : StAt (w.setCell ⟨b, j, none⟩ (.bool v)) b ty { s with x := s.x.set j v } := h.put_ (set_x h.lx hj v) (by simpa using h.lx) h.ly
theorem StAt.setY (h : StAt w b ty s) {j : Nat} (hj : j < 65) (v : Bool) : StAt (w.setCell ⟨b, 256 + j, none⟩ (.bool v)) b ty { s with y := s.y.set j v } := h.put_ (set_y h.lx h.ly hj v) h.lx (by simpa using h.ly)
theorem StAt.setSlots (h : StAt w b ty s) (v : Int) : StAt (w.setCell ⟨b, 321, none⟩ (.int .i64 v)) b ty { s with slots := v } := h.put_ (set_t (j := 0) h.lx h.ly _) h.lx h.ly
theorem StAt.setUni (h : StAt w b ty s) (v : Int) : StAt (w.setCell ⟨b, 322, none⟩ (.int .i64 v)) b ty { s with uni := v } := h.put_ (set_t (j := 1) h.lx h.ly _) h.lx h.ly
theorem StAt.setSet (h : StAt w b ty s) (v : Int) : StAt (w.setCell ⟨b, 323, none⟩ (.int .i64 v)) b ty { s with set := v } := h.put_ (set_t (j := 2) h.lx h.ly _) h.lx h.ly
theorem StAt.setPut (h : StAt w b ty s) (v : Int) : StAt (w.setCell ⟨b, 324, none⟩ (.int .i64 v)) b ty { s with put := v } := h.put_ (set_t (j := 3) h.lx h.ly _) h.lx h.ly
theorem StAt.setCalls (h : StAt w b ty s) (v : Bool) : StAt (w.setCell ⟨b, 325, none⟩ (.bool v)) b ty { s with calls := v } := h.put_ (set_t (j := 4) h.lx h.ly _) h.lx h.ly
theorem StAt.setEnded (h : StAt w b ty s) (v : Bool) : StAt (w.setCell ⟨b, 326, none⟩ (.bool v)) b ty { s with ended := v } := h.put_ (set_t (j := 5) h.lx h.ly _) h.lx h.ly
end
def setL : List Value → Nat → List Value → List Value
 | l, _, [] => l
 | l, o, v :: r => setL (l.set o v) (o + 1) r
theorem Blk.setCells {g : Nat} {t : TypeId} : ∀ (vs : List Value) (o : Nat) (w : World) (l : List Value), Blk w g t l.toArray → Blk (w.setCells g o vs) g t (setL l o vs).toArray
 | [], o, w, l, h => h
 | v :: r, o, w, l, h => by
  have h1 := h.set_ o v
  rw [List.setIfInBounds_toArray] at h1
  exact Blk.setCells r (o + 1) _ _ h1
theorem setL_at : ∀ (vs a b c : List Value), b.length = vs.length → setL (a ++ (b ++ c)) a.length vs = a ++ (vs ++ c)
 | [], a, b, c, h => by
  have := List.length_eq_zero_iff.1 h
  subst this
  rfl
 | v :: r, a, [], c, h => by simp at h
 | v :: r, a, x :: b, c, h => by
  have e : (a ++ (x :: b ++ c)).set a.length v = (a ++ [v]) ++ (b ++ c) := by simp
  have ih := setL_at r (a ++ [v]) b c (by simpa using h)
  simp only [setL]
  rw [e]
  have e2 : (a ++ [v]).length = a.length + 1 := by simp
  rw [← e2, ih]
  simp
theorem Mods.setCells {S : List Nat} {a : World} {g : Nat} (hg : g ∈ S) : ∀ (vs : List Value) (o : Nat) (w : World), Mods S a w → Mods S a (w.setCells g o vs)
 | [], _, _, h => h
 | v :: r, o, _, h => Mods.setCells hg r (o + 1) _ (h.setCell (p := ⟨g, o, none⟩) (.inl hg) v)
theorem falses (l : List Bool) : (l.map fun _ => false).map bV = List.replicate l.length (.bool false) := by
 rw [List.map_map]
 exact List.map_const' ..
theorem StAt.clearX {w : World} {b : Nat} {ty : TypeId} {s : InSt} (h : StAt w b ty s) : StAt (w.setCells b 0 (List.replicate 256 (.bool false))) b ty s.clearX := by
 refine ⟨?_, by simpa [InSt.clearX] using h.lx, h.ly⟩
 have h1 := Blk.setCells (List.replicate 256 (.bool false)) 0 w _ h.blk
 have h2 := setL_at (List.replicate 256 (.bool false)) [] (s.x.map bV) (s.y.map bV ++ stTail s) (by rw [List.length_map, h.lx, List.length_replicate])
 have e : stList s.clearX = [] ++ (List.replicate 256 (.bool false) ++ (s.y.map bV ++ stTail s)) := by
  unfold stList InSt.clearX
  simp only [List.nil_append]
  rw [falses, h.lx]
  exact rfl
 rw [e, ← h2]
 exact h1
theorem StAt.clearY {w : World} {b : Nat} {ty : TypeId} {s : InSt} (h : StAt w b ty s) {k : Nat} (hk : k ≤ 65) : StAt (w.setCells b (256 + k) (List.replicate (65 - k) (.bool false))) b ty (s.clearY k) := by
 have ly := h.ly
 have lx := h.lx
 refine ⟨?_, h.lx, by simp [InSt.clearY]; omega⟩
 have h1 := Blk.setCells (List.replicate (65 - k) (.bool false)) (256 + k) w _ h.blk
 have h2 := setL_at (List.replicate (65 - k) (.bool false)) (s.x.map bV ++ (s.y.take k).map bV) ((s.y.drop k).map bV) (stTail s) (by simp; omega)
 have e0 : (s.x.map bV ++ (s.y.take k).map bV).length = 256 + k := by simp; omega
 have e1 : stList s = (s.x.map bV ++ (s.y.take k).map bV) ++ ((s.y.drop k).map bV ++ stTail s) := by
  unfold stList
  rw [List.append_assoc, ← List.append_assoc (List.map bV (s.y.take k)), ← List.map_append, List.take_append_drop]
 have e : stList (s.clearY k) = (s.x.map bV ++ (s.y.take k).map bV) ++ (List.replicate (65 - k) (.bool false) ++ stTail s) := by
  unfold stList InSt.clearY
  simp only [List.map_append]
  rw [falses, List.length_drop, ly]
  simp [stTail]
 rw [e, ← h2, e0, ← e1]
 exact h1
end Go.El

/- Layer 16: the walks of slot, known, learn. -/
namespace Go.El
def InSt.fit (s : InSt) : Prop := s.slots ≤ 64
end Go.El
namespace Go.Proofs.YtmnnhdegoapfcaaGreatDoor
open Go.RowKit Go.El
set_option maxRecDepth 100000 in
theorem slotX_any (b : Nat) (v : Int) (w : World) (h0 : 0 < v) (h1 : v ≤ 255) :
  Calls Tryz.prog 135 #[.pointer (some ⟨b, 0, none⟩), .int .i64 v] w fun e w' => e = .returned (.pointer (some ⟨b, v.toNat, none⟩)) ∧ w = w' := by
 obtain ⟨k, rfl⟩ : ∃ k : Nat, v = k := ⟨v.toNat, by omega⟩
 have hk : k < 256 := by omega
 go_enter Tryz.func135, Tryz.ntmps135
 go_wp2_with fail
 go_ret
 exact ⟨by simp, rfl⟩
set_option maxRecDepth 100000 in
theorem slotN_any (b : Nat) (v : Int) (s : InSt) (w : World) (h : StAt w b 102 s) (h0 : ¬ 0 < v) (hb : -1000 ≤ v) (h1 : s.slots < -v) :
  Calls Tryz.prog 135 #[.pointer (some ⟨b, 0, none⟩), .int .i64 v] w fun e w' => e = .returned (.pointer none) ∧ w = w' := by
 have c := h.slots
 clear h
 go_enter Tryz.func135, Tryz.ntmps135
 go_wp2_with fail
 go_ret
 exact ⟨rfl, rfl⟩
set_option maxRecDepth 100000 in
theorem slotY_any (b : Nat) (v : Int) (s : InSt) (w : World) (h : StAt w b 102 s) (h0 : ¬ 0 < v) (hb : -64 ≤ v) (h1 : ¬ s.slots < -v) :
  Calls Tryz.prog 135 #[.pointer (some ⟨b, 0, none⟩), .int .i64 v] w fun e w' => e = .returned (.pointer (some ⟨b, 256 + (-v).toNat, none⟩)) ∧ w = w' := by
 have c := h.slots
 obtain ⟨k, rfl⟩ : ∃ k : Nat, v = -(k : Int) := ⟨(-v).toNat, by omega⟩
 have hk : k < 65 := by omega
 clear h
 go_enter Tryz.func135, Tryz.ntmps135
 go_wp2_with fail
 go_ret
 exact ⟨by simp, rfl⟩
set_option maxRecDepth 100000 in
theorem known_any (b : Nat) (v : Int) (s : InSt) (w : World) (h : StAt w b 102 s) (hb : -64 ≤ v) (hv : v ≤ 255) :
  Calls Tryz.prog 100 #[.pointer (some ⟨b, 0, none⟩), .int .i64 v] w fun e w' => e = .returned (.bool (s.known v)) ∧ w = w' := by
 by_cases h0 : 0 < v
 ·rw [show s.known v = s.x.getD v.toNat false from if_pos h0]
  have HS := Lib.hid (slotX_any b v w h0 hv)
  have c := h.x (j := v.toNat) (by omega)
  generalize s.x.getD v.toNat false = r at *
  generalize v.toNat = k at *
  clear h
  go_enter Tryz.func100, Tryz.ntmps100
  go_wp2_with (go_at_call 135; refine HS.out.mono ?_; rintro e W1 ⟨rfl, rfl⟩)
  go_ret
  exact ⟨rfl, rfl⟩
 ·by_cases h1 : s.slots < -v
  ·rw [show s.known v = false from (if_neg h0).trans (if_pos h1)]
   have HS := Lib.hid (slotN_any b v s w h h0 (by omega) h1)
   clear h
   go_enter Tryz.func100, Tryz.ntmps100
   go_wp2_with (go_at_call 135; refine HS.out.mono ?_; rintro e W1 ⟨rfl, rfl⟩)
   go_ret
   exact ⟨rfl, rfl⟩
  ·rw [show s.known v = s.y.getD (-v).toNat false from (if_neg h0).trans (if_neg h1)]
   have HS := Lib.hid (slotY_any b v s w h h0 hb h1)
   have c := h.y (j := (-v).toNat) (by omega)
   generalize s.y.getD (-v).toNat false = r at *
   generalize (-v).toNat = k at *
   clear h
   go_enter Tryz.func100, Tryz.ntmps100
   go_wp2_with (go_at_call 135; refine HS.out.mono ?_; rintro e W1 ⟨rfl, rfl⟩)
   go_ret
   exact ⟨rfl, rfl⟩
def StPost (b : Nat) (r : Bool × InSt) (w : World) (e : Ending) (w' : World) : Prop := e = .returned (.bool r.1) ∧ StAt w' b 102 r.2 ∧ Mods [b] w w'
set_option maxRecDepth 100000 in
theorem learn_any (b : Nat) (v : Int) (s : InSt) (w : World) (h : StAt w b 102 s) (hb : -64 ≤ v) (hv : v ≤ 255) :
  Calls Tryz.prog 99 #[.pointer (some ⟨b, 0, none⟩), .int .i64 v] w (StPost b (s.learn v) w) := by
 by_cases h0 : 0 < v
 ·rw [show s.learn v = (true, { s with x := s.x.set v.toNat true }) from if_pos h0]
  have HS := Lib.hid (slotX_any b v w h0 hv)
  have c := h.x (j := v.toNat) (by omega)
  have HF := Lib.hid (h.setX (j := v.toNat) (by omega) true)
  have f := h.frozen v.toNat
  generalize s.x.getD v.toNat false = r at *
  generalize v.toNat = k at *
  clear h
  go_enter Tryz.func99, Tryz.ntmps99
  go_wp2_with (go_at_call 135; refine HS.out.mono ?_; rintro e W1 ⟨rfl, rfl⟩)
  go_ret
  exact ⟨rfl, HF.out, (Mods.refl _ _).setCell (p := ⟨b, k, none⟩) (.inl (by simp)) _⟩
 ·by_cases h1 : s.slots < -v
  ·rw [show s.learn v = (false, s) from (if_neg h0).trans (if_pos h1)]
   have HS := Lib.hid (slotN_any b v s w h h0 (by omega) h1)
   have HF := Lib.hid h
   clear h
   go_enter Tryz.func99, Tryz.ntmps99
   go_wp2_with (go_at_call 135; refine HS.out.mono ?_; rintro e W1 ⟨rfl, rfl⟩)
   go_ret
   exact ⟨rfl, HF.out, Mods.refl _ _⟩
  ·rw [show s.learn v = (true, { s with y := s.y.set (-v).toNat true }) from (if_neg h0).trans (if_neg h1)]
   have HS := Lib.hid (slotY_any b v s w h h0 hb h1)
   have c := h.y (j := (-v).toNat) (by omega)
   have HF := Lib.hid (h.setY (j := (-v).toNat) (by omega) true)
   have f := h.frozen (256 + (-v).toNat)
   generalize s.y.getD (-v).toNat false = r at *
   generalize (-v).toNat = k at *
   clear h
   go_enter Tryz.func99, Tryz.ntmps99
   go_wp2_with (go_at_call 135; refine HS.out.mono ?_; rintro e W1 ⟨rfl, rfl⟩)
   go_ret
   exact ⟨rfl, HF.out, (Mods.refl _ _).setCell (p := ⟨b, 256 + k, none⟩) (.inl (by simp)) _⟩
end Go.Proofs.YtmnnhdegoapfcaaGreatDoor

/- Layer 16: the walks of slices.Index, slices.Contains of marks; args, end. -/
namespace Go.Proofs.YtmnnhdegoapfcaaGreatDoor
open Go.RowKit Go.El
set_option maxRecDepth 100000 in
theorem indexB_any (L : List Bool) (b off c : Nat) (w : World) (h : ∀ j x, L[j]? = some x → w.cell? ⟨b, off + j, none⟩ = some (.bool x)) (hl : L.length ≤ 1000) :
  Calls Tryz.prog 226 #[.slice (some ⟨b, off, none⟩) L.length c, .bool false] w fun e w' => (∃ r : Int, e = .returned (.int .i64 r) ∧ -1 ≤ r ∧ (0 ≤ r ↔ false ∈ L)) ∧ w = w' := by
 have H := Lib.hid h
 clear h
 go_enter Tryz.func226, Tryz.ntmps226
 go_wp2_with fail
 go_loopw [8] (fun i wr => ∃ k : Nat, k ≤ L.length ∧ i = .int .i64 k ∧ w = wr ∧ Hid (∀ j x, j < k → L[j]? = some x → x = true)) (fun i _ => L.length - (intOf i).toNat)
 case atStart => exact ⟨0, Nat.zero_le _, rfl, rfl, Lib.hid (fun j x h => by omega)⟩
 case round =>
  obtain ⟨k, hk, rfl, rfl, HN⟩ := hrel
  by_cases hlt : k < L.length
  ·have ho : L[k]? = some L[k] := List.getElem?_eq_getElem hlt
   have c0 := H.out k _ ho
   have HK := Lib.hid ho
   clear ho
   generalize L[k] = x at *
   cases x
   ·have HM := Lib.hid (List.mem_of_getElem? HK.out)
    go_wp2_with fail
    go_ret
    exact ⟨⟨k, rfl, by omega, fun _ => HM.out, fun _ => by omega⟩, rfl⟩
   ·go_wp2_with fail
    go_roundw
    case rel =>
     exact ⟨k + 1, hlt, by go_num, trivial, Lib.hid (fun j x hj hx => by
      rcases Nat.lt_succ_iff_lt_or_eq.1 hj with h | rfl
      ·exact HN.out j x h hx
      ·exact Option.some.inj (hx.symm.trans HK.out))⟩
    case measure => simp [intOf]; omega
  ·obtain rfl : k = L.length := by omega
   go_wp2_with fail
   go_ret
   refine ⟨⟨-1, rfl, by omega, fun h => by omega, fun h => ?_⟩, rfl⟩
   obtain ⟨j, hj⟩ := List.mem_iff_getElem?.1 h
   have := HN.out j _ (List.getElem?_eq_some_iff.1 hj).1 hj
   cases this
set_option maxRecDepth 100000 in
theorem containsB_any (L : List Bool) (b off c : Nat) (w : World) (h : ∀ j x, L[j]? = some x → w.cell? ⟨b, off + j, none⟩ = some (.bool x)) (hl : L.length ≤ 1000) :
  Calls Tryz.prog 199 #[.slice (some ⟨b, off, none⟩) L.length c, .bool false] w fun e w' => e = .returned (.bool (!(L.all fun x => x))) ∧ w = w' := by
 have H := Lib.hid (indexB_any L b off c w h hl)
 obtain ⟨R, hR⟩ : ∃ R : Bool, R = !(L.all fun x => x) := ⟨_, rfl⟩
 have HR := Lib.hid (show R = true ↔ false ∈ L by rw [hR]; simp)
 rw [← hR]
 clear h hR
 generalize L.length = n at *
 go_enter Tryz.func199, Tryz.ntmps199
 go_wp2_with (go_at_call 226; refine H.out.mono ?_; rintro e W1 ⟨⟨r, rfl, hr1, hr2⟩, rfl⟩; have HR2 := Lib.hid hr2; clear hr2)
 go_ret
 exact ⟨ret_bI (by rw [HR.out, ← HR2.out]; simp), rfl⟩
set_option maxRecDepth 100000 in
theorem args_any (b : Nat) (n : Int) (s : InSt) (w : World) (h : StAt w b 102 s) (h0 : 0 ≤ n) (hn : n ≤ 16) :
  Calls Tryz.prog 164 #[.pointer (some ⟨b, 0, none⟩), .int .i64 n] w fun e w' => e = .returned (.bool (s.args n)) ∧ w = w' := by
 obtain ⟨k, rfl⟩ : ∃ k : Nat, n = k := ⟨n.toNat, by omega⟩
 have hk : k ≤ 16 := by omega
 have hlen : ((s.x.drop 1).take k).length = k := by
  have := h.lx
  simp
  omega
 have HC := fun c => Lib.hid (containsB_any ((s.x.drop 1).take k) b 1 c w (fun j x hx => by
  have hj : j < k := by
   have := (List.getElem?_eq_some_iff.1 hx).1
   omega
  rw [h.x (by omega)]
  rw [List.getElem?_take, if_pos hj, List.getElem?_drop] at hx
  rw [List.getD_eq_getElem?_getD, hx]
  rfl) (by omega))
 rw [hlen] at HC
 have hR : s.args k = ((s.x.drop 1).take k).all fun x => x := by unfold InSt.args; rw [Int.toNat_natCast]
 rw [hR]
 have c0 := h.x (j := 0) (by omega)
 generalize ((s.x.drop 1).take k).all (fun x => x) = R at *
 have e1 : (1 : Int) ≤ (k : Int) + 1 := by omega
 have e2 : (k : Int) + 1 ≤ 256 := by omega
 have e3 : (0 : Int) ≤ (k : Int) := by omega
 have e4 : (k : Int) ≤ 255 := by omega
 have hal : Tryz.prog.arrayLen 99 = 256 := by kernel_rfl
 clear hR hlen
 go_enter Tryz.func164, Tryz.ntmps164
 go_wp2_with (go_at_call 199; refine (HC _).out.mono ?_; rintro e W1 ⟨rfl, rfl⟩)
 go_ret
 exact ⟨by simp, rfl⟩
end Go.Proofs.YtmnnhdegoapfcaaGreatDoor

/- Layer 16: the walks of end, call. -/
namespace Go.Proofs.YtmnnhdegoapfcaaGreatDoor
open Go.RowKit Go.El
theorem args_ended (s : InSt) (n : Int) (v : Bool) : ({ s with ended := v } : InSt).args n = s.args n := rfl
set_option maxRecDepth 100000 in
theorem end_any (b : Nat) (n : Int) (s : InSt) (w : World) (h : StAt w b 102 s) (h0 : 0 ≤ n) (hn : n ≤ 16) :
  Calls Tryz.prog 137 #[.pointer (some ⟨b, 0, none⟩), .int .i64 n] w (StPost b (s.end_ n) w) := by
 have hE := h.setEnded true
 have HA := Lib.hid (args_any b n { s with ended := true } _ hE h0 hn)
 have c1 := h.ended
 have f1 := h.frozen 326
 have c2 := hE.slots
 have HE := Lib.hid hE
 obtain ⟨R, hR⟩ : ∃ R : Bool, s.args n = R := ⟨_, rfl⟩
 rw [args_ended, hR] at HA
 rw [show s.end_ n = (decide (s.slots < 0) && R, { s with ended := true }) by rw [← hR]; rfl]
 have hM : Mods [b] w (w.setCell ⟨b, 326, none⟩ (.bool true)) := (Mods.refl [b] w).setCell (p := ⟨b, 326, none⟩) (.inl (by simp)) _
 have HM := Lib.hid hM
 dsimp only at c2
 clear h hE hR hM
 by_cases hs : s.slots < 0
 ·have HQ : Hid (decide (s.slots < 0) = true) := decide_eq_true hs
  go_enter Tryz.func137, Tryz.ntmps137
  go_wp2_with (go_at_call 164; refine HA.out.mono ?_; rintro e W1 ⟨rfl, rfl⟩)
  go_ret
  exact ⟨by rw [HQ.out]; simp, HE.out, HM.out⟩
 ·have HQ : Hid (decide (s.slots < 0) = false) := decide_eq_false hs
  go_enter Tryz.func137, Tryz.ntmps137
  go_wp2_with (go_at_call 164; refine HA.out.mono ?_; rintro e W1 ⟨rfl, rfl⟩)
  go_ret
  exact ⟨by rw [HQ.out]; simp, HE.out, HM.out⟩
end Go.Proofs.YtmnnhdegoapfcaaGreatDoor

/- Layer 16: the walk of call. -/
namespace Go.Proofs.YtmnnhdegoapfcaaGreatDoor
open Go.RowKit Go.El
theorem zeroBool (w : World) : (zeroValue 4).run Tryz.prog w = .ok (.bool false) w := by kernel_rfl
theorem clrX {b : Nat} {s : InSt} {w : World} (h : StAt w b 102 s) (ty : TypeId) (c : Nat) : (Builtin.clear_ #[179] ty #[.slice (some ⟨b, 0, none⟩) 256 c]).run Tryz.prog w = .ok (.tuple #[]) (w.setCells b 0 (List.replicate 256 (.bool false))) :=
 Lib.run_clear_slice w _ _ ty _ Tryz.underlying179 zeroBool rfl rfl b 0 256 c (by omega) (fun j hj => by rw [Nat.zero_add, h.x hj]; rfl) (fun j hj => h.frozen _)
theorem clrY {b : Nat} {s : InSt} {w : World} (h : StAt w b 102 s) (ty : TypeId) (c k : Nat) (hk : k < 65) : (Builtin.clear_ #[179] ty #[.slice (some ⟨b, 256 + k, none⟩) (65 - k) c]).run Tryz.prog w = .ok (.tuple #[]) (w.setCells b (256 + k) (List.replicate (65 - k) (.bool false))) :=
 Lib.run_clear_slice w _ _ ty _ Tryz.underlying179 zeroBool rfl rfl b (256 + k) (65 - k) c (by omega) (fun j hj => by rw [Nat.add_assoc, h.y (by omega)]; rfl) (fun j hj => h.frozen _)
set_option maxRecDepth 100000 in
set_option maxHeartbeats 1000000 in
theorem call_any (b : Nat) (n left : Int) (s : InSt) (w : World) (h : StAt w b 102 s) (h0 : 0 ≤ n) (hn : n ≤ 16) (hl0 : 0 ≤ left) (hl : left < 64) :
  Calls Tryz.prog 136 #[.pointer (some ⟨b, 0, none⟩), .int .i64 n, .int .i64 left] w (StPost b (s.call n left) w) := by
 obtain ⟨k, rfl⟩ : ∃ k : Nat, left = k := ⟨left.toNat, by omega⟩
 have HA := Lib.hid (args_any b n s w h h0 hn)
 have hx := h.clearX
 have hcx := fun ty => clrX h ty 256
 have hcy := fun ty => clrY hx ty (65 - (k + 1)) (k + 1) (by omega)
 have hy := hx.clearY (k := k + 1) (by omega)
 have hz := (hy.setSlots (k : Int)).setCalls true
 have c2 := h.slots
 have f2 := hy.frozen 321
 have f6 := hy.frozen 325
 have d2 := hy.slots
 have d6 := hy.calls
 have hM : Mods [b] w ((((w.setCells b 0 (List.replicate 256 (.bool false))).setCells b (256 + (k + 1)) (List.replicate (65 - (k + 1)) (.bool false))).setCell ⟨b, 321, none⟩ (.int .i64 k)).setCell ⟨b, 325, none⟩ (.bool true)) :=
  ((Mods.setCells (by simp) _ _ _ (Mods.setCells (by simp) _ _ _ (Mods.refl [b] w))).setCell (p := ⟨b, 321, none⟩) (.inl (by simp)) _).setCell (p := ⟨b, 325, none⟩) (.inl (by simp)) _
 have e1 : (0 : Int) ≤ (k : Int) + 1 := by omega
 have e2 : (k : Int) + 1 ≤ 65 := by omega
 have e3 : (k : Int) ≤ 64 := by omega
 have hal : Tryz.prog.arrayLen 100 = 65 := by kernel_rfl
 have hal2 : Tryz.prog.arrayLen 99 = 256 := by kernel_rfl
 have e4 : ¬ 65 = k + 1 := by omega
 have e5 : 65 - (k + 1) = 64 - k := by omega
 rw [e5] at hcy hy hz hM f2 f6 d2 d6
 generalize List.replicate 256 (Value.bool false) = Z at *
 generalize List.replicate (64 - k) (Value.bool false) = Y at *
 obtain ⟨R, hR⟩ : ∃ R : Bool, s.args n = R := ⟨_, rfl⟩
 rw [hR] at HA
 have hres : s.call n k = (decide (0 ≤ s.slots) && decide ((k : Int) ≤ s.slots) && R, { (s.clearX.clearY (k + 1)) with slots := k, calls := true }) := by
  unfold InSt.call
  rw [hR, show ((k : Int) + 1).toNat = k + 1 by omega]
 rw [hres]
 dsimp only [InSt.clearX, InSt.clearY] at d2 d6
 have HM := Lib.hid hM
 have HZ := Lib.hid hz
 generalize hB : (decide (0 ≤ s.slots) && decide ((k : Int) ≤ s.slots) && R) = B
 have HB := Lib.hid hB
 clear h hx hy hz hM hR hres hB
 by_cases hs : 0 ≤ s.slots
 ·by_cases hk : (k : Int) ≤ s.slots
  ·have HQ : Hid (decide (0 ≤ s.slots) = true ∧ decide ((k : Int) ≤ s.slots) = true) := ⟨decide_eq_true hs, decide_eq_true hk⟩
   go_enter Tryz.func136, Tryz.ntmps136
   go_wp2_with (go_at_call 164; refine HA.out.mono ?_; rintro e W1 ⟨rfl, rfl⟩)
   go_ret
   exact ⟨by rw [← HB.out, HQ.out.1, HQ.out.2]; simp, HZ.out, HM.out⟩
  ·have HQ : Hid (decide (0 ≤ s.slots) = true ∧ decide ((k : Int) ≤ s.slots) = false) := ⟨decide_eq_true hs, decide_eq_false hk⟩
   go_enter Tryz.func136, Tryz.ntmps136
   go_wp2_with (go_at_call 164; refine HA.out.mono ?_; rintro e W1 ⟨rfl, rfl⟩)
   go_ret
   exact ⟨by rw [← HB.out, HQ.out.1, HQ.out.2]; simp, HZ.out, HM.out⟩
 ·have HQ : Hid (decide (0 ≤ s.slots) = false) := decide_eq_false hs
  go_enter Tryz.func136, Tryz.ntmps136
  go_wp2_with (go_at_call 164; refine HA.out.mono ?_; rintro e W1 ⟨rfl, rfl⟩)
  go_ret
  exact ⟨by rw [← HB.out, HQ.out]; simp, HZ.out, HM.out⟩
end Go.Proofs.YtmnnhdegoapfcaaGreatDoor

/- Layer 16: the walk of call that leaves all slots. -/
namespace Go.Proofs.YtmnnhdegoapfcaaGreatDoor
open Go.RowKit Go.El
theorem clr0 (b c : Nat) (ty : TypeId) (w : World) : (Builtin.clear_ #[179] ty #[.slice (some ⟨b, 256, none⟩) 0 c]).run Tryz.prog w = .ok (.tuple #[]) w := by
 simp [Builtin.clear_, run_underlying Tryz.underlying179]
theorem clearY_all {s : InSt} {k : Nat} (h : s.y.length ≤ k) : s.clearY k = s := by
 unfold InSt.clearY
 rw [List.take_of_length_le h, List.drop_eq_nil_of_le h]
 simp
set_option maxRecDepth 100000 in
set_option maxHeartbeats 1000000 in
theorem call64_any (b : Nat) (n : Int) (s : InSt) (w : World) (h : StAt w b 102 s) (h0 : 0 ≤ n) (hn : n ≤ 16) :
  Calls Tryz.prog 136 #[.pointer (some ⟨b, 0, none⟩), .int .i64 n, .int .i64 64] w (StPost b (s.call n 64) w) := by
 have HA := Lib.hid (args_any b n s w h h0 hn)
 have hx := h.clearX
 have hcx := fun ty => clrX h ty 256
 have hcy := fun ty => clr0 b 0 ty (w.setCells b 0 (List.replicate 256 (.bool false)))
 have hcz : s.clearX.clearY 65 = s.clearX := clearY_all (by rw [hx.ly]; exact Nat.le_refl _)
 have hy := hx
 have hz := (hy.setSlots (64 : Int)).setCalls true
 have c2 := h.slots
 have f2 := hy.frozen 321
 have f6 := hy.frozen 325
 have d2 := hy.slots
 have d6 := hy.calls
 have hM : Mods [b] w ((((w.setCells b 0 (List.replicate 256 (.bool false)))).setCell ⟨b, 321, none⟩ (.int .i64 64)).setCell ⟨b, 325, none⟩ (.bool true)) :=
  ((Mods.setCells (by simp) _ _ _ (Mods.refl [b] w)).setCell (p := ⟨b, 321, none⟩) (.inl (by simp)) _).setCell (p := ⟨b, 325, none⟩) (.inl (by simp)) _
 have hal : Tryz.prog.arrayLen 100 = 65 := by kernel_rfl
 have hal2 : Tryz.prog.arrayLen 99 = 256 := by kernel_rfl
 generalize List.replicate 256 (Value.bool false) = Z at *
 obtain ⟨R, hR⟩ : ∃ R : Bool, s.args n = R := ⟨_, rfl⟩
 rw [hR] at HA
 have hres : s.call n 64 = (decide (0 ≤ s.slots) && decide ((64 : Int) ≤ s.slots) && R, { s.clearX with slots := 64, calls := true }) := by
  unfold InSt.call
  rw [hR, show ((64 : Int) + 1).toNat = 65 from rfl, hcz]
 rw [hres]
 dsimp only [InSt.clearX, InSt.clearY] at d2 d6
 have HM := Lib.hid hM
 have HZ := Lib.hid hz
 generalize hB : (decide (0 ≤ s.slots) && decide ((64 : Int) ≤ s.slots) && R) = B
 have HB := Lib.hid hB
 clear h hx hy hz hM hR hres hB hcz
 by_cases hs : 0 ≤ s.slots
 ·by_cases hk : (64 : Int) ≤ s.slots
  ·have HQ : Hid (decide (0 ≤ s.slots) = true ∧ decide ((64 : Int) ≤ s.slots) = true) := ⟨decide_eq_true hs, decide_eq_true hk⟩
   go_enter Tryz.func136, Tryz.ntmps136
   go_wp2_with (go_at_call 164; refine HA.out.mono ?_; rintro e W1 ⟨rfl, rfl⟩)
   go_ret
   exact ⟨by rw [← HB.out, HQ.out.1, HQ.out.2]; simp, HZ.out, HM.out⟩
  ·have HQ : Hid (decide (0 ≤ s.slots) = true ∧ decide ((64 : Int) ≤ s.slots) = false) := ⟨decide_eq_true hs, decide_eq_false hk⟩
   go_enter Tryz.func136, Tryz.ntmps136
   go_wp2_with (go_at_call 164; refine HA.out.mono ?_; rintro e W1 ⟨rfl, rfl⟩)
   go_ret
   exact ⟨by rw [← HB.out, HQ.out.1, HQ.out.2]; simp, HZ.out, HM.out⟩
 ·have HQ : Hid (decide (0 ≤ s.slots) = false) := decide_eq_false hs
  go_enter Tryz.func136, Tryz.ntmps136
  go_wp2_with (go_at_call 164; refine HA.out.mono ?_; rintro e W1 ⟨rfl, rfl⟩)
  go_ret
  exact ⟨by rw [← HB.out, HQ.out]; simp, HZ.out, HM.out⟩
end Go.Proofs.YtmnnhdegoapfcaaGreatDoor

/- Layer 16: the walk of get. -/
namespace Go.Proofs.YtmnnhdegoapfcaaGreatDoor
open Go.RowKit Go.El
theorem StPost.of {b : Nat} {r : Bool × InSt} {a w : World} {e : Ending} {w' : World} (x : Ext a w) (h : StPost b r w e w') : StPost b r a e w' := ⟨h.1, h.2.1, (Mods.ext x).trans h.2.2⟩
set_option maxRecDepth 100000 in
set_option maxHeartbeats 1000000 in
theorem get_any (b : Nat) (op n v : Int) (k : Nat) (sn : ByteArray) (s : InSt) (w : World) (h : StAt w b 102 s) (hk : k ≤ 255) (hv : -64 ≤ v) (hv2 : v ≤ 255) :
  Calls Tryz.prog 96 #[.pointer (some ⟨b, 0, none⟩), insVal ⟨op, sn, n, v, k⟩] w (StPost b (s.get ⟨op, sn, n, v, k⟩) w) := by
 obtain ⟨G, hG⟩ : ∃ G, G = s.get ⟨op, sn, n, v, k⟩ := ⟨_, rfl⟩
 have hx := ext_boxI w (.cells #[.int .i64 op, .string sn, .int .i64 n, .int .i64 v, .int .i64 k] 25)
 have hb := Blk.new w 25 #[.int .i64 op, .string sn, .int .i64 n, .int .i64 v, .int .i64 k]
 have H := Lib.hid (h.ext hx)
 have q0 := hb.cell 0
 have q2 := hb.cell 2
 have q3 := hb.cell 3
 have q4 := hb.cell 4
 have c0 := (h.ext hx).x (j := k) (by omega)
 obtain ⟨ok, hok⟩ : ∃ ok : Bool, s.x.getD k false = ok := ⟨_, rfl⟩
 rw [hok] at c0
 have e1 : (k : Int) < 256 := by omega
 have HB := Lib.hid hb
 rw [← hG]
 unfold InSt.get at hG
 simp only [Int.toNat_natCast, hok] at hG
 have HG := Lib.hid hG
 unfold insVal
 clear hG hok h hb
 go_enter Tryz.func96, Tryz.ntmps96
 go_upto_region 1 with fail
 go_quiet (fail)
 go_upto_region 2 with fail
 refine wp_abs (fun V => Hid (StAt V b 102 s) ∧ Hid (Blk V w.heap.size 25 #[.int .i64 op, .string sn, .int .i64 n, .int .i64 v, .int .i64 k]) ∧ Hid (Ext w V)) ⟨Lib.hid (H.out.ext ((Ext.refl _).drewN _)), HB.out.drewN _, Lib.hid (hx.drewN _)⟩ ?_
 clear hx H HB q0 q2 q3 q4 c0
 rintro V ⟨H, HB, HX⟩
 have q0 : V.cell? ⟨w.heap.size, 0, none⟩ = some (.int .i64 op) := HB.out.cell 0
 have q2 : V.cell? ⟨w.heap.size, 2, none⟩ = some (.int .i64 n) := HB.out.cell 2
 have q3 : V.cell? ⟨w.heap.size, 3, none⟩ = some (.int .i64 v) := HB.out.cell 3
 have HL := Lib.hid (learn_any b v s V H.out hv hv2)
 have HKN := Lib.hid (known_any b v s V H.out hv hv2)
 by_cases o1 : op = 1
 ·subst o1
  simp only [if_true] at HG
  cases ok
  ·have HR : Hid (G = (false, s)) := HG.out
   go_wp2_with (go_at_call 99; refine HL.out.mono ?_; rintro e W1 ⟨rfl, h1, m1⟩)
   go_ret
   exact ⟨by rw [HR.out]; rfl, by rw [HR.out]; exact H.out, Mods.ext HX.out⟩
  ·have HR : Hid (G = s.learn v) := HG.out
   go_wp2_with (go_at_call 99; refine HL.out.mono ?_; rintro e W1 ⟨rfl, h1, m1⟩)
   go_ret
   exact ⟨by rw [HR.out]; rfl, by rw [HR.out]; exact h1, (Mods.ext HX.out).trans m1⟩
 ·have p1 : (op == 1) = false := by simpa using o1
  by_cases o2 : op = 2
  ·subst o2
   have HR : Hid (G = (ok && s.known v, s)) := HG.out
   cases ok
   all_goals
    go_wp2_with (go_at_call 100; refine HKN.out.mono ?_; rintro e W1 ⟨rfl, rfl⟩)
    go_ret
    exact ⟨by rw [HR.out]; simp, by rw [HR.out]; exact H.out, Mods.ext HX.out⟩
  ·have p2 : (op == 2) = false := by simpa using o2
   by_cases o5 : op = 5
   ·subst o5
    have HR : Hid (G = (ok, { s with uni := n })) := HG.out
    have c3 := H.out.uni
    have f3 := H.out.frozen 322
    have HS := Lib.hid (H.out.setUni n)
    go_wp2_with fail
    go_ret
    exact ⟨by rw [HR.out]; rfl, by rw [HR.out]; exact HS.out, (Mods.ext HX.out).setCell (p := ⟨b, 322, none⟩) (.inl (by simp)) _⟩
   ·have p5 : (op == 5) = false := by simpa using o5
    have HR : Hid (G = (ok, s)) := by
     have := HG.out
     rwa [if_neg o1, if_neg o2, if_neg o5] at this
    clear o1 o2 o5
    go_wp2_with fail
    go_ret
    exact ⟨by rw [HR.out]; rfl, by rw [HR.out]; exact H.out, Mods.ext HX.out⟩
end Go.Proofs.YtmnnhdegoapfcaaGreatDoor
