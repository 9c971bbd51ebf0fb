/- Layer 15, the program: the walk of may. -/
import Derived.Test.YtmnnhdegoapfcaaGreatDoorP25
import Derived.Test.YtmnnhdegoapfcaaGreatDoorP21
import Derived.Test.YtmnnhdegoapfcaaGreatDoorP11
import Derived.Test.YtmnnhdegoapfcaaGreatDoorP22
import Derived.Test.YtmnnhdegoapfcaaGreatDoorP23
namespace Go.El
open Go.RowKit
def oddP (g : Int × Tm) : Bool := decide (g.1 < 1) || decide (4 < g.1)
def idxG (gs : List (Int × Tm)) : Int := match gs.findIdx? oddP with
 | some i => i
 | none => -1
theorem idxG_hit {gs : List (Int × Tm)} {k : Nat} {g : Int × Tm} (hn : ∀ (j : Nat) (y : Int × Tm), j < k → gs[j]? = some y → oddP y = false) (hg : gs[k]? = some g) (ho : oddP g = true) : idxG gs = k := by
 obtain ⟨hk, he⟩ := List.getElem?_eq_some_iff.1 hg
 have : gs.findIdx? oddP = some k := by
  rw [List.findIdx?_eq_some_iff_getElem]
  refine ⟨hk, by rw [he]; exact ho, fun j hj => ?_⟩
  have := hn j _ hj (List.getElem?_eq_getElem (by omega))
  simpa using this
 unfold idxG
 rw [this]
theorem idxG_miss {gs : List (Int × Tm)} (hn : ∀ (j : Nat) (y : Int × Tm), j < gs.length → gs[j]? = some y → oddP y = false) : idxG gs = -1 := by
 have : gs.findIdx? oddP = none := by
  rw [List.findIdx?_eq_none_iff]
  intro p hp
  obtain ⟨j, hj⟩ := List.mem_iff_getElem?.1 hp
  exact hn j p (List.getElem?_eq_some_iff.1 hj).1 hj
 unfold idxG
 rw [this]
theorem idxG_any (gs : List (Int × Tm)) : decide (0 ≤ idxG gs) = gs.any oddP := by
 unfold idxG
 cases h : gs.findIdx? oddP with
 | none =>
  have h2 := List.findIdx?_eq_none_iff.1 h
  have h3 : gs.any oddP = false := by
   rw [List.any_eq_false]
   intro x hx
   rw [h2 x hx]
   simp
  rw [h3]
  rfl
 | some i =>
  obtain ⟨hi, h2, _⟩ := List.findIdx?_eq_some_iff_getElem.1 h
  have h3 : gs.any oddP = true := by
   rw [List.any_eq_true]
   exact ⟨_, List.getElem_mem hi, h2⟩
  rw [h3]
  simp
theorem fstNo_at : ∀ {l : List Int} {j : Nat} {e : Int}, (∀ (i : Nat) (x : Int), i < j → l[i]? = some x → x = 0) → l[j]? = some e → e ≠ 0 → fstNo l = e
 | [], j, e, _, h, _ => by simp at h
 | a :: l, 0, e, _, h, he => by
  simp at h
  subst h
  simp only [fstNo, if_neg he]
 | a :: l, j + 1, e, hn, h, he => by
  have h0 := hn 0 a (by omega) rfl
  subst h0
  simp only [fstNo, if_true]
  exact fstNo_at (j := j) (fun i x hi hx => hn (i + 1) x (by omega) (by simpa using hx)) (by simpa using h) he
def mayR (c : Cls) : Int := if (c.gs.any oddP) = true ∨ c.h.k < 3 ∨ 64 < c.gs.length then 1 else 0
theorem may_head {c : Cls} (h : chkT c.h ≠ 0) : mayC c = chkT c.h := by
 unfold mayC
 have : fstNo (chkT c.h :: c.gs.map fun g => chkT g.2) = chkT c.h := by simp only [fstNo, if_neg h]
 rw [this, if_pos h]
theorem may_goal {c : Cls} {j : Nat} {g : Int × Tm} (h0 : chkT c.h = 0) (hn : ∀ (i : Nat) (y : Int × Tm), i < j → c.gs[i]? = some y → chkT y.2 = 0) (hg : c.gs[j]? = some g) (h : chkT g.2 ≠ 0) : mayC c = chkT g.2 := by
 have : fstNo (chkT c.h :: c.gs.map fun g => chkT g.2) = chkT g.2 := by
  rw [h0]
  simp only [fstNo, if_true]
  refine fstNo_at (j := j) (fun (i : Nat) (x : Int) hi hx => ?_) (by rw [List.getElem?_map, hg]; rfl) h
  rw [List.getElem?_map] at hx
  cases hy : c.gs[i]? with
  | none => rw [hy] at hx; simp at hx
  | some y =>
   rw [hy] at hx
   simp at hx
   rw [← hx]
   exact hn i y hi hy
 unfold mayC
 rw [this, if_pos h]
theorem may_rest {c : Cls} (h0 : chkT c.h = 0) (hn : ∀ (i : Nat) (y : Int × Tm), i < c.gs.length → c.gs[i]? = some y → chkT y.2 = 0) : mayC c = mayR c := by
 have : fstNo (chkT c.h :: c.gs.map fun g => chkT g.2) = 0 := by
  refine fstNo_all (fun e he => ?_)
  rcases List.mem_cons.1 he with he | he
  ·rw [he]; exact h0
  ·obtain ⟨y, hy, rfl⟩ := List.mem_map.1 he
   obtain ⟨i, hi⟩ := List.mem_iff_getElem?.1 hy
   exact hn i y (List.getElem?_eq_some_iff.1 hi).1 hi
 unfold mayC
 rw [this, if_neg (by simp)]
 rfl
structure ClIn (D : Nat → Prop) (w : World) (c : Cls) (hA : Option Addr) (hc : Nat) (gA : Option Addr) (gc : Nat) : Prop where
 hd : TmIn D w c.h hA hc
 gs : GoalsIn D w c.gs gA gc
theorem ClIn.mods {D D' : Nat → Prop} {S : List Nat} {w w' : World} {c : Cls} {hA gA : Option Addr} {hc gc : Nat} (h : ClIn D w c hA hc gA gc) (hm : Mods S w w') (hS : ∀ k, D k → k ∉ S) (hD : ∀ k, D k → D' k) : ClIn D' w' c hA hc gA gc :=
 ⟨TmIn.mods hm hS hD h.hd, h.gs.mods hm hS hD⟩
theorem ClIn.ext {D : Nat → Prop} {w w' : World} {c : Cls} {hA gA : Option Addr} {hc gc : Nat} (h : ClIn D w c hA hc gA gc) (x : Ext w w') : ClIn D w' c hA hc gA gc := ⟨h.hd.ext x, h.gs.ext x⟩
theorem GoalsIn.lt {D : Nat → Prop} {w : World} {gs : List (Int × Tm)} {A : Option Addr} {c : Nat} (h : GoalsIn D w gs A c) : GoalsIn (fun k => k < w.heap.size) w gs A c := by
 refine ⟨h.le, fun j k t hj => ?_⟩
 obtain ⟨b, off, A', c', h1, h2, h3, q0, q⟩ := h.at_ j k t hj
 exact ⟨b, off, A', c', h1, cell_lt q0, h3.lt, q0, q⟩
theorem ClIn.lt {D : Nat → Prop} {w : World} {c : Cls} {hA gA : Option Addr} {hc gc : Nat} (h : ClIn D w c hA hc gA gc) : ClIn (fun k => k < w.heap.size) w c hA hc gA gc := ⟨h.hd.lt, h.gs.lt⟩
def clC (c : Cls) (hA : Option Addr) (hc : Nat) (gA : Option Addr) (gc : Nat) : Array Value := #[.int .i64 c.h.k, .int .i64 c.h.n, .string c.h.s, .slice hA c.h.l.length hc, .slice gA c.gs.length gc, .int .i64 c.vars]
end Go.El
namespace Go.Proofs.YtmnnhdegoapfcaaGreatDoor
open Go.RowKit Go.El
set_option maxRecDepth 100000 in
theorem odd_any (k : Int) (t : Tm) (At : Option Addr) (ct : Nat) (w : World) :
  Calls Tryz.prog 120 #[goalV (k, t) At ct] w fun e w' => e = .returned (.bool (oddP (k, t))) ∧ Ext w w' := by
 unfold goalV
 simp only
 have hx := ext_box w (.cells #[.int .i64 k, .int .i64 t.k, .int .i64 t.n, .string t.s, .slice At t.l.length ct] 42)
 have hB := Blk.new w 42 #[.int .i64 k, .int .i64 t.k, .int .i64 t.n, .string t.s, .slice At t.l.length ct]
 have q0 := hB.cell 0
 have HX := Lib.hid hx
 clear hx hB
 by_cases h1 : k < 1
 ·have HO : Hid (oddP (k, t) = true) := Lib.hid (by simp [oddP, h1])
  have d1 : decide (k < 1) = true := decide_eq_true h1
  go_enter Tryz.func120, Tryz.ntmps120
  go_wp2_with fail
  go_ret
  exact ⟨by rw [HO.out]; rfl, HX.out⟩
 ·have HO : Hid (oddP (k, t) = decide (4 < k)) := Lib.hid (by simp [oddP, h1])
  have d1 : decide (k < 1) = false := decide_eq_false h1
  go_enter Tryz.func120, Tryz.ntmps120
  go_wp2_with fail
  go_ret
  exact ⟨by rw [HO.out]; rfl, HX.out⟩
set_option maxRecDepth 100000 in
set_option maxHeartbeats 2000000 in
theorem gIndexF (gs : List (Int × Tm)) (A : Option Addr) (c : Nat) (D : Nat → Prop) (w : World) (h : GoalsIn D w gs A c) (hl : gs.length ≤ 1000000000) :
  Calls Tryz.prog 155 #[.slice A gs.length c, .func (Fn.func 120) #[] #[]] w fun e w' => e = .returned (.int .i64 (idxG gs)) ∧ Ext w w' := by
 have H := Lib.hid h
 clear h
 go_enter Tryz.func155, Tryz.ntmps155
 go_wp2_with fail
 go_loopw [8] (fun i wr => ∃ k : Nat, k ≤ gs.length ∧ i = .int .i64 k ∧ Hid (Ext w wr) ∧ Hid (∀ (j : Nat) (y : Int × Tm), j < k → gs[j]? = some y → oddP y = false)) (fun i _ => gs.length - (intOf i).toNat)
 case atStart => exact ⟨0, by omega, rfl, Lib.hid (Ext.refl w), Lib.hid (fun j y hj => by omega)⟩
 case round =>
  obtain ⟨k, hk, rfl, HX, HN⟩ := hrel
  by_cases hlt : k < gs.length
  ·have ho : gs[k]? = some gs[k] := List.getElem?_eq_getElem hlt
   generalize gs[k] = g at ho
   obtain ⟨kg, t⟩ := g
   obtain ⟨bb, off, A', c', rfl, _, _, q0, q1, q2, q3, q4⟩ := (H.out.ext HX.out).at_ k kg t ho
   have HC := Lib.hid (odd_any kg t A' c' wr)
   unfold goalV at HC
   simp only at HC
   cases hq : oddP (kg, t)
   ·have HNE := Lib.hid hq
    have HO := Lib.hid ho
    rw [hq] at HC
    clear hq ho
    go_wp2_with (go_at_call 120; refine HC.out.mono ?_; rintro e W1 ⟨rfl, hx⟩; have HX1 := Lib.hid (HX.out.trans hx); clear hx)
    go_roundw
    case rel =>
     exact ⟨k + 1, hlt, by go_num, HX1, Lib.hid (fun j y hj hy => by
      rcases Nat.lt_succ_iff_lt_or_eq.1 hj with h | rfl
      ·exact HN.out j y h hy
      ·rw [HO.out] at hy
       injection hy with hy
       rw [← hy]
       exact HNE.out)⟩
    case measure => simp [intOf]; omega
   ·have HR := Lib.hid (idxG_hit HN.out ho hq)
    rw [hq] at HC
    clear hq ho
    go_wp2_with (go_at_call 120; refine HC.out.mono ?_; rintro e W1 ⟨rfl, hx⟩; have HX1 := Lib.hid (HX.out.trans hx); clear hx)
    go_ret
    exact ⟨by rw [HR.out]; rfl, HX1.out⟩
  ·obtain rfl : k = gs.length := by omega
   have HR := Lib.hid (idxG_miss HN.out)
   go_wp2_with fail
   go_ret
   exact ⟨by rw [HR.out]; rfl, HX.out⟩
set_option maxRecDepth 100000 in
theorem gContainsF (gs : List (Int × Tm)) (A : Option Addr) (c : Nat) (D : Nat → Prop) (w : World) (h : GoalsIn D w gs A c) (hl : gs.length ≤ 1000000000) :
  Calls Tryz.prog 119 #[.slice A gs.length c, .func (Fn.func 120) #[] #[]] w fun e w' => e = .returned (.bool (gs.any oddP)) ∧ Ext w w' := by
 have HI := Lib.hid (gIndexF gs A c D w h hl)
 have HE := Lib.hid (idxG_any gs)
 generalize idxG gs = z at *
 go_enter Tryz.func119, Tryz.ntmps119
 go_wp2_with (go_at_call 155; refine HI.out.mono ?_; rintro e W1 ⟨rfl, hx⟩; have HX1 := Lib.hid hx; clear hx)
 go_ret
 exact ⟨by rw [← HE.out]; rfl, HX1.out⟩
end Go.Proofs.YtmnnhdegoapfcaaGreatDoor

/- Layer 14, the reference: what From answers; its boxes. -/
namespace Go.Proofs.YtmnnhdegoapfcaaGreatDoor
open Go.RowKit Go.El
def FrPost (w : World) (o : Option Cls) (e : Ending) (w' : World) : Prop :=
 (o = none ∧ (∃ (k n : Int) (s : ByteArray) (A : Option Addr) (m c : Nat), e = .returned (.tuple #[.agg #[.int .i64 0, .int .i64 0, .string ⟨#[]⟩, .slice none 0 0, .slice none 0 0, .int .i64 0], .agg #[.int .i64 k, .int .i64 n, .string s, .slice A m c], .bool false])) ∧ Ext w w')
 ∨ ∃ (c : Cls) (hA : Option Addr) (hc : Nat) (gA : Option Addr) (gc : Nat), o = some c ∧ e = .returned (.tuple #[.agg (clC c hA hc gA gc), .agg #[.int .i64 0, .int .i64 0, .string ⟨#[]⟩, .slice none 0 0], .bool true]) ∧ ClIn (fun b => b < w'.heap.size) w' c hA hc gA gc ∧ Ext w w'
abbrev zT : Array Value := #[.int .i64 0, .int .i64 0, .string ⟨#[]⟩, .slice none 0 0]
abbrev zC : Array Value := #[.int .i64 0, .int .i64 0, .string ⟨#[]⟩, .slice none 0 0, .slice none 0 0, .int .i64 0]
theorem fr_start (w : World) (c0 : Array Value) : Blk (((w.alloc (.cells c0 30)).alloc (.cells zC 34)).alloc (.cells zT 30)) w.heap.size 30 c0 ∧ Blk (((w.alloc (.cells c0 30)).alloc (.cells zC 34)).alloc (.cells zT 30)) (w.heap.size + 1) 34 zC ∧ Blk (((w.alloc (.cells c0 30)).alloc (.cells zC 34)).alloc (.cells zT 30)) (w.heap.size + 2) 30 zT ∧ Ext w (((w.alloc (.cells c0 30)).alloc (.cells zC 34)).alloc (.cells zT 30)) := by
 refine ⟨((Blk.new w _ _).alloc _).alloc _, ?_, ?_, (((Ext.refl w).alloc _).alloc _).alloc _⟩
 ·have := Blk.new (w.alloc (.cells c0 30)) 34 zC
  rw [World.size_alloc] at this
  exact this.alloc _
 ·have := Blk.new ((w.alloc (.cells c0 30)).alloc (.cells zC 34)) 30 zT
  rw [World.size_alloc, World.size_alloc] at this
  exact this
def st6 (W : World) (b : Nat) (k n : Int) (s : ByteArray) (A : Option Addr) (m c : Nat) (B : Option Addr) (m2 c2 : Nat) (v : Int) : World := (((((W.setCell ⟨b, 0, none⟩ (.int .i64 k)).setCell ⟨b, 1, none⟩ (.int .i64 n)).setCell ⟨b, 2, none⟩ (.string s)).setCell ⟨b, 3, none⟩ (.slice A m c)).setCell ⟨b, 4, none⟩ (.slice B m2 c2)).setCell ⟨b, 5, none⟩ (.int .i64 v)
theorem st6_blk {W : World} {b : Nat} {c0 c1 c2 c3 c4 c5 : Value} (h : Blk W b 34 #[c0, c1, c2, c3, c4, c5]) (k n : Int) (s : ByteArray) (A : Option Addr) (m c : Nat) (B : Option Addr) (m2 d2 : Nat) (v : Int) : Blk (st6 W b k n s A m c B m2 d2 v) b 34 #[.int .i64 k, .int .i64 n, .string s, .slice A m c, .slice B m2 d2, .int .i64 v] :=
 (((((h.set_ 0 (.int .i64 k)).set_ 1 (.int .i64 n)).set_ 2 (.string s)).set_ 3 (.slice A m c)).set_ 4 (.slice B m2 d2)).set_ 5 (.int .i64 v)
theorem st6_mods (W : World) (b : Nat) (S : List Nat) (hb : b ∈ S) (k n : Int) (s : ByteArray) (A : Option Addr) (m c : Nat) (B : Option Addr) (m2 d2 : Nat) (v : Int) : Mods S W (st6 W b k n s A m c B m2 d2 v) :=
 ((((((Mods.refl _ W).setCell (p := ⟨b, 0, none⟩) (.inl hb) _).setCell (p := ⟨b, 1, none⟩) (.inl hb) _).setCell (p := ⟨b, 2, none⟩) (.inl hb) _).setCell (p := ⟨b, 3, none⟩) (.inl hb) _).setCell (p := ⟨b, 4, none⟩) (.inl hb) _).setCell (p := ⟨b, 5, none⟩) (.inl hb) _
theorem st4_mods (W : World) (b : Nat) (S : List Nat) (hb : b ∈ S) (k n : Int) (s : ByteArray) (A : Option Addr) (m c : Nat) : Mods S W (st4 W b k n s A m c) :=
 ((((Mods.refl _ W).setCell (p := ⟨b, 0, none⟩) (.inl hb) _).setCell (p := ⟨b, 1, none⟩) (.inl hb) _).setCell (p := ⟨b, 2, none⟩) (.inl hb) _).setCell (p := ⟨b, 3, none⟩) (.inl hb) _
theorem st4_size (W : World) (b : Nat) (k n : Int) (s : ByteArray) (A : Option Addr) (m c : Nat) : (st4 W b k n s A m c).heap.size = W.heap.size := by simp [st4]
theorem st6_size (W : World) (b : Nat) (k n : Int) (s : ByteArray) (A : Option Addr) (m c : Nat) (B : Option Addr) (m2 d2 : Nat) (v : Int) : (st6 W b k n s A m c B m2 d2 v).heap.size = W.heap.size := by simp [st6]
def stR (W : World) (b : Nat) (k n : Int) (s : ByteArray) (A : Option Addr) (m c : Nat) (B : Option Addr) (m2 d2 : Nat) (v : Int) (k' n' : Int) (s' : ByteArray) (A' : Option Addr) (m' c' : Nat) : World := st4 (st6 W (b + 1) k n s A m c B m2 d2 v) (b + 2) k' n' s' A' m' c'
theorem stR_all {w W : World} (h1 : Blk W (w.heap.size + 1) 34 zC) (h2 : Blk W (w.heap.size + 2) 30 zT) (x : Ext w W) (k n : Int) (s : ByteArray) (A : Option Addr) (m c : Nat) (B : Option Addr) (m2 d2 : Nat) (v : Int) (k' n' : Int) (s' : ByteArray) (A' : Option Addr) (m' c' : Nat) :
  Blk (stR W w.heap.size k n s A m c B m2 d2 v k' n' s' A' m' c') (w.heap.size + 1) 34 #[.int .i64 k, .int .i64 n, .string s, .slice A m c, .slice B m2 d2, .int .i64 v] ∧ Blk (stR W w.heap.size k n s A m c B m2 d2 v k' n' s' A' m' c') (w.heap.size + 2) 30 #[.int .i64 k', .int .i64 n', .string s', .slice A' m' c'] ∧ Ext w (stR W w.heap.size k n s A m c B m2 d2 v k' n' s' A' m' c') ∧ Mods [w.heap.size + 1, w.heap.size + 2] W (stR W w.heap.size k n s A m c B m2 d2 v k' n' s' A' m' c') := by
 have hm := Mods.trans (st6_mods W (w.heap.size + 1) [w.heap.size + 1, w.heap.size + 2] (by simp) k n s A m c B m2 d2 v) (st4_mods (st6 W (w.heap.size + 1) k n s A m c B m2 d2 v) (w.heap.size + 2) [w.heap.size + 1, w.heap.size + 2] (by simp) k' n' s' A' m' c')
 refine ⟨(st6_blk h1 k n s A m c B m2 d2 v).mods (st4_mods _ (w.heap.size + 2) [w.heap.size + 2] (by simp) k' n' s' A' m' c') (by simp), st4_blk (h2.mods (st6_mods W (w.heap.size + 1) [w.heap.size + 1] (by simp) k n s A m c B m2 d2 v) (by simp)) k' n' s' A' m' c', ext_mods x hm (fun k hk => by simp at hk; omega), hm⟩
abbrev aT : Tm := .mk 3 0 ⟨#[116, 114, 117, 101]⟩ []
structure FrBx (w V : World) (hb bb ub : Nat) (h b u : TmP) : Prop where
 hk : Blk V hb 30 #[.int .i64 h.1.k, .int .i64 h.1.n, .string h.1.s, .slice h.2.1 h.1.l.length h.2.2]
 bk : Blk V bb 30 #[.int .i64 b.1.k, .int .i64 b.1.n, .string b.1.s, .slice b.2.1 b.1.l.length b.2.2]
 uk : Blk V ub 30 #[.int .i64 u.1.k, .int .i64 u.1.n, .string u.1.s, .slice u.2.1 u.1.l.length u.2.2]
 cz : Blk V (w.heap.size + 1) 34 zC
 tz : Blk V (w.heap.size + 2) 30 zT
 ext : Ext w V
 ht : TmIn (fun k => w.heap.size + 3 ≤ k ∧ k < V.heap.size ∧ k ≠ hb ∧ k ≠ bb) V h.1 h.2.1 h.2.2
 bt : TmIn (fun k => w.heap.size + 3 ≤ k ∧ k < V.heap.size ∧ k ≠ hb ∧ k ≠ bb) V b.1 b.2.1 b.2.2
 ut : TmIn (fun k => w.heap.size + 3 ≤ k ∧ k < V.heap.size ∧ k ≠ hb ∧ k ≠ bb) V u.1 u.2.1 u.2.2
 h3 : w.heap.size + 3 ≤ hb
 b3 : w.heap.size + 3 ≤ bb
 hbn : hb ≠ bb
 hun : ub ≠ hb
 bun : ub ≠ bb
theorem FrBx.go {w V V' : World} {hb bb ub : Nat} {h b u : TmP} (f : FrBx w V hb bb ub h b u) (x : Ext V V') : FrBx w V' hb bb ub h b u :=
 ⟨f.hk.ext x, f.bk.ext x, f.uk.ext x, f.cz.ext x, f.tz.ext x, f.ext.trans x, (f.ht.ext x).mono (fun _ hk => ⟨hk.1, Nat.lt_of_lt_of_le hk.2.1 x.size, hk.2.2⟩), (f.bt.ext x).mono (fun _ hk => ⟨hk.1, Nat.lt_of_lt_of_le hk.2.1 x.size, hk.2.2⟩), (f.ut.ext x).mono (fun _ hk => ⟨hk.1, Nat.lt_of_lt_of_le hk.2.1 x.size, hk.2.2⟩), f.h3, f.b3, f.hbn, f.hun, f.bun⟩
theorem fr_A {w V WW : World} {ub hb bb : Nat} {u : Tm} {Au : Option Addr} {cu : Nat} (HB : Blk V ub 30 #[.int .i64 u.k, .int .i64 u.n, .string u.s, .slice Au u.l.length cu]) (HY : Blk V (w.heap.size + 1) 34 zC) (HZ : Blk V (w.heap.size + 2) 30 zT) (HX : Ext w V) (HT : TmIn (fun k => w.heap.size + 3 ≤ k ∧ k < V.heap.size) V u Au cu) (hub : w.heap.size + 3 ≤ ub)
  (x : Ext V WW) (h1 : Blk WW hb 30 #[.int .i64 u.k, .int .i64 u.n, .string u.s, .slice Au u.l.length cu]) (h2 : Blk WW bb 30 #[.int .i64 3, .int .i64 0, .string ⟨#[116, 114, 117, 101]⟩, .slice none 0 0]) (n1 : V.heap.size ≤ hb) (n2 : V.heap.size ≤ bb) (n3 : hb ≠ bb) : FrBx w WW hb bb ub (u, Au, cu) (aT, none, 0) (u, Au, cu) := by
 have hl := HB.lt
 have hs := x.size
 have ht : TmIn (fun k => w.heap.size + 3 ≤ k ∧ k < WW.heap.size ∧ k ≠ hb ∧ k ≠ bb) WW u Au cu := (HT.ext x).mono (fun k hk => ⟨hk.1, by omega, by omega, by omega⟩)
 exact ⟨h1, h2, HB.ext x, HY.ext x, HZ.ext x, HX.trans x, ht, TmsIn.term (TmsIn.nil _ _ _ _) 3 0 _, ht, by omega, by omega, n3, by omega, by omega⟩
theorem blk_2nd (W : World) (c1 c2 : Array Value) : Blk ((W.alloc (.cells c1 30)).alloc (.cells c2 30)) (W.heap.size + 1) 30 c2 := by
 have := Blk.new (W.alloc (.cells c1 30)) 30 c2
 rw [World.size_alloc] at this
 exact this
theorem blk_st4 (W : World) (b : Nat) (k n : Int) (s : ByteArray) (A : Option Addr) (m c : Nat) (cs : Array Value) : Blk ((st4 W b k n s A m c).alloc (.cells cs 30)) W.heap.size 30 cs := by
 have := Blk.new (st4 W b k n s A m c) 30 cs
 rw [st4_size] at this
 exact this
theorem st4_far {W : World} {b d : Nat} {cs : Array Value} {t : TypeId} (h : Blk W d t cs) (hne : d ≠ b) (k n : Int) (s : ByteArray) (A : Option Addr) (m c : Nat) : Blk (st4 W b k n s A m c) d t cs := h.mods (st4_mods W b [b] (by simp) k n s A m c) (by simpa using hne)
section
variable {w V W3 : World} {ub : Nat} {u : Tm} {Au : Option Addr} {cu : Nat}
structure FrIn (w V : World) (ub : Nat) (u : Tm) (Au : Option Addr) (cu : Nat) : Prop where
 HB : Blk V ub 30 #[.int .i64 u.k, .int .i64 u.n, .string u.s, .slice Au u.l.length cu]
 HY : Blk V (w.heap.size + 1) 34 zC
 HZ : Blk V (w.heap.size + 2) 30 zT
 HX : Ext w V
 HT : TmIn (fun k => w.heap.size + 3 ≤ k ∧ k < V.heap.size) V u Au cu
 hub : w.heap.size + 3 ≤ ub
theorem fr_s1 (h : FrIn w V ub u Au cu) (J3 : Ext V W3) : Hid (FrBx w (((W3).alloc (.cells #[.int .i64 u.k, .int .i64 u.n, .string u.s, .slice Au u.l.length cu] 30)).alloc (.cells #[.int .i64 3, .int .i64 0, .string ⟨#[116, 114, 117, 101]⟩, .slice none 0 0] 30)) (W3.heap.size) (W3.heap.size + 1) ub (u, Au, cu) (aT, none, 0) (u, Au, cu)) := Lib.hid (fr_A h.HB h.HY h.HZ h.HX h.HT h.hub ((J3.alloc _).alloc _) ((Blk.new W3 _ _).alloc _) (blk_2nd W3 _ _) J3.size (Nat.le_succ_of_le J3.size) (Nat.ne_of_lt (Nat.lt_succ_self _)))
theorem fr_s2 (h : FrIn w V ub u Au cu) (J3 : Ext V W3) : Hid (FrBx w (((W3).alloc (.cells #[.int .i64 3, .int .i64 0, .string ⟨#[116, 114, 117, 101]⟩, .slice none 0 0] 30)).alloc (.cells #[.int .i64 u.k, .int .i64 u.n, .string u.s, .slice Au u.l.length cu] 30)) (W3.heap.size + 1) (W3.heap.size) ub (u, Au, cu) (aT, none, 0) (u, Au, cu)) := Lib.hid (fr_A h.HB h.HY h.HZ h.HX h.HT h.hub ((J3.alloc _).alloc _) (blk_2nd W3 _ _) ((Blk.new W3 _ _).alloc _) (Nat.le_succ_of_le J3.size) J3.size (Nat.ne_of_gt (Nat.lt_succ_self _)))
theorem fr_s3 (h : FrIn w V ub u Au cu) (J1 : Blk W3 V.heap.size 30 zT) (J3 : Ext V W3) (g1 : ¬ V.heap.size = W3.heap.size) : Hid (FrBx w ((((((W3).setCell ⟨V.heap.size, 0, none⟩ (.int .i64 u.k)).setCell ⟨V.heap.size, 1, none⟩ (.int .i64 u.n)).setCell ⟨V.heap.size, 2, none⟩ (.string u.s)).setCell ⟨V.heap.size, 3, none⟩ (.slice Au u.l.length cu)).alloc (.cells #[.int .i64 3, .int .i64 0, .string ⟨#[116, 114, 117, 101]⟩, .slice none 0 0] 30)) (V.heap.size) (W3.heap.size) ub (u, Au, cu) (aT, none, 0) (u, Au, cu)) := Lib.hid (fr_A h.HB h.HY h.HZ h.HX h.HT h.hub ((st4_ext J3 (Nat.le_refl _) _ _ _ _ _ _).alloc _) ((st4_blk J1 _ _ _ _ _ _).alloc _) (blk_st4 W3 _ _ _ _ _ _ _ _) (Nat.le_refl _) J3.size g1)
theorem fr_s4 (h : FrIn w V ub u Au cu) (J1 : Blk W3 V.heap.size 30 zT) (J3 : Ext V W3) (g2 : ¬ W3.heap.size = V.heap.size) : Hid (FrBx w ((((((W3).setCell ⟨V.heap.size, 0, none⟩ (.int .i64 3)).setCell ⟨V.heap.size, 1, none⟩ (.int .i64 0)).setCell ⟨V.heap.size, 2, none⟩ (.string ⟨#[116, 114, 117, 101]⟩)).setCell ⟨V.heap.size, 3, none⟩ (.slice none 0 0)).alloc (.cells #[.int .i64 u.k, .int .i64 u.n, .string u.s, .slice Au u.l.length cu] 30)) (W3.heap.size) (V.heap.size) ub (u, Au, cu) (aT, none, 0) (u, Au, cu)) := Lib.hid (fr_A h.HB h.HY h.HZ h.HX h.HT h.hub ((st4_ext J3 (Nat.le_refl _) _ _ _ _ _ _).alloc _) (blk_st4 W3 _ _ _ _ _ _ _ _) ((st4_blk J1 _ _ _ _ _ _).alloc _) J3.size (Nat.le_refl _) g2)
theorem fr_s5 (h : FrIn w V ub u Au cu) (J1 : Blk W3 V.heap.size 30 zT) (J2 : Blk W3 (V.heap.size + 1) 30 zT) (J3 : Ext V W3) : Hid (FrBx w (((((((((W3).setCell ⟨V.heap.size, 0, none⟩ (.int .i64 u.k)).setCell ⟨V.heap.size, 1, none⟩ (.int .i64 u.n)).setCell ⟨V.heap.size, 2, none⟩ (.string u.s)).setCell ⟨V.heap.size, 3, none⟩ (.slice Au u.l.length cu)).setCell ⟨V.heap.size + 1, 0, none⟩ (.int .i64 3)).setCell ⟨V.heap.size + 1, 1, none⟩ (.int .i64 0)).setCell ⟨V.heap.size + 1, 2, none⟩ (.string ⟨#[116, 114, 117, 101]⟩)).setCell ⟨V.heap.size + 1, 3, none⟩ (.slice none 0 0)) (V.heap.size) (V.heap.size + 1) ub (u, Au, cu) (aT, none, 0) (u, Au, cu)) := Lib.hid (fr_A h.HB h.HY h.HZ h.HX h.HT h.hub (st4_ext (st4_ext J3 (Nat.le_refl _) _ _ _ _ _ _) (Nat.le_succ _) _ _ _ _ _ _) (st4_far (st4_blk J1 _ _ _ _ _ _) (Nat.ne_of_lt (Nat.lt_succ_self _)) _ _ _ _ _ _) (st4_blk (st4_far J2 (Nat.ne_of_gt (Nat.lt_succ_self _)) _ _ _ _ _ _) _ _ _ _ _ _) (Nat.le_refl _) (Nat.le_succ _) (Nat.ne_of_lt (Nat.lt_succ_self _)))
theorem fr_s6 (h : FrIn w V ub u Au cu) (J1 : Blk W3 V.heap.size 30 zT) (J2 : Blk W3 (V.heap.size + 1) 30 zT) (J3 : Ext V W3) : Hid (FrBx w (((((((((W3).setCell ⟨V.heap.size + 1, 0, none⟩ (.int .i64 u.k)).setCell ⟨V.heap.size + 1, 1, none⟩ (.int .i64 u.n)).setCell ⟨V.heap.size + 1, 2, none⟩ (.string u.s)).setCell ⟨V.heap.size + 1, 3, none⟩ (.slice Au u.l.length cu)).setCell ⟨V.heap.size, 0, none⟩ (.int .i64 3)).setCell ⟨V.heap.size, 1, none⟩ (.int .i64 0)).setCell ⟨V.heap.size, 2, none⟩ (.string ⟨#[116, 114, 117, 101]⟩)).setCell ⟨V.heap.size, 3, none⟩ (.slice none 0 0)) (V.heap.size + 1) (V.heap.size) ub (u, Au, cu) (aT, none, 0) (u, Au, cu)) := Lib.hid (fr_A h.HB h.HY h.HZ h.HX h.HT h.hub (st4_ext (st4_ext J3 (Nat.le_succ _) _ _ _ _ _ _) (Nat.le_refl _) _ _ _ _ _ _) (st4_far (st4_blk J2 _ _ _ _ _ _) (Nat.ne_of_gt (Nat.lt_succ_self _)) _ _ _ _ _ _) (st4_blk (st4_far J1 (Nat.ne_of_lt (Nat.lt_succ_self _)) _ _ _ _ _ _) _ _ _ _ _ _) (Nat.le_succ _) (Nat.le_refl _) (Nat.ne_of_gt (Nat.lt_succ_self _)))
end
theorem FrBx.put {w V : World} {hb bb ub : Nat} {h b u h2 b2 : TmP} (f : FrBx w V hb bb ub h b u) (t1 : TmIn (fun k => w.heap.size + 3 ≤ k ∧ k < V.heap.size ∧ k ≠ hb ∧ k ≠ bb) V h2.1 h2.2.1 h2.2.2) (t2 : TmIn (fun k => w.heap.size + 3 ≤ k ∧ k < V.heap.size ∧ k ≠ hb ∧ k ≠ bb) V b2.1 b2.2.1 b2.2.2) :
  FrBx w (st4 (st4 V hb h2.1.k h2.1.n h2.1.s h2.2.1 h2.1.l.length h2.2.2) bb b2.1.k b2.1.n b2.1.s b2.2.1 b2.1.l.length b2.2.2) hb bb ub h2 b2 u := by
 have hm : Mods [hb, bb] V (st4 (st4 V hb h2.1.k h2.1.n h2.1.s h2.2.1 h2.1.l.length h2.2.2) bb b2.1.k b2.1.n b2.1.s b2.2.1 b2.1.l.length b2.2.2) := Mods.trans (st4_mods V hb [hb, bb] (by simp) _ _ _ _ _ _) (st4_mods _ bb [hb, bb] (by simp) _ _ _ _ _ _)
 have hs : (st4 (st4 V hb h2.1.k h2.1.n h2.1.s h2.2.1 h2.1.l.length h2.2.2) bb b2.1.k b2.1.n b2.1.s b2.2.1 b2.1.l.length b2.2.2).heap.size = V.heap.size := by rw [st4_size, st4_size]
 have h3 := f.h3
 have b3 := f.b3
 have hT : ∀ {t : Tm} {A : Option Addr} {c : Nat}, TmIn (fun k => w.heap.size + 3 ≤ k ∧ k < V.heap.size ∧ k ≠ hb ∧ k ≠ bb) V t A c → TmIn (fun k => w.heap.size + 3 ≤ k ∧ k < (st4 (st4 V hb h2.1.k h2.1.n h2.1.s h2.2.1 h2.1.l.length h2.2.2) bb b2.1.k b2.1.n b2.1.s b2.2.1 b2.1.l.length b2.2.2).heap.size ∧ k ≠ hb ∧ k ≠ bb) (st4 (st4 V hb h2.1.k h2.1.n h2.1.s h2.2.1 h2.1.l.length h2.2.2) bb b2.1.k b2.1.n b2.1.s b2.2.1 b2.1.l.length b2.2.2) t A c := fun t => TmIn.mods hm (fun k hk => by simp; exact ⟨hk.2.2.1, hk.2.2.2⟩) (fun k hk => ⟨hk.1, by rw [hs]; exact hk.2.1, hk.2.2⟩) t
 exact ⟨st4_far (st4_blk f.hk _ _ _ _ _ _) f.hbn _ _ _ _ _ _, st4_blk (st4_far f.bk (Ne.symm f.hbn) _ _ _ _ _ _) _ _ _ _ _ _, st4_far (st4_far f.uk f.hun _ _ _ _ _ _) f.bun _ _ _ _ _ _, st4_far (st4_far f.cz (by omega) _ _ _ _ _ _) (by omega) _ _ _ _ _ _, st4_far (st4_far f.tz (by omega) _ _ _ _ _ _) (by omega) _ _ _ _ _ _, st4_ext (st4_ext f.ext (by omega) _ _ _ _ _ _) (by omega) _ _ _ _ _ _, hT t1, hT t2, hT f.ut, f.h3, f.b3, f.hbn, f.hun, f.bun⟩
theorem szT_kid {k n : Int} {s : ByteArray} {l : List Tm} {j : Nat} {a : Tm} (h : l[j]? = some a) : szT a ≤ szT (.mk k n s l) := by
 have := szL_get h
 simp only [szT]
 omega
theorem head_sz (u : Tm) : szT (headT u) ≤ szT u := by
 unfold headT
 split
 ·next hc =>
  obtain ⟨a, b, hl, e1, e2, g1, g2⟩ := isC_get hc
  rw [e1]
  obtain ⟨k, n, s, l⟩ := u
  exact szT_kid g1
 ·exact Nat.le_refl _
theorem body_sz (u : Tm) : szT (bodyT u) ≤ szT u + 1 := by
 unfold bodyT
 split
 ·next hc =>
  obtain ⟨a, b, hl, e1, e2, g1, g2⟩ := isC_get hc
  rw [e2]
  obtain ⟨k, n, s, l⟩ := u
  exact Nat.le_succ_of_le (szT_kid g2)
 ·simp [szT, szL]
theorem al_one {V W : World} (x : Ext (V.alloc (.cells zT 30)).drew W) : Blk W V.heap.size 30 zT ∧ V.heap.size < W.heap.size ∧ Ext V W := by
 have h := ((Blk.new V 30 zT).ext (Ext.refl _).drew).ext x
 exact ⟨h, h.lt, (((Ext.refl V).alloc _).drew).trans x⟩
theorem al_two {V W : World} (x : Ext ((V.alloc (.cells zT 30)).alloc (.cells zT 30)).drew W) : Blk W V.heap.size 30 zT ∧ Blk W (V.heap.size + 1) 30 zT ∧ Ext V W := by
 have h := (((Blk.new V 30 zT).alloc (.cells zT 30)).ext (Ext.refl _).drew).ext x
 have h2 := ((Blk.new (V.alloc (.cells zT 30)) 30 zT).ext (Ext.refl _).drew).ext x
 rw [World.size_alloc] at h2
 exact ⟨h, h2, ((((Ext.refl V).alloc _).alloc _).drew).trans x⟩
def FromC : Prop := ∀ (t : Tm) (A : Option Addr) (c : Nat) (w : World) (D : Nat → Prop), (∀ k, D k → k < w.heap.size) → TmIn D w t A c → szT t ≤ 100000 →
  Calls Tryz.prog 12 #[tmVal t A c] w (FrPost w (fromF biF t))
end Go.Proofs.YtmnnhdegoapfcaaGreatDoor
