/- Layer 10, the program: what slices.Backward hands back, as an iterator. -/
import Derived.Test.YtgcdhffeacdegaaGreatDoorH24
import Derived.RangeFuncNested
import Derived.RangeFuncBound
import Derived.RangeFuncCalls
import Derived.RangeFuncLeaves
import Derived.Shelf.Abstract
import Derived.Shelf.RegionOpen
import Derived.WalkKit
import Derived.OwnWalkIn
import Derived.TacticsInMore
import Derived.LoopNIn
import Derived.LoopIn
namespace Go.Proofs.YtgcdhffeacdegaaGreatDoor
open Go.RowKit Go.El Go.Shelf
attribute [local go_sem] Oper.semAt_some
theorem tm_cells4 {w : World} {A : Option Addr} {M : List TmP} (h : El.Src w A M.length 4 (flat tmC M)) {k : Nat} {p : TmP} (hk : M[k]? = some p) : ∃ b off, A = some ⟨b, off, none⟩ ∧ w.cell? ⟨b, off + k * 4, none⟩ = some (.int .i64 (Tm.k p.1)) ∧ w.cell? ⟨b, off + k * 4 + 1, none⟩ = some (.int .i64 (Tm.n p.1)) ∧ w.cell? ⟨b, off + k * 4 + 2, none⟩ = some (.string (Tm.s p.1)) ∧ w.cell? ⟨b, off + k * 4 + 3, none⟩ = some (.slice p.2.1 (Tm.l p.1).length p.2.2) := by
 have hlt : k < M.length := (List.getElem?_eq_some_iff.1 hk).1
 obtain ⟨b, off, rfl, hc⟩ := El.Src.form h (by omega) (by omega)
 refine ⟨b, off, rfl, ?_, ?_, ?_, ?_⟩
 ·exact hc (k * 4) _ (flat_at tmC_len M k 0 p hk (by omega))
 ·exact hc (k * 4 + 1) _ (flat_at tmC_len M k 1 p hk (by omega))
 ·exact hc (k * 4 + 2) _ (flat_at tmC_len M k 2 p hk (by omega))
 ·exact hc (k * 4 + 3) _ (flat_at tmC_len M k 3 p hk (by omega))
theorem bkTake {M : List TmP} {k i : Nat} (h : k + i + 1 = M.length) : ∃ p, M[i]? = some p ∧ p ∈ M ∧ M.reverse.take (k + 1) = M.reverse.take k ++ [p] := by
 have hi : i < M.length := by omega
 refine ⟨M[i], List.getElem?_eq_getElem hi, List.getElem_mem hi, ?_⟩
 rw [List.take_add_one, List.getElem?_reverse (by omega)]
 have : M.length - 1 - k = i := by omega
 rw [this, List.getElem?_eq_getElem hi]
 rfl
abbrev BkX (M : List TmP) := { x : Nat × TmP // x.2 ∈ M }
def bkE {M : List TmP} (x : BkX M) : Array Value := #[.int .i64 (x.1.1 : Int), .agg #[.int .i64 (Tm.k x.1.2.1), .int .i64 (Tm.n x.1.2.1), .string (Tm.s x.1.2.1), .slice x.1.2.2.1 (Tm.l x.1.2.1).length x.1.2.2.2]]
def bkP {M : List TmP} (x : BkX M) : TmP := x.1.2
def KeepB (n₀ Bn : Nat) (W W' : World) : Prop := Below n₀ W W' ∧ ∀ v, W.cell? ⟨Bn, 0, none⟩ = some v → W'.cell? ⟨Bn, 0, none⟩ = some v
theorem KeepB.trans {n₀ Bn : Nat} {A B C : World} (h : KeepB n₀ Bn A B) (k : KeepB n₀ Bn B C) : KeepB n₀ Bn A C := ⟨h.1.trans k.1, fun v hv => k.2 v (h.2 v hv)⟩
theorem KeepB.refl (n₀ Bn : Nat) (W : World) : KeepB n₀ Bn W W := ⟨Below.refl _ _, fun _ h => h⟩
theorem src_below {n₀ : Nat} {A : Option Addr} {m k : Nat} {xs : List Value} {w W : World} (h : El.Src w A m k xs) (hA : ∀ a, A = some a → a.block < n₀) (hb : Below n₀ w W) : El.Src W A m k xs :=
 ⟨h.1, fun hm => let ⟨a, ha, hc⟩ := h.2 hm; ⟨a, ha, fun j u hu => (hb.cell (p := a.add j) (by have := hA a ha; unfold Addr.add; split <;> exact this)).trans (hc j u hu)⟩⟩
set_option maxRecDepth 100000 in
set_option maxHeartbeats 4000000 in
theorem bk1_in (F : Fence) (n : Nat) (hf : F.fn 203) (hro : F.round = none) (hn : 1 ≤ n) (l Bn n₀ : Nat) (A : Option Addr) (c : Nat) (M : List TmP) (hl : M.length ≤ 70000) (J Jx : List (BkX M) → World → Prop)
  (hY : ∀ pre x W, J pre W → pre.length < M.length → YieldAt F (n - 1) Tryz.prog l (bkE x) W fun e W' =>
   (e = .returned (.bool true) ∧ J (pre ++ [x]) W' ∧ KeepB n₀ Bn W W') ∨ (e = .returned (.bool false) ∧ Jx (pre ++ [x]) W'))
  (W : World) (hBn : W.cell? ⟨Bn, 0, none⟩ = some (.slice A M.length c)) (hS : El.Src W A M.length 4 (flat tmC M)) (hA : ∀ a, A = some a → a.block < n₀) (h0 : J [] W) :
  CallsIn F n Tryz.prog 203 #[.func (.yield l) #[] #[], .pointer (some ⟨Bn, 0, none⟩)] W fun e W' => (∃ v, e = .returned v) ∧
   ((∃ ys, ys.map bkP = M.reverse ∧ J ys W') ∨ (∃ pre : List (BkX M), True ∧ Jx pre W')) := by
 refine callsIn_of_wp Tryz.func203 rfl hf ?_ hro
 simp only [Tryz.ntmps203, List.size_toArray, List.length_cons, List.length_nil, Nat.reduceAdd, Nat.reduceSub, Array.replicate_succ, Array.replicate_zero, List.push_toArray, List.append_toArray, List.nil_append, List.cons_append]
 gi_wp2
 gi_loopw [3] (fun i wr => ∃ (pre : List (BkX M)), i = .int .i64 ((M.length : Int) - 1 - pre.length) ∧ pre.length ≤ M.length ∧ pre.map bkP = M.reverse.take pre.length ∧ J pre wr ∧ KeepB n₀ Bn W wr)
  (fun i _ => (intOf i + 1).toNat)
 case atStart => exact ⟨[], by simp, by simp, by simp, h0, KeepB.refl _ _ _⟩
 case round =>
  obtain ⟨pre, rfl, hpl, hpm, hJs, hK⟩ := hrel
  by_cases hlt : pre.length < M.length
  ·obtain ⟨i, hi⟩ : ∃ i, pre.length + i + 1 = M.length := ⟨M.length - 1 - pre.length, by omega⟩
   obtain ⟨p, hp, hpM, htk⟩ := bkTake hi
   have hii : ((M.length : Int) - 1 - pre.length) = (i : Int) := by omega
   rw [hii]
   obtain ⟨fn, tmps, assign, body, hy, hR⟩ := hY pre ⟨(i, p), hpM⟩ wr hJs hlt
   dsimp only [bkE] at hy
   have hB := hK.2 _ hBn
   obtain ⟨b, off, rfl, d0, d1, d2, d3⟩ := tm_cells4 (src_below hS hA hK.1) hp
   have hq1 : (i : Int) < (M.length : Int) := by omega
   have HK := Lib.hid hK
   have HPM := Lib.hid hpm
   have HTK := Lib.hid htk
   have HI := Lib.hid hi
   have HPL := Lib.hid hpl
   have HHI := Lib.hid hii
   clear hY hK hpm htk hi hpl hii hS hA hBn hp
   gi_wp2
   refine hR.mono ?_
   rintro e W3 (⟨rfl, hJ3, hk3⟩ | ⟨rfl, hJx3⟩)
   ·gi_wp2
    go_roundw
    case rel => exact ⟨pre ++ [⟨(i, p), hpM⟩], by have := HI.out; simp; omega, by have := HI.out; simp; omega, by rw [List.map_append, HPM.out, List.length_append, List.length_singleton, HTK.out]; rfl, hJ3, HK.out.trans hk3⟩
    case measure => simp [intOf]
   ·gi_wp2
    refine bodyPost_ret (results_none rfl _ _ _) rfl ?_
    exact ⟨⟨_, rfl⟩, .inr ⟨_, trivial, hJx3⟩⟩
  ·have hpe : pre.length = M.length := by omega
   have hii : ((M.length : Int) - 1 - pre.length) = -1 := by omega
   rw [hii]
   gi_wp2
   go_end0
   refine ⟨⟨_, rfl⟩, .inl ⟨pre, ?_, hJs⟩⟩
   rw [hpm, hpe, ← List.length_reverse, List.take_length]
theorem bk_stops (F : Fence) (n : Nat) (hf : F.fn 203) (hro : F.round = none) (hn : 1 ≤ n) (Bn n₀ : Nat) (A : Option Addr) (c : Nat) (M : List TmP) (hl : M.length ≤ 70000) (w : World) (hBl : Bn < w.heap.size)
  (hBn : w.cell? ⟨Bn, 0, none⟩ = some (.slice A M.length c)) (hS : El.Src w A M.length 4 (flat tmC M)) (hA : ∀ a, A = some a → a.block < n₀) :
  SeqStopsK F n Tryz.prog 203 #[.pointer (some ⟨Bn, 0, none⟩)] (bkE (M := M)) (KeepB n₀ Bn) (fun ys => ys.map bkP = M.reverse) (fun _ => True) M.length w := fun l J Jx W hW _ _ hY h0 =>
 bk1_in F n hf hro hn l Bn n₀ A c M hl J Jx hY W ((hW.cell (p := ⟨Bn, 0, none⟩) hBl).trans hBn) (hS.ext hW) hA h0
set_option maxHeartbeats 1000000 in
theorem bk_in (F : Fence) (n : Nat) (hf : F.fn 187) (hro : F.round = none) (A : Option Addr) (len c : Nat) (w : World) :
  CallsIn F n Tryz.prog 187 #[.slice A len c] w fun e w' => e = .returned (.func (.func 203) #[] #[.pointer (some ⟨w.heap.size, 0, none⟩)]) ∧ w' = w.alloc (.cells #[.slice A len c] 30) := by
 refine callsIn_of_wp Tryz.func187 rfl hf ?_ hro
 simp only [Tryz.ntmps187, List.size_toArray, List.length_cons, List.length_nil, Nat.reduceAdd, Nat.reduceSub, Array.replicate_succ, Array.replicate_zero, List.push_toArray, List.append_toArray, List.nil_append, List.cons_append]
 gi_wp2
 go_ret
 exact ⟨rfl, rfl⟩
end Go.Proofs.YtgcdhffeacdegaaGreatDoor

/- Layer 10, the program: the walk of term.List. -/
namespace Go.Proofs.YtgcdhffeacdegaaGreatDoor
open Go.RowKit Go.El Go.Shelf
attribute [local go_sem] Oper.semAt_some
theorem tm_grown {D : Nat → Prop} {w w' : World} {row : Option Nat} (hg : w.grownBy w' row) (hr : ∀ r, row = some r → ∃ o : Obj, w.heap[r]? = some o ∧ o.isCells = false) {t : Tm} {A : Option Addr} {c : Nat} (h : TmIn D w t A c) : TmIn D w' t A c := by
 induction h with
 | mk k n s l A cap ch hl hk hs hc ih =>
  refine .mk k n s l A cap ch hl ih (fun hne => ?_) hc
  obtain ⟨b, off, hA, hb, hcell⟩ := hs hne
  refine ⟨b, off, hA, hb, fun j t c ht hcj => ?_⟩
  obtain ⟨h0, h1, h2, h3⟩ := hcell j t c ht hcj
  exact ⟨cell_kept h0 hg hr, cell_kept h1 hg hr, cell_kept h2 hg hr, cell_kept h3 hg hr⟩
theorem tm_lt {D : Nat → Prop} {w : World} {t : Tm} {A : Option Addr} {c : Nat} (h : TmIn D w t A c) : TmIn (fun k => D k ∧ k < w.heap.size) w t A c := by
 induction h with
 | mk k n s l A cap ch hl hk hs hc ih =>
  refine .mk k n s l A cap ch hl ih (fun hne => ?_) hc
  obtain ⟨b, off, hA, hb, hcell⟩ := hs hne
  refine ⟨b, off, hA, ⟨hb, ?_⟩, hcell⟩
  have h0 : 0 < l.length := List.length_pos_iff.2 hne
  obtain ⟨h1, _⟩ := hcell 0 _ _ (List.getElem?_eq_getElem h0) (List.getElem?_eq_getElem (by omega))
  exact cell_lt h1
theorem blk_grown {w w' : World} {row : Option Nat} {g : Nat} {T : TypeId} {cs : Array Value} (h : Blk w g T cs) (hg : w.grownBy w' row) (hr : ∀ r, row = some r → ∃ o : Obj, w.heap[r]? = some o ∧ o.isCells = false) : Blk w' g T cs := by
 refine (hg.block g h.lt (fun e => ?_)).trans h
 obtain ⟨o, ho, hc⟩ := hr g e.symm
 rw [show w.heap[g]? = _ from h] at ho
 cases ho
 cases hc
theorem keepsFrom_ext {B : Nat} {W W' : World} (h : Ext W W') : KeepsFrom B W W' := ⟨h.size, fun _ _ _ hk _ => (h.block _ (Array.getElem?_eq_some_iff.1 hk).1).trans hk⟩
def bkT {M : List TmP} (u : Tm) (pre : List (BkX M)) : Tm := (pre.map (fun x => (bkP x).1)).foldl (fun t x => .mk 4 0 dotB [x, t]) u
theorem bkT_snoc {M : List TmP} (u : Tm) (pre : List (BkX M)) (x : BkX M) : bkT u (pre ++ [x]) = .mk 4 0 dotB [x.1.2.1, bkT u pre] := by
 simp [bkT, bkP]
theorem bkT_all {M : List TmP} (u : Tm) (pre : List (BkX M)) (h : pre.map bkP = M.reverse) : bkT u pre = listT (M.map (·.1)) u := by
 have : pre.map (fun x => (bkP x).1) = (M.map (·.1)).reverse := by
  rw [← List.map_reverse, ← h, List.map_map]
  rfl
 unfold bkT listT
 rw [this, List.foldl_reverse]
def tmA (t : Tm) (A : Option Addr) (c : Nat) : Array Value := #[.int .i64 (Tm.k t), .int .i64 (Tm.n t), .string (Tm.s t), .slice A (Tm.l t).length c]
def BkI {M : List TmP} (D : Nat → Prop) (w : World) (A : Option Addr) (c : Nat) (u : Tm) (pre : List (BkX M)) (W : World) : Prop :=
 (∃ A' c', Blk W w.heap.size 32 (tmA (bkT u pre) A' c') ∧ TmIn (fun k => D k ∨ w.heap.size + 2 ≤ k) W (bkT u pre) A' c') ∧ Blk W (w.heap.size + 1) 32 #[.int .i64 0, .int .i64 0, .string ⟨#[]⟩, .slice none 0 0] ∧ Blk W (w.heap.size + 2) 30 #[.slice A M.length c]
set_option maxRecDepth 100000 in
set_option maxHeartbeats 4000000 in
theorem tlist_any (M : List TmP) (A : Option Addr) (c : Nat) (u : Tm) (Au : Option Addr) (cu : Nat) (w : World) (D : Nat → Prop) (hs : El.Src w A M.length 4 (flat tmC M)) (hk : ∀ p ∈ M, TmIn D w p.1 p.2.1 p.2.2) (hu : TmIn D w u Au cu) (hA : ∀ a, A = some a → a.block < w.heap.size) (hD : ∀ k, D k → k < w.heap.size) (hl : M.length ≤ 70000) :
  Calls Tryz.prog 169 #[.slice A M.length c, .agg #[.int .i64 (Tm.k u), .int .i64 (Tm.n u), .string (Tm.s u), .slice Au (Tm.l u).length cu]] w fun e w' => ∃ A' c', e = .returned (.agg #[.int .i64 (Tm.k (listT (M.map (·.1)) u)), .int .i64 (Tm.n (listT (M.map (·.1)) u)), .string (Tm.s (listT (M.map (·.1)) u)), .slice A' (Tm.l (listT (M.map (·.1)) u)).length c']) ∧ TmIn (fun k => D k ∨ (w.heap.size ≤ k ∧ k < w'.heap.size)) w' (listT (M.map (·.1)) u) A' c' ∧ Ext w w' := by
 refine (callsIn_wide (n := 3)).1 ?_
 refine callsIn_of_wp_marks Tryz.func169 rfl trivial ?_ rfl
 simp only [Tryz.ntmps169, List.size_toArray, List.length_cons, List.length_nil, Nat.reduceAdd, Nat.reduceSub, Array.replicate_succ, Array.replicate_zero, List.push_toArray, List.append_toArray, List.nil_append, List.cons_append]
 gi_wp2_with (refine ⟨trivial, ?_⟩; gi_at_call 187; refine (bk_in _ _ trivial rfl _ _ _ _).mono ?_; rintro e w' ⟨rfl, rfl⟩)
 have x0 := (((Ext.refl w).alloc (.cells (tmA u Au cu) 32)).alloc (.cells #[.int .i64 0, .int .i64 0, .string ⟨#[]⟩, .slice none 0 0] 32)).alloc (.cells #[.slice A M.length c] 30)
 have b0 := ((Blk.new w 32 (tmA u Au cu)).ext (ext_box4 _ (.cells #[.int .i64 0, .int .i64 0, .string ⟨#[]⟩, .slice none 0 0] 32))).ext (ext_box4 _ (.cells #[.slice A M.length c] 30))
 have b1 := (Blk.new (w.alloc (.cells (tmA u Au cu) 32)) 32 #[.int .i64 0, .int .i64 0, .string ⟨#[]⟩, .slice none 0 0]).ext (ext_box4 _ (.cells #[.slice A M.length c] 30))
 have b2 := Blk.new ((w.alloc (.cells (tmA u Au cu) 32)).alloc (.cells #[.int .i64 0, .int .i64 0, .string ⟨#[]⟩, .slice none 0 0] 32)) 30 #[.slice A M.length c]
 simp only [World.size_alloc] at b1 b2
 have hsz : (((w.alloc (.cells (tmA u Au cu) 32)).alloc (.cells #[.int .i64 0, .int .i64 0, .string ⟨#[]⟩, .slice none 0 0] 32)).alloc (.cells #[.slice A M.length c] 30)).heap.size = w.heap.size + 3 := by simp
 rw [show (.cells #[.int .i64 (Tm.k u), .int .i64 (Tm.n u), .string (Tm.s u), .slice Au (Tm.l u).length cu] 32 : Obj) = .cells (tmA u Au cu) 32 from rfl]
 generalize ((w.alloc (.cells (tmA u Au cu) 32)).alloc (.cells #[.int .i64 0, .int .i64 0, .string ⟨#[]⟩, .slice none 0 0] 32)).alloc (.cells #[.slice A M.length c] 30) = W0 at *
 refine wpIn_rangeFunc_ownH rfl (by omega) (gf := 203) (lb := #[.pointer (some ⟨w.heap.size + 1 + 1, 0, none⟩)]) rfl trivial (enters_of Tryz.func203 (by kernel_rfl) rfl)
  (bk_stops Fence.wide (3 - 1) trivial rfl (by omega) (w.heap.size + 1 + 1) w.heap.size A c M hl W0 (by omega) (b2.cell 0) (hs.ext x0) hA)
  KeepB.trans (fun W l o o' hl ho hc hw => ⟨belowK_b (w := W0) x0.size W l o o' hl ho hc hw, fun v hv => cell_kept hv (grownBy_putObj' W l o') (fun r e => by cases e; exact ⟨o, ho, hc⟩)⟩) (Below.refl _ _) (fun _ => rfl)
  (fun pre W => BkI D w A c u pre W ∧ Below w.heap.size w W) (fun _ _ _ => False)
  (OwnFrom.and (Own.from (fun s X Y row h hg hr => ?own) _) (ownFrom_below (Nat.le_refl _) x0.size)) (fun _ _ _ _ _ h _ _ => h)
  ⟨⟨⟨Au, cu, b0, (hu.ext x0).mono (fun k hk => .inl hk)⟩, b1, b2⟩, x0⟩
  (fun x a' W => ∃ Bx, w.heap.size + 3 ≤ Bx ∧ Blk W Bx 32 (tmA x.1.2.1 x.1.2.2.1 x.1.2.2.2) ∧ a' = { tmps := #[.slice A M.length c, .agg (tmA u Au cu), undef, .pointer (some ⟨w.heap.size, 0, none⟩), .pointer (some ⟨w.heap.size + 1, 0, none⟩), undef, .pointer (some ⟨Bx, 0, none⟩), .slice A M.length c, .func (.func 203) #[] #[.pointer (some ⟨w.heap.size + 1 + 1, 0, none⟩)], .int .i64 (x.1.1 : Int), .agg (tmA x.1.2.1 x.1.2.2.1 x.1.2.2.2), undef, undef, undef, undef, undef], defers := [] })
  (fun x a' => Own.from (fun _ X Y row h hg hr => ?ownx) _) ?assign ?body ?done ?stop
 case own =>
  obtain ⟨⟨A', c', h1, h2⟩, h3, h4⟩ := h
  exact ⟨⟨A', c', blk_grown h1 hg hr, tm_grown hg hr h2⟩, blk_grown h3 hg hr, blk_grown h4 hg hr⟩
 case ownx =>
  obtain ⟨Bx, h1, h2, h3⟩ := h
  exact ⟨Bx, h1, blk_grown h2 hg hr, h3⟩
 case assign =>
  rintro l pre x W K ⟨⟨⟨A', c', h1, h2⟩, h3, h4⟩, h5⟩ hK
  dsimp only [bkE]
  gi_wp2
  have hx := ext_box4 W (.cells (tmA x.1.2.1 x.1.2.2.1 x.1.2.2.2) 32)
  have h4l := h4.lt
  exact hK _ _ (keepsFrom_ext hx) ⟨hx.mono h5.size, fun v hv => hx.cell hv⟩ ⟨⟨⟨A', c', h1.ext hx, h2.ext hx⟩, h3.ext hx, h4.ext hx⟩, h5.trans (hx.mono h5.size)⟩ ⟨W.heap.size, by omega, Blk.new W _ _, rfl⟩
 case body =>
  rintro l pre x a' W _ _ ⟨⟨⟨A', c', h1, h2⟩, h3, h4⟩, h5⟩ ⟨Bx, hBx, bx, rfl⟩ _
  have hd : 1 ≤ 3 - 1 - 1 := by omega
  obtain ⟨⟨xi, p, q, d⟩, hxM⟩ := x
  have HK := Lib.hid ((hk _ hxM).ext h5)
  have HT := Lib.hid (bkT_snoc u pre ⟨(xi, p, q, d), hxM⟩)
  dsimp only at HK HT bx
  generalize bkT u pre = t at *
  have z1 : Blk W w.heap.size 32 #[.int .i64 (Tm.k t), .int .i64 (Tm.n t), .string (Tm.s t), .slice A' (Tm.l t).length c'] := h1
  have z2 : Blk W Bx 32 #[.int .i64 (Tm.k p), .int .i64 (Tm.n p), .string (Tm.s p), .slice q (Tm.l p).length d] := bx
  have HS := Lib.hid (El.Src.new W #[.int .i64 (Tm.k p), .int .i64 (Tm.n p), .string (Tm.s p), .slice q (Tm.l p).length d, .int .i64 (Tm.k t), .int .i64 (Tm.n t), .string (Tm.s t), .slice A' (Tm.l t).length c'] 32 2 4 rfl)
  have HC := Lib.hid (pComp_any dotB [(p, q, d), (t, A', c')] (some ⟨W.heap.size, 0, none⟩) 2 (W.alloc (.cells #[.int .i64 (Tm.k p), .int .i64 (Tm.n p), .string (Tm.s p), .slice q (Tm.l p).length d, .int .i64 (Tm.k t), .int .i64 (Tm.n t), .string (Tm.s t), .slice A' (Tm.l t).length c'] 32)) (fun k => D k ∨ w.heap.size + 2 ≤ k) HS.out (fun e he => by
   simp only [List.mem_cons, List.not_mem_nil, or_false] at he
   rcases he with rfl | rfl
   ·exact (HK.out.mono (fun k hk => .inl hk)).ext (ext_box4 _ _)
   ·exact h2.ext (ext_box4 _ _)) (by simp) (by simp))
  simp only [List.length_cons, List.length_nil, Nat.reduceAdd, dotB] at HC
  have k1 := z1.cell
  have f1 := z1.frozen
  have k2 := z2.cell
  have H1 := Lib.hid z1
  have H3 := Lib.hid h3
  have H4 := Lib.hid h4
  have H5 := Lib.hid h5
  clear h1 bx h2 h3 h4 h5 z1 z2
  clear hs hk hu hA
  gi_wp2_with (refine ⟨trivial, ?_⟩; gi_at_call 67; refine (CallsIn.inRound l (callsIn_wide.2 HC.out)).mono ?_; rintro e W5 ⟨A5, c5, rfl, ht5, hx5⟩; have T5 := Lib.hid ht5; have X5 := Lib.hid ((ext_box4 W _).trans hx5); have Z5 := Lib.hid (H1.out.ext X5.out); have zc := Z5.out.cell; have zf := Z5.out.frozen; clear ht5 hx5)
  have hlt4 := H4.out.lt
  have hx5 : Below w.heap.size W W5 := X5.out.mono (by omega)
  have hset : Below w.heap.size W ((((W5.setCell ⟨w.heap.size, 0, none⟩ (.int .i64 4)).setCell ⟨w.heap.size, 1, none⟩ (.int .i64 0)).setCell ⟨w.heap.size, 2, none⟩ (.string ⟨#[46]⟩)).setCell ⟨w.heap.size, 3, none⟩ (.slice A5 2 c5)) := (((hx5.setCell (p := ⟨w.heap.size, 0, none⟩) (Nat.le_refl _) _).setCell (p := ⟨w.heap.size, 1, none⟩) (Nat.le_refl _) _).setCell (p := ⟨w.heap.size, 2, none⟩) (Nat.le_refl _) _).setCell (p := ⟨w.heap.size, 3, none⟩) (Nat.le_refl _) _
  have hz3 := ((((H3.out.ext X5.out).far (p := ⟨w.heap.size, 0, none⟩) (by simp) (.int .i64 4)).far (p := ⟨w.heap.size, 1, none⟩) (by simp) (.int .i64 0)).far (p := ⟨w.heap.size, 2, none⟩) (by simp) (.string ⟨#[46]⟩)).far (p := ⟨w.heap.size, 3, none⟩) (by simp) (.slice A5 2 c5)
  have hz4 := ((((H4.out.ext X5.out).far (p := ⟨w.heap.size, 0, none⟩) (by simp) (.int .i64 4)).far (p := ⟨w.heap.size, 1, none⟩) (by simp) (.int .i64 0)).far (p := ⟨w.heap.size, 2, none⟩) (by simp) (.string ⟨#[46]⟩)).far (p := ⟨w.heap.size, 3, none⟩) (by simp) (.slice A5 2 c5)
  have hb := blk_set4 Z5.out (.int .i64 4) (.int .i64 0) (.string ⟨#[46]⟩) (.slice A5 2 c5)
  have ht : TmIn (fun k => D k ∨ w.heap.size + 2 ≤ k) ((((W5.setCell ⟨w.heap.size, 0, none⟩ (.int .i64 4)).setCell ⟨w.heap.size, 1, none⟩ (.int .i64 0)).setCell ⟨w.heap.size, 2, none⟩ (.string ⟨#[46]⟩)).setCell ⟨w.heap.size, 3, none⟩ (.slice A5 2 c5)) (.mk 4 0 dotB [p, t]) A5 c5 :=
   TmIn.mods (S := [w.heap.size]) (((((Mods.refl [w.heap.size] W5).setCell (p := ⟨w.heap.size, 0, none⟩) (.inl (by simp)) _).setCell (p := ⟨w.heap.size, 1, none⟩) (.inl (by simp)) _).setCell (p := ⟨w.heap.size, 2, none⟩) (.inl (by simp)) _).setCell (p := ⟨w.heap.size, 3, none⟩) (.inl (by simp)) _)
    (fun k hk => by rcases hk with hk | hk; have := hD k hk; simp; omega; simp; omega) (fun _ hk => hk) (T5.out.mono (fun k hk => by rcases hk with hk | ⟨hk, _⟩; exact hk; simp at hk; exact .inr (by omega)))
  refine ⟨(keepsFrom_ext X5.out).trans ((((KeepsOthers.setCell _ _ _).trans (KeepsOthers.setCell _ _ _)).trans ((KeepsOthers.setCell _ _ _).trans (KeepsOthers.setCell _ _ _))).from _), ⟨hset, fun v hv => ?_⟩, ⟨⟨A5, c5, ?_, ?_⟩, hz3, hz4⟩, H5.out.trans hset⟩
  ·have h1 : W.cell? ⟨w.heap.size + 1 + 1, 0, none⟩ = some (.slice A M.length c) := H4.out.cell 0
   rw [h1] at hv
   injection hv with hv
   subst hv
   exact hz4.cell 0
  ·rw [HT.out]
   exact hb
  ·rw [HT.out]
   exact ht
 case done =>
  rintro Dk ys W hDk hys ⟨⟨⟨A', c', h1, h2⟩, h3, h4⟩, h5⟩ hKd
  have HT := bkT_all u ys hys
  rw [HT] at h1 h2
  obtain ⟨t, ht0⟩ : ∃ t, listT (M.map (fun (p : TmP) => p.1)) u = t := ⟨_, rfl⟩
  rw [ht0] at h1 h2
  have z1 : Blk W w.heap.size 32 #[.int .i64 (Tm.k t), .int .i64 (Tm.n t), .string (Tm.s t), .slice A' (Tm.l t).length c'] := h1
  have k1 := z1.cell
  have k3 := h3.cell
  have f3 := h3.frozen
  gi_wp2
  obtain ⟨W4, hW4⟩ : ∃ W4, (((W.setCell ⟨w.heap.size + 1, 0, none⟩ (.int .i64 (Tm.k t))).setCell ⟨w.heap.size + 1, 1, none⟩ (.int .i64 (Tm.n t))).setCell ⟨w.heap.size + 1, 2, none⟩ (.string (Tm.s t))).setCell ⟨w.heap.size + 1, 3, none⟩ (.slice A' (Tm.l t).length c') = W4 := ⟨_, rfl⟩
  have hz := blk_set4 h3 (.int .i64 (Tm.k t)) (.int .i64 (Tm.n t)) (.string (Tm.s t)) (.slice A' (Tm.l t).length c')
  have hK4 := (((KeepsOthers.setCell W ⟨w.heap.size + 1, 0, none⟩ (.int .i64 (Tm.k t))).trans (KeepsOthers.setCell _ ⟨w.heap.size + 1, 1, none⟩ (.int .i64 (Tm.n t)))).trans ((KeepsOthers.setCell _ ⟨w.heap.size + 1, 2, none⟩ (.string (Tm.s t))).trans (KeepsOthers.setCell _ ⟨w.heap.size + 1, 3, none⟩ (.slice A' (Tm.l t).length c')))).same Dk _ hKd rfl
  have hb4 := (((h5.setCell (p := ⟨w.heap.size + 1, 0, none⟩) (by simp) (.int .i64 (Tm.k t))).setCell (p := ⟨w.heap.size + 1, 1, none⟩) (by simp) (.int .i64 (Tm.n t))).setCell (p := ⟨w.heap.size + 1, 2, none⟩) (by simp) (.string (Tm.s t))).setCell (p := ⟨w.heap.size + 1, 3, none⟩) (by simp) (.slice A' (Tm.l t).length c')
  have ht4 := TmIn.mods (S := [w.heap.size + 1]) (D' := fun k => D k ∨ w.heap.size + 2 ≤ k) (((((Mods.refl [w.heap.size + 1] W).setCell (p := ⟨w.heap.size + 1, 0, none⟩) (.inl (by simp)) (.int .i64 (Tm.k t))).setCell (p := ⟨w.heap.size + 1, 1, none⟩) (.inl (by simp)) (.int .i64 (Tm.n t))).setCell (p := ⟨w.heap.size + 1, 2, none⟩) (.inl (by simp)) (.string (Tm.s t))).setCell (p := ⟨w.heap.size + 1, 3, none⟩) (.inl (by simp)) (.slice A' (Tm.l t).length c')) (fun k hk => by rcases hk with hk | hk; have := hD k hk; simp; omega; simp; omega) (fun _ hk => hk) h2
  rw [hW4] at hz hK4 hb4 ht4 ⊢
  have hg := grownBy_putObj' W4 Dk (.deferred none)
  have hr : ∀ r, some Dk = some r → ∃ o : Obj, W4.heap[r]? = some o ∧ o.isCells = false := fun r e => by cases e; exact ⟨_, hK4, rfl⟩
  have kc := (blk_grown hz hg hr).cell
  refine ⟨by simp, .inl ⟨_, _, rfl, run_takeDeferred hK4, ?_⟩⟩
  rw [ht0]
  refine ⟨.agg #[.int .i64 (Tm.k t), .int .i64 (Tm.n t), .string (Tm.s t), .slice A' (Tm.l t).length c'], ?_, A', c', rfl, (tm_lt (tm_grown hg hr ht4)).mono (fun k hk => ?_), hb4.trans (belowK_b (w := w) (Nat.le_refl _) W4 Dk _ _ (by omega) hK4 rfl rfl)⟩
  ·simp [results, Tryz.results169, go_sem, kc]
  ·rcases hk with ⟨hk | hk, hl⟩
   ·exact .inl hk
   ·exact .inr ⟨by omega, hl⟩
 case stop =>
  rintro D c pre W _ _ h _
  exact h.elim
end Go.Proofs.YtgcdhffeacdegaaGreatDoor

/- Layer 10, the program: the walk of list. -/
namespace Go.Proofs.YtgcdhffeacdegaaGreatDoor
open Go.RowKit Go.El
def listM (O : Ops) (n : Nat) (x : PR (List Tm)) : PR Tm := match x with
 | .bad q => .bad q
 | .ok l q ms => if isPu q 124 then wantM 93 (fun u => listT l u) (termN O n 999 q.tail ms) else wantP 93 (listT l (atomT nilB)) q ms
theorem list_no {O : Ops} {n : Nat} {x : PR (List Tm)} {l : List Tm} {r : List TokV} {ns : List ByteArray} {bad : Bool} (h : resIs x l r ns bad) (hs : (!bad && isPu r 124) = false) :
  resIs (listM O n x) (listT l (atomT nilB)) (if (!bad && isPu r 93) = true then r.tail else r) ns (bad || !isPu r 93) := by
 cases x with
 | bad q =>
  obtain ⟨rfl, rfl⟩ := h
  exact ⟨rfl, rfl⟩
 | ok b q ms =>
  obtain ⟨rfl, rfl, rfl, rfl⟩ := h
  have hs2 : isPu q 124 = false := by simpa using hs
  show resIs (if isPu q 124 then _ else _) _ _ _ _
  rw [hs2]
  show resIs (wantP 93 _ q ms) _ _ _ _
  unfold wantP
  cases isPu q 93
  ·exact ⟨rfl, rfl⟩
  ·exact ⟨rfl, rfl, rfl, rfl⟩
theorem list_yes {O : Ops} {n : Nat} {x : PR (List Tm)} {l : List Tm} {r : List TokV} {ns : List ByteArray} {bad : Bool} (h : resIs x l r ns bad) (hs : (!bad && isPu r 124) = true) {u : Tm} {r2 : List TokV} {ns2 : List ByteArray} {b2 : Bool} (h2 : resIs (termN O n 999 r.tail ns) u r2 ns2 b2) :
  resIs (listM O n x) (listT l u) (if (!b2 && isPu r2 93) = true then r2.tail else r2) ns2 (b2 || !isPu r2 93) := by
 cases x with
 | bad q =>
  obtain ⟨rfl, rfl⟩ := h
  cases hs
 | ok b q ms =>
  obtain ⟨rfl, rfl, rfl, rfl⟩ := h
  have hs2 : isPu q 124 = true := by simpa using hs
  show resIs (if isPu q 124 then _ else _) _ _ _ _
  rw [hs2]
  exact want_res (c := 93) (g := fun u => listT b u) h2
theorem size_set4 (W : World) (z : Nat) (a b c d : Value) : (set4 W z a b c d).heap.size = W.heap.size := by simp [set4]
theorem clr_set4 {S : List Nat} {nv : Value} {W : World} {k : Nat} (h : Clr2 S nv W k) (z : Nat) (a b c d : Value) : Clr2 S nv (set4 W z a b c d) k := ⟨h.1, h.2.1, by rw [size_set4]; exact h.2.2⟩
theorem blk_set4_far {W : World} {g z : Nat} {T : TypeId} {cs : Array Value} (h : Blk W g T cs) (hz : g ≠ z) (a b c d : Value) : Blk (set4 W z a b c d) g T cs :=
 (((h.far (p := ⟨z, 0, none⟩) (by simpa using hz) a).far (p := ⟨z, 1, none⟩) (by simpa using hz) b).far (p := ⟨z, 2, none⟩) (by simpa using hz) c).far (p := ⟨z, 3, none⟩) (by simpa using hz) d
set_option maxRecDepth 100000 in
set_option maxHeartbeats 8000000 in
theorem paList {f : PF} {N : Nat} (IH : PTermC f N) {r : List TokV} (hN : r.length ≤ N) {w : World} {nv : Value} {ns : List ByteArray} (h : PaAt f w r nv ns false) {n : Nat} (hn : 5 * r.length + 6 ≤ n) :
  Calls Tryz.prog 139 #[.pointer (some ⟨f.pb, 0, none⟩)] w (TPost f w nv r (listM f.O n (rowN f.O n false [] r ns))) := by
 have hx := ext_box4 w (.cells #[.int .i64 0, .int .i64 0, .string ⟨#[]⟩, .slice none 0 0] 32)
 have HO := Lib.hid h.old
 have HR := Lib.hid (paRow_all IH hN (h.ext hx) hn)
 have HZ := Lib.hid (Blk.new w 32 #[.int .i64 0, .int .i64 0, .string ⟨#[]⟩, .slice none 0 0])
 have HC := Lib.hid (clr_box h (Nat.le_refl _) HZ.out.lt)
 have S0 := Lib.hid (PStep.ext (S := f.S) (nv := nv) hx)
 have HSZ := Lib.hid (World.size_alloc w (.cells #[.int .i64 0, .int .i64 0, .string ⟨#[]⟩, .slice none 0 0] 32))
 have HNN := Lib.hid hN
 have HM := Lib.hid hn
 have hp : f.pb < w.heap.size := h.blk.lt
 have HA := fun W => Lib.hid (pAtom_any nilB W)
 unfold nilB at HA
 obtain ⟨X, hX⟩ : ∃ X, rowN f.O n false [] r ns = X := ⟨_, rfl⟩
 rw [hX] at HR ⊢
 clear h hx hN hn hX
 go_enter Tryz.func139, Tryz.ntmps139
 go_upto_region 1 with fail
 generalize w.alloc (.cells #[.int .i64 0, .int .i64 0, .string ⟨#[]⟩, .slice none 0 0] 32) = W0 at *
 go_upto_region 2 with (go_at_call 141; refine HR.out.mono ?_; rintro e W1 ⟨v1, M, nv1, r1, ns1, b1, rfl, hres, h1, s1, hr1, hne, hml, hl1⟩; obtain ⟨A1, c1, rfl⟩ := own_value hr1.own; have HRES0 := Lib.hid hres; have H1 := Lib.hid h1; have S1 := Lib.hid s1; have R1 := Lib.hid hr1; have HML := Lib.hid hml; have L1 := Lib.hid hl1; clear hres h1 s1 hr1 hne hml hl1)
 have Z1 := Lib.hid (HZ.out.mods S1.out.mods HC.out.no)
 have C1 := Lib.hid (S1.out.clr HC.out)
 go_upto_region 3 with (go_at_call 103; refine (HA _).out.mono ?_; rintro e W2 ⟨rfl, x2⟩; have X2 := Lib.hid x2; clear x2)
 have H2 := Lib.hid (H1.out.ext X2.out)
 have hx3 := ext_box4 W2 (.cells #[.int .i64 3, .int .i64 0, .string ⟨#[91, 93]⟩, .slice none 0 0] 32)
 have H3 := Lib.hid (H2.out.ext hx3)
 have S3 := Lib.hid (PStep.ext (S := f.S) (nv := nv1) (X2.out.trans hx3))
 have Z3 := Lib.hid (Z1.out.ext (X2.out.trans hx3))
 have C3 := Lib.hid (S3.out.clr C1.out)
 have B3 : Hid (Blk (W2.alloc (.cells #[.int .i64 3, .int .i64 0, .string ⟨#[91, 93]⟩, .slice none 0 0] 32)) W2.heap.size 32 #[.int .i64 (Tm.k (atomT nilB)), .int .i64 (Tm.n (atomT nilB)), .string (Tm.s (atomT nilB)), .slice none (Tm.l (atomT nilB)).length 0]) := Lib.hid (Blk.new W2 32 #[.int .i64 3, .int .i64 0, .string ⟨#[91, 93]⟩, .slice none 0 0])
 have D3 := Lib.hid (clr_box H2.out (Nat.le_refl _) B3.out.lt)
 have G3 : Hid (W1.heap.size ≤ W2.heap.size) := Lib.hid X2.out.size
 have G0 : Hid (W0.heap.size ≤ W2.heap.size) := Lib.hid (Nat.le_trans S1.out.size X2.out.size)
 have hgw : w.heap.size < W2.heap.size := by have := G0.out; have := HSZ.out; omega
 clear hx3 H2 X2 Z1
 generalize W2.alloc (.cells #[.int .i64 3, .int .i64 0, .string ⟨#[91, 93]⟩, .slice none 0 0] 32) = W3 at *
 generalize W2.heap.size = gB at *
 have HS := Lib.hid (paSkip ⟨#[124]⟩ H3.out)
 rw [isPs_lit] at HS
 cases hs : (!b1 && isPu r1 124)
 ·rw [hs] at HS
  have HRES := Lib.hid (list_no (O := f.O) (n := n) HRES0.out hs)
  have LX := L1
  clear hs
  go_upto_region 5 with (go_at_call 138; refine HS.out.mono ?_; rintro e WX ⟨rfl, h4, s4⟩; have HX := Lib.hid h4; have S4 := Lib.hid s4; clear h4 s4)
  have SXW : Hid (W0.heap.size ≤ WX.heap.size) := Lib.hid (Nat.le_trans S1.out.size (Nat.le_trans S3.out.size S4.out.size))
  have SX := Lib.hid (S0.out.trans (S1.out.trans (S3.out.trans S4.out)))
  have RX := Lib.hid ((R1.out.step S3.out).step S4.out)
  have ZX := Lib.hid (Z3.out.mods S4.out.mods C3.out.no)
  have CZ := Lib.hid (S4.out.clr C3.out)
  have BX := Lib.hid (B3.out.mods S4.out.mods D3.out.no)
  have CB := Lib.hid (S4.out.clr D3.out)
  have TX : Hid (TmIn (NewT f.S nv1 W0 WX) WX (atomT nilB) none 0) := Lib.hid (TmsIn.term (TmsIn.nil _ _ _ _) 3 0 nilB)
  generalize atomT nilB = u at *
  have HW := Lib.hid (paWant ⟨#[93]⟩ HX.out)
  rw [isPs_lit] at HW
  have bcx := BX.out.cell
  go_upto_region 6 with (go_at_call 143; refine HW.out.mono ?_; rintro e W7 ⟨rfl, h7, s7⟩; have H7 := Lib.hid h7; have S7 := Lib.hid s7; clear h7 s7)
  have B7 := Lib.hid (BX.out.mods S7.out.mods CB.out.no)
  have Z7 := Lib.hid (ZX.out.mods S7.out.mods CZ.out.no)
  have R7 := Lib.hid (RX.out.step S7.out)
  have T7 := Lib.hid (pstep_tmN S7.out TX.out)
  have HL := Lib.hid (tlist_any M A1 c1 u none 0 W7 (NewT f.S nv1 W0 W7) (Src.of_own R7.out.own) (fun p hp => (R7.out.kid p hp).mono (fun k hk => hk.1)) T7.out (fun a ha => (R7.out.far a.block (by rw [ha]; rfl)).2.2.2) (fun k hk => hk.2.2.2) HML.out)
  have b7 := B7.out.cell
  clear bcx
  go_wp2_with (go_at_call 169; refine HL.out.mono ?_; rintro e W8 ⟨A8, c8, rfl, ht8, hx8⟩; have T8 := Lib.hid ht8; have X8 := Lib.hid hx8; have Z8 := Lib.hid (Z7.out.ext hx8); have zc := (Z7.out.ext hx8).cell; have zf := (Z7.out.ext hx8).frozen; clear ht8 hx8)
  obtain ⟨tr, htr⟩ : ∃ tr, listT (M.map (fun (p : TmP) => p.1)) u = tr := ⟨_, rfl⟩
  rw [htr] at T8 HRES ⊢
  have kb := blk_set4 Z8.out (.int .i64 (Tm.k tr)) (.int .i64 (Tm.n tr)) (.string (Tm.s tr)) (.slice A8 (Tm.l tr).length c8)
  have kc := kb.cell
  have h9 := (H7.out.ext X8.out).set4 HO.out (Nat.le_refl _) Z8.out (.int .i64 (Tm.k tr)) (.int .i64 (Tm.n tr)) (.string (Tm.s tr)) (.slice A8 (Tm.l tr).length c8)
  have s9 := pstep_set4 (SX.out.trans (S7.out.trans (PStep.ext X8.out))) (Nat.le_refl _) (.int .i64 (Tm.k tr)) (.int .i64 (Tm.n tr)) (.string (Tm.s tr)) (.slice A8 (Tm.l tr).length c8)
  have hnew : TmIn (NewT f.S nv1 W0 W8) W8 tr A8 c8 := T8.out.mono (fun k hk => by
   rcases hk with hk | ⟨hk1, hk2⟩
   ·exact hk.step (PStep.ext X8.out)
   ·exact ⟨Nat.le_trans (Nat.le_trans SXW.out S7.out.size) hk1, clr_box H7.out hk1 hk2⟩)
  have t9 := tmN_wide (w := w) (tmN_set4 hnew (z := w.heap.size) (by have := HSZ.out; omega) (.int .i64 (Tm.k tr)) (.int .i64 (Tm.n tr)) (.string (Tm.s tr)) (.slice A8 (Tm.l tr).length c8)) (by have := HSZ.out; omega)
  refine bodyPost_ret (v := .agg #[.int .i64 (Tm.k tr), .int .i64 (Tm.n tr), .string (Tm.s tr), .slice A8 (Tm.l tr).length c8]) ?_ rfl ⟨tr, A8, c8, nv1, _, _, _, rfl, HRES.out, h9, s9, t9, Nat.le_trans (tail_le _ _) LX.out⟩
  simp [results, Tryz.results139, go_sem, kc]
 ·have hs2 := hs
  rw [hs] at HS
  have hb : b1 = false := by
   cases b1
   ·rfl
   ·cases hs2
  have hpu : isPu r1 124 = true := by
   subst hb
   simpa using hs2
  subst hb
  have HSH := Lib.hid hs
  have htl : r1.tail.length + 1 = r1.length := by
   cases r1 with
   | nil => cases hpu
   | cons a b => rfl
  have HTL := Lib.hid htl
  clear hs hs2 hpu htl
  go_upto_region 4 with (go_at_call 138; refine HS.out.mono ?_; rintro e W4 ⟨rfl, h4, s4⟩; have H4 := Lib.hid h4; have S4 := Lib.hid s4; clear h4 s4)
  have HT4 := Lib.hid (IH r1.tail ns1 nv1 W4 n 999 (by have := HTL.out; have := L1.out; have := HNN.out; omega) H4.out (by have := HTL.out; have := L1.out; have := HM.out; omega))
  have Z4 := Lib.hid (Z3.out.mods S4.out.mods C3.out.no)
  have C4 := Lib.hid (S4.out.clr C3.out)
  have B4 := Lib.hid (B3.out.mods S4.out.mods D3.out.no)
  have D4 := Lib.hid (S4.out.clr D3.out)
  have G4 : Hid (W0.heap.size ≤ W4.heap.size) := Lib.hid (Nat.le_trans S1.out.size (Nat.le_trans S3.out.size S4.out.size))
  go_upto_region 5 with (go_at_call 41; refine HT4.out.mono ?_; rintro e W5 ⟨u, Au, cu, nv5, r5, ns5, b5, rfl, hres, h5, s5, ht5, hl5⟩; have HRES5 := Lib.hid hres; have H5 := Lib.hid h5; have S5 := Lib.hid s5; have T5 := Lib.hid ht5; have L5 := Lib.hid hl5; have B5 := Lib.hid (B4.out.mods s5.mods D4.out.no); have fb5 := (B4.out.mods s5.mods D4.out.no).frozen; have cb5 := (B4.out.mods s5.mods D4.out.no).cell; clear hres h5 s5 ht5 hl5)
  rw [set4_eq]
  have HX := Lib.hid (H5.out.set4 HO.out (Nat.le_of_lt hgw) B5.out (.int .i64 (Tm.k u)) (.int .i64 (Tm.n u)) (.string (Tm.s u)) (.slice Au (Tm.l u).length cu))
  have SX := Lib.hid (pstep_set4 (S0.out.trans (S1.out.trans (S3.out.trans (S4.out.trans S5.out)))) (Nat.le_of_lt hgw) (.int .i64 (Tm.k u)) (.int .i64 (Tm.n u)) (.string (Tm.s u)) (.slice Au (Tm.l u).length cu))
  have RX := Lib.hid (R1.out.step (pstep_set4 (S3.out.trans (S4.out.trans S5.out)) G3.out (.int .i64 (Tm.k u)) (.int .i64 (Tm.n u)) (.string (Tm.s u)) (.slice Au (Tm.l u).length cu)))
  have ZX := Lib.hid (blk_set4_far (Z4.out.mods S5.out.mods C4.out.no) (Nat.ne_of_lt hgw) (.int .i64 (Tm.k u)) (.int .i64 (Tm.n u)) (.string (Tm.s u)) (.slice Au (Tm.l u).length cu))
  have CZ := Lib.hid (clr_set4 (S5.out.clr C4.out) gB (.int .i64 (Tm.k u)) (.int .i64 (Tm.n u)) (.string (Tm.s u)) (.slice Au (Tm.l u).length cu))
  have BX := Lib.hid (blk_s4 B5.out (.int .i64 (Tm.k u)) (.int .i64 (Tm.n u)) (.string (Tm.s u)) (.slice Au (Tm.l u).length cu))
  have CB := Lib.hid (clr_set4 (S5.out.clr D4.out) gB (.int .i64 (Tm.k u)) (.int .i64 (Tm.n u)) (.string (Tm.s u)) (.slice Au (Tm.l u).length cu))
  have TX := Lib.hid (tmN_wide (w := W0) (tmN_set4 T5.out (z := gB) D4.out.2.2 (.int .i64 (Tm.k u)) (.int .i64 (Tm.n u)) (.string (Tm.s u)) (.slice Au (Tm.l u).length cu)) G4.out)
  have HRES := Lib.hid (list_yes (O := f.O) (n := n) HRES0.out HSH.out HRES5.out)
  have LX : Hid (r5.length ≤ r.length) := Lib.hid (Nat.le_trans L5.out (by have := HTL.out; have := L1.out; omega))
  have SXW : Hid (W0.heap.size ≤ (set4 W5 gB (.int .i64 (Tm.k u)) (.int .i64 (Tm.n u)) (.string (Tm.s u)) (.slice Au (Tm.l u).length cu)).heap.size) := Lib.hid (by rw [size_set4]; exact Nat.le_trans G4.out S5.out.size)
  generalize set4 W5 gB (.int .i64 (Tm.k u)) (.int .i64 (Tm.n u)) (.string (Tm.s u)) (.slice Au (Tm.l u).length cu) = WX at *
  clear H5 B5 fb5 cb5 T5 HRES5 Z4 C4 B4 D4 H4 HT4
  have HW := Lib.hid (paWant ⟨#[93]⟩ HX.out)
  rw [isPs_lit] at HW
  have bcx := BX.out.cell
  go_upto_region 6 with (go_at_call 143; refine HW.out.mono ?_; rintro e W7 ⟨rfl, h7, s7⟩; have H7 := Lib.hid h7; have S7 := Lib.hid s7; clear h7 s7)
  have B7 := Lib.hid (BX.out.mods S7.out.mods CB.out.no)
  have Z7 := Lib.hid (ZX.out.mods S7.out.mods CZ.out.no)
  have R7 := Lib.hid (RX.out.step S7.out)
  have T7 := Lib.hid (pstep_tmN S7.out TX.out)
  have HL := Lib.hid (tlist_any M A1 c1 u Au cu W7 (NewT f.S nv5 W0 W7) (Src.of_own R7.out.own) (fun p hp => (R7.out.kid p hp).mono (fun k hk => hk.1)) T7.out (fun a ha => (R7.out.far a.block (by rw [ha]; rfl)).2.2.2) (fun k hk => hk.2.2.2) HML.out)
  have b7 := B7.out.cell
  clear bcx
  go_wp2_with (go_at_call 169; refine HL.out.mono ?_; rintro e W8 ⟨A8, c8, rfl, ht8, hx8⟩; have T8 := Lib.hid ht8; have X8 := Lib.hid hx8; have Z8 := Lib.hid (Z7.out.ext hx8); have zc := (Z7.out.ext hx8).cell; have zf := (Z7.out.ext hx8).frozen; clear ht8 hx8)
  obtain ⟨tr, htr⟩ : ∃ tr, listT (M.map (fun (p : TmP) => p.1)) u = tr := ⟨_, rfl⟩
  rw [htr] at T8 HRES ⊢
  have kb := blk_set4 Z8.out (.int .i64 (Tm.k tr)) (.int .i64 (Tm.n tr)) (.string (Tm.s tr)) (.slice A8 (Tm.l tr).length c8)
  have kc := kb.cell
  have h9 := (H7.out.ext X8.out).set4 HO.out (Nat.le_refl _) Z8.out (.int .i64 (Tm.k tr)) (.int .i64 (Tm.n tr)) (.string (Tm.s tr)) (.slice A8 (Tm.l tr).length c8)
  have s9 := pstep_set4 (SX.out.trans (S7.out.trans (PStep.ext X8.out))) (Nat.le_refl _) (.int .i64 (Tm.k tr)) (.int .i64 (Tm.n tr)) (.string (Tm.s tr)) (.slice A8 (Tm.l tr).length c8)
  have hnew : TmIn (NewT f.S nv5 W0 W8) W8 tr A8 c8 := T8.out.mono (fun k hk => by
   rcases hk with hk | ⟨hk1, hk2⟩
   ·exact hk.step (PStep.ext X8.out)
   ·exact ⟨Nat.le_trans (Nat.le_trans SXW.out S7.out.size) hk1, clr_box H7.out hk1 hk2⟩)
  have t9 := tmN_wide (w := w) (tmN_set4 hnew (z := w.heap.size) (by have := HSZ.out; omega) (.int .i64 (Tm.k tr)) (.int .i64 (Tm.n tr)) (.string (Tm.s tr)) (.slice A8 (Tm.l tr).length c8)) (by have := HSZ.out; omega)
  refine bodyPost_ret (v := .agg #[.int .i64 (Tm.k tr), .int .i64 (Tm.n tr), .string (Tm.s tr), .slice A8 (Tm.l tr).length c8]) ?_ rfl ⟨tr, A8, c8, nv5, _, _, _, rfl, HRES.out, h9, s9, t9, Nat.le_trans (tail_le _ _) LX.out⟩
  simp [results, Tryz.results139, go_sem, kc]
end Go.Proofs.YtgcdhffeacdegaaGreatDoor
