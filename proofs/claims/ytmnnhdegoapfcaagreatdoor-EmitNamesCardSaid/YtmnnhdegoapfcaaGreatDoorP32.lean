/- Layer 15, the program: maps.Values, slices.Collect of spans. -/
import Derived.Test.YtmnnhdegoapfcaaGreatDoorP31
import Derived.Great.Walk
import Derived.RangeFuncNested
import Derived.RangeFuncStops
import Derived.RangeFuncBound
import Derived.RangeFuncCalls
import Derived.RangeFuncLeaves
import Derived.RangeFuncWrites
import Derived.RangeFuncFrom
import Derived.RangeFuncBox
import Derived.Maps.AppendAt
import Derived.Shelf.Abstract
import Derived.Shelf.RegionOpen
import Derived.WalkKit
import Derived.OwnWalkIn
import Derived.TacticsInMore
import Derived.LoopNIn
import Derived.LoopIn
import Derived.Shelf.SlSortCmp.NoneTotal
namespace Go.El
open Go.RowKit
def spC (x : Spn) : List Value := [.int .i64 x.n, .int .i64 x.a, .int .i64 x.b]
theorem spC_len (x : Spn) : (spC x).length = 3 := rfl
theorem spC_one (x : Spn) : ∀ u ∈ spC x, u.oneCell' = true := by
 intro u hu
 simp only [spC, List.mem_cons, List.not_mem_nil, or_false] at hu
 rcases hu with rfl | rfl | rfl <;> rfl
theorem spV_eq (n a b : Int) : spV ⟨n, a, b⟩ = .agg #[.int .i64 n, .int .i64 a, .int .i64 b] := rfl
end Go.El
namespace Go.Proofs.YtmnnhdegoapfcaaGreatDoor
open Go.RowKit Go.El Go.Shelf
theorem spInfo : (Tryz.prog.info? 135).map (fun i => (i.zero, i.size, i.bytes)) = some (some (.agg #[.int .i64 0, .int .i64 0, .int .i64 0]), 3, 24) := by kernel_rfl
set_option maxRecDepth 100000 in
set_option maxHeartbeats 1000000 in
theorem values1_in (F : Fence) (n : Nat) (hF : F.fn 159) (hro : F.round = none) (hn : 1 ≤ n) (l Bm m : Nat) (L : List Spn) (J Jx : List Spn → World → Prop)
  (hY : ∀ pre x W, J pre W → pre.length < L.length → YieldAt F (n - 1) Tryz.prog l #[spV x] W fun e W' => (e = .returned (.bool true) ∧ J (pre ++ [x]) W' ∧ KeepsWalks W W') ∨ (e = .returned (.bool false) ∧ Jx (pre ++ [x]) W'))
  (W : World) (hJ : AbidesFrom W.heap.size J) (hm : W.cell? ⟨Bm, 0, none⟩ = some (.map (some m))) (hown : MapAt (Value.int .i64) W m (spP L)) (h0 : J [] W) :
  CallsIn F n Tryz.prog 159 #[.func (.yield l) #[] #[], .pointer (some ⟨Bm, 0, none⟩)] W fun e W' => (∃ v, e = .returned v) ∧ ((∃ xs : List Spn, xs.Perm L ∧ J xs W') ∨ ∃ pre, True ∧ Jx pre W') := by
 refine callsIn_of_wp Tryz.func159 rfl hF ?_ hro
 simp only [Tryz.ntmps159, List.size_toArray, List.length_cons, List.length_nil, Nat.reduceAdd, Nat.reduceSub, Array.replicate_succ, Array.replicate_zero, List.push_toArray, List.append_toArray, List.nil_append, List.cons_append]
 gi_wp2_with (first
  | (gi_at_range; refine wpListIn_range_at _ rfl _ 129 rfl 3 135 Tryz.underlying129 (m := m) rfl hown ?_; intro w0 hrg0 hg0 hs0)
  | gi_in)
 go_frame
 gi_loopw [7] (fun _ wr => ∃ ds rest : List Spn, MapIt (Value.int .i64) wr m W.heap.size (spP L) (spP rest) ∧ (ds ++ rest).Perm L ∧ J ds wr)
  (fun _ wr => wr.rangeLeft m W.heap.size)
 case atStart =>
  exact ⟨[], L, hrg0, by simp, hJ [] W w0 none h0 hg0 (fun r e => by cases e)⟩
 case round =>
  obtain ⟨ds, rest, hrg, hpm, hJs⟩ := hrel
  have hlen := hpm.length_eq
  simp only [List.length_append] at hlen
  gi_wp2_with (first
   | (gi_at_next; refine wpListIn_next_at _ rfl _ rfl rfl hrg ?_ ?_)
   | gi_in)
  ·-- nothing is left
   intro hr
   obtain rfl : rest = [] := by simpa [spP] using hr
   gi_wp2
   exact Go.Great.bodyPost_end0 rfl rfl ⟨⟨_, rfl⟩, .inl ⟨ds, by simpa using hpm, hJs⟩⟩
  ·intro r1 k v r2 w2 hr hit hg2 hs2 hen
   obtain ⟨l1, ⟨sn, sa, sb⟩, l2, rfl, rfl, hkv, rfl⟩ : ∃ (l1 : List Spn) (o : Spn) (l2 : List Spn), rest = l1 ++ o :: l2 ∧ r1 = spP l1 ∧ (k, v) = (o.n, spV o) ∧ r2 = spP l2 := by
    unfold spP at hr
    obtain ⟨a, b, h1, h2, h3⟩ := List.map_eq_append_iff.1 hr
    obtain ⟨o, c, h4, h5, h6⟩ := List.map_eq_cons_iff.1 h3
    exact ⟨a, o, c, by rw [h1, h4], h2.symm, h5.symm, h6.symm⟩
   have hJ2 : J ds w2 := hJ ds wr w2 (some W.heap.size) hJs hg2 (fun r e => by cases e; exact ⟨Nat.le_refl _, hrg.iter_walk⟩)
   injection hkv with hk1 hk2
   subst hk1 hk2
   simp only [List.length_append, List.length_cons] at hlen
   have HJ2 := Lib.hid hJ2
   have HP := Lib.hid hpm
   have HR := Lib.hid hr
   clear hs2 hpm hJ2 hJs hr
   simp only [spV_eq] at hen ⊢
   have hJ3 : J ds (w2.alloc (.cells #[.int .i64 k, .int .i64 sa, .int .i64 sb] 135)) := hJ ds w2 _ none HJ2.out (World.grownBy_alloc _ _ none) (fun r e => by cases e)
   have hit3 : MapIt (Value.int .i64) (w2.alloc (.cells #[.int .i64 k, .int .i64 sa, .int .i64 sb] 135)) m W.heap.size (spP L) (spP l1 ++ spP l2) := hit.of_walks (KeepsWalks.alloc _ _)
   obtain ⟨fn, tmps, assign, body, hy, hR⟩ := hY ds ⟨k, sa, sb⟩ _ hJ3 (by omega)
   have HIT := Lib.hid hit3
   clear HJ2 hJ3 hit3
   simp only [spV_eq] at hy
   gi_wp2
   refine hR.mono ?_
   rintro e W3 (⟨rfl, hJ4, hk3⟩ | ⟨rfl, hJx⟩)
   case inr =>
    gi_wp2
    exact bodyPost_ret (results_none rfl _ _ _) rfl ⟨⟨_, rfl⟩, .inr ⟨_, trivial, hJx⟩⟩
   have hit4 := HIT.out.of_walks hk3
   gi_wp2
   have hit5 : MapIt (Value.int .i64) W3 m W.heap.size (spP L) (spP (l1 ++ l2)) := by
    have e : spP (l1 ++ l2) = spP l1 ++ spP l2 := by simp [spP]
    rw [e]
    exact hit4
   refine ⟨⟨ds ++ [⟨k, sa, sb⟩], l1 ++ l2, hit5, ?_, hJ4⟩, ?_⟩
   ·refine List.Perm.trans ?_ HP.out
    rw [List.append_assoc]
    exact List.Perm.append_left _ (by simpa using (List.perm_middle (l₁ := l1) (a := (⟨k, sa, sb⟩ : Spn)) (l₂ := l2)).symm)
   ·rw [hit5.left_eq, hrg.left_eq]
    simp [spP]
theorem values_stops (F : Fence) (n : Nat) (hF : F.fn 159) (hro : F.round = none) (hn : 1 ≤ n) (Bm m : Nat) (L : List Spn) (w : World) (hBm : Bm < w.heap.size)
  (hm : w.cell? ⟨Bm, 0, none⟩ = some (.map (some m))) (hown : MapAt (Value.int .i64) w m (spP L)) :
  SeqStops F n Tryz.prog 159 #[.pointer (some ⟨Bm, 0, none⟩)] spV (fun xs => xs.Perm L) (fun _ => True) L.length w := fun l J Jx W hW hJ hJx hY h0 => by
 exact values1_in F n hF hro hn l Bm m L J Jx hY W hJ ((hW.cell (p := ⟨Bm, 0, none⟩) hBm).trans hm) (hown.ext hW) h0
set_option maxHeartbeats 400000 in
theorem values_any (m : Nat) (w : World) :
  Calls Tryz.prog 124 #[.map (some m)] w fun e w' => e = .returned (.func (.func 159) #[] #[.pointer (some ⟨w.heap.size, 0, none⟩)]) ∧ w' = w.alloc (.cells #[.map (some m)] 129) := by
 go_enter Tryz.func124, Tryz.ntmps124
 go_wp2_with fail
 go_ret
 exact ⟨rfl, rfl⟩
attribute [local go_sem] Oper.semAt_some
theorem blk_own {β : Type} (B : Nat) (t : TypeId) (f : β → Array Value) : Own (fun s W => Blk W B t (f s)) := fun s X Y row hs hg hrow => by
 have hlt : B < X.heap.size := (Array.getElem?_eq_some_iff.1 hs).1
 exact (hg.block B hlt (fun e' => by obtain ⟨o, ho, hc⟩ := hrow B e'.symm; rw [show X.heap[B]? = _ from hs] at ho; cases ho; cases hc)).trans hs
set_option maxRecDepth 100000 in
set_option maxHeartbeats 2000000 in
theorem appendSeq_in (F : Fence) (n : Nat) (hF : F.fn 158) (hro : F.round = none) (hn : 2 ≤ n) (g : Nat) (lb : Array Value) (hFg : F.fn g) (eg : ∀ args w, (callFunc g args).run Tryz.prog w = .ok (.enter g args) w)
  (S : List Spn → Prop) (N : Nat) (hN : N ≤ 1000000) (w : World) (hseq : SeqStops F (n - 1) Tryz.prog g lb spV S (fun _ => True) N w) :
  CallsIn F n Tryz.prog 158 #[.slice none 0 0, .func (.func g) #[] lb] w fun e w' => ∃ (v : Value) (xs : List Spn), e = .returned v ∧ S xs ∧ w'.ownsRow w.heap.size 135 3 v xs.length (flat spC xs) ∧ Ext w w' := by
 have h1 : 1 ≤ n := by omega
 obtain ⟨i0, hi, hz0, hz1, hz2⟩ := infoP spInfo
 refine callsIn_of_wp_marks Tryz.func158 rfl hF ?_ hro
 simp only [Tryz.ntmps158, List.size_toArray, List.length_cons, List.length_nil, Nat.reduceAdd, Nat.reduceSub, Array.replicate_succ, Array.replicate_zero, List.push_toArray, List.append_toArray, List.nil_append, List.cons_append]
 gi_wp2
 have hb0 : Boxed (w.alloc (.cells #[.slice none 0 0] 132)) w.heap.size 132 (.slice none 0 0) := Boxed.new _ _ _
 obtain ⟨W0, hW0⟩ : ∃ W0, w.alloc (.cells #[.slice none 0 0] 132) = W0 := ⟨_, rfl⟩
 have hx0 : Below w.heap.size w W0 := by rw [← hW0]; exact ext_box _ _
 have hsz : W0.heap.size = w.heap.size + 1 := by rw [← hW0]; simp
 rw [hW0] at hb0 ⊢
 clear hW0
 refine wpIn_rangeFunc_ownH hro h1 (gf := g) (lb := lb) rfl hFg eg hseq walksK_t walksK_b hx0 (fun _ => rfl)
  (fun pre W => (∃ v, Boxed W w.heap.size 132 v ∧ W.ownsRow w.heap.size 135 3 v pre.length (flat spC pre) ∧ True) ∧ Below w.heap.size w W)
  (fun _ _ _ => False)
  (OwnFrom.and (Own.from (holdsRow_own w.heap.size w.heap.size 132 135 3 (fun pre : List Spn => pre.length) (fun pre => flat spC pre) (fun _ _ => True)) _) (ownFrom_below (Nat.le_refl _) (by omega)))
  (fun _ _ _ _ _ hs _ _ => hs)
  ⟨⟨_, hb0, World.ownsRow_nil _ _ _ _, trivial⟩, hx0⟩
  (fun x a' W => ∃ Bx, Blk W Bx 135 #[.int .i64 x.n, .int .i64 x.a, .int .i64 x.b] ∧ a' = { tmps := #[.slice none 0 0, .func (.func g) #[] lb, .pointer (some ⟨w.heap.size, 0, none⟩), undef, .slice none 0 0, .pointer (some ⟨Bx, 0, none⟩), .func (.func g) #[] lb, spV x, undef, undef, undef, undef, undef], defers := [] })
  (fun x a' => by
   rintro u X Y row ⟨Bx, hb, ha⟩ hg hrow
   exact ⟨Bx, Own.from (blk_own Bx 135 (fun _ : Unit => #[Value.int .i64 x.n, .int .i64 x.a, .int .i64 x.b])) _ () X Y row hb hg hrow, ha⟩) ?assign ?body ?done ?stop
 case assign =>
  rintro l pre ⟨sn, sa, sb⟩ W K ⟨⟨v, hv, hr, _⟩, hB⟩ hK
  simp only [spV_eq]
  gi_wp2
  exact hK _ _ ((KeepsOthers.alloc _ _).from _) (KeepsWalks.alloc _ _) ⟨⟨v, hv.alloc _, hr.alloc _, trivial⟩, hB.alloc hB.size _⟩ ⟨_, Blk.new W _ _, rfl⟩
 case body =>
  rintro l pre ⟨sn, sa, sb⟩ a' W hl ⟨r, hr'⟩ ⟨⟨v, hv, hrow, _⟩, hB⟩ ⟨Bx, hbx, rfl⟩ hlt
  have c0 : W.cell? ⟨Bx, 0, none⟩ = some (.int .i64 sn) := hbx.cell 0
  have c1 : W.cell? ⟨Bx, 1, none⟩ = some (.int .i64 sa) := hbx.cell 1
  have c2 : W.cell? ⟨Bx, 2, none⟩ = some (.int .i64 sb) := hbx.cell 2
  have cv := hv.cell
  have fv := hv.frozen
  have hbl := hv.lt
  have hbx2 := hbx.lt
  have HBX := Lib.hid hbx
  clear hbx
  gi_wp2_with (first
   | (gi_at_builtin; refine wpListIn_append_own _ rfl _ _ 132 rfl w.heap.size 135 i0 _ 3 24 Tryz.underlying132 hi hz0 hz1 hz2 rfl (by decide) _ _ _ rfl (hrow.alloc _) ⟨W.heap.size, 0, none⟩ 1 1 (spC ⟨sn, sa, sb⟩) rfl rfl (fun j u hj => by rw [Addr.add_lit, Nat.zero_add, (Blk.new W _ _).cell]; simpa [spC] using hj) (spC_one _) (by unfold maxLen; omega) (by omega) (by have := hB.size; simp; omega) ?_; intro v' w1 hown' hgrow _; obtain ⟨g', cap', rfl⟩ := ownsRow_succ hown'; obtain ⟨hv1, hv2, hr2, hk2, hb2⟩ := hv.appended (by decide) hrow hB.size (Nat.le_refl _) hown' hgrow; have hc1 := hv1.cell; have hf1 := hv1.frozen)
   | gi_in)
  have e : flat spC (pre ++ [(⟨sn, sa, sb⟩ : Spn)]) = flat spC pre ++ spC ⟨sn, sa, sb⟩ := by rw [flat_append]; simp [flat]
  have hr3 := hr2
  rw [← e] at hr3
  refine ⟨hk2.from _, ⟨hk2.size, fun k o h1 h2 => hk2.same k o h1 (Obj.not_cells_of_walk h2)⟩, ⟨_, hv2, ?_⟩, hB.trans hb2⟩
  rw [List.length_append]
  exact hr3
 case done =>
  rintro D xs W hD hS ⟨⟨v, hv, hrow, _⟩, hB⟩ hK
  have cv := hv.cell
  gi_wp2
  refine ⟨by simp, .inl ⟨_, _, rfl, run_takeDeferred hK, ?_⟩⟩
  refine ⟨_, results_tmp rfl _ _ _, v, xs, rfl, hS, ?_, ?_⟩
  ·refine hrow.kept (grownBy_putObj' _ D (.deferred none)) (Or.inr fun e => ?_)
   rcases hrow.2 with ⟨rfl, _⟩ | ⟨g', cap, cur, rfl, _, hgb, _⟩
   ·simp [Value.ownBlock] at e
   ·have e' : g' = D := by simpa [Value.ownBlock] using e
    subst e'
    rw [hgb] at hK
    cases hK
  ·exact hB.grown (grownBy_putObj' _ D (.deferred none)) hB.size (fun k e => by cases e; omega)
 case stop =>
  rintro D c pre W _ _ h _
  exact h.elim
set_option maxHeartbeats 1000000 in
theorem collect_in (F : Fence) (n : Nat) (hF : F.fn 123) (hF2 : F.fn 158) (hro : F.round = none) (hn : 3 ≤ n) (g : Nat) (lb : Array Value) (hFg : F.fn g) (eg : ∀ args w, (callFunc g args).run Tryz.prog w = .ok (.enter g args) w)
  (S : List Spn → Prop) (N : Nat) (hN : N ≤ 1000000) (w : World) (hseq : SeqStops F (n - 1 - 1) Tryz.prog g lb spV S (fun _ => True) N w) :
  CallsIn F n Tryz.prog 123 #[.func (.func g) #[] lb] w fun e w' => ∃ (v : Value) (xs : List Spn), e = .returned v ∧ S xs ∧ w'.ownsRow w.heap.size 135 3 v xs.length (flat spC xs) ∧ Ext w w' := by
 have h1 : 1 ≤ n := by omega
 refine callsIn_of_wp Tryz.func123 rfl hF ?_ hro
 simp only [Tryz.ntmps123, List.size_toArray, List.length_cons, List.length_nil, Nat.reduceAdd, Nat.reduceSub, Array.replicate_succ, Array.replicate_zero, List.push_toArray, List.append_toArray, List.nil_append, List.cons_append]
 gi_wp2_with (gi_at_call 158; refine (appendSeq_in F (n - 1) hF2 hro (by omega) g lb hFg eg S N hN w hseq).mono ?_; rintro e w' ⟨v, xs, rfl, hS, hrow, hx⟩)
 go_ret
 exact ⟨v, xs, rfl, hS, hrow, hx⟩
set_option maxHeartbeats 400000 in
theorem collect_any (m : Nat) (L : List Spn) (hL : L.length ≤ 1000000) (Bm : Nat) (w : World) (hBm : w.cell? ⟨Bm, 0, none⟩ = some (.map (some m))) (hm : MapAt (Value.int .i64) w m (spP L)) :
  Calls Tryz.prog 123 #[.func (.func 159) #[] #[.pointer (some ⟨Bm, 0, none⟩)]] w fun e w' => ∃ (v : Value) (xs : List Spn), e = .returned v ∧ xs.Perm L ∧ w'.ownsRow w.heap.size 135 3 v xs.length (flat spC xs) ∧ Ext w w' :=
 callsIn_wide (n := 10) |>.1 (collect_in _ 10 trivial trivial rfl (by omega) 159 _ trivial (enters_of Tryz.func159 (by kernel_rfl) rfl) (fun xs => xs.Perm L) L.length hL w (values_stops _ _ trivial rfl (by omega) Bm m L w (cell_lt hBm) hBm hm))
end Go.Proofs.YtmnnhdegoapfcaaGreatDoor

/- Layer 15, the program: predicates of spans, slices.IndexFunc by them. -/
namespace Go.El
open Go.RowKit
def idxS (q : Spn → Bool) (L : List Spn) : Int := match L.findIdx? q with
 | some i => i
 | none => -1
theorem idxS_hit {q : Spn → Bool} {L : List Spn} {k : Nat} {x : Spn} (hn : ∀ (j : Nat) (y : Spn), j < k → L[j]? = some y → q y = false) (hg : L[k]? = some x) (ho : q x = true) : idxS q L = k := by
 obtain ⟨hk, he⟩ := List.getElem?_eq_some_iff.1 hg
 have : L.findIdx? q = some k := by
  rw [List.findIdx?_eq_some_iff_getElem]
  refine ⟨hk, by rw [he]; exact ho, fun j hj => ?_⟩
  have := hn j _ hj (List.getElem?_eq_getElem (by omega))
  simpa using this
 unfold idxS
 rw [this]
theorem idxS_miss {q : Spn → Bool} {L : List Spn} (hn : ∀ (j : Nat) (y : Spn), j < L.length → L[j]? = some y → q y = false) : idxS q L = -1 := by
 have : L.findIdx? q = none := by
  rw [List.findIdx?_eq_none_iff]
  intro p hp
  obtain ⟨j, hj⟩ := List.mem_iff_getElem?.1 hp
  exact hn j p (List.getElem?_eq_some_iff.1 hj).1 hj
 unfold idxS
 rw [this]
def dlS (x : Spn) : Bool := !perm x
end Go.El
namespace Go.Proofs.YtmnnhdegoapfcaaGreatDoor
open Go.RowKit Go.El
theorem src_sp {w : World} {A : Option Addr} {L : List Spn} (h : El.Src w A L.length 3 (flat spC L)) {j : Nat} {x : Spn} (hj : L[j]? = some x) : ∃ b off, A = some ⟨b, off, none⟩ ∧ w.cell? ⟨b, off + j * 3, none⟩ = some (.int .i64 x.n) ∧ w.cell? ⟨b, off + j * 3 + 1, none⟩ = some (.int .i64 x.a) ∧ w.cell? ⟨b, off + j * 3 + 2, none⟩ = some (.int .i64 x.b) := by
 obtain ⟨hlt, _⟩ := List.getElem?_eq_some_iff.1 hj
 obtain ⟨b, off, rfl, hcell⟩ := El.Src.form h (by omega) (by omega)
 refine ⟨b, off, rfl, ?_, ?_, ?_⟩
 ·exact hcell (j * 3) _ ((flat_at spC_len L j 0 x hj (by omega)).trans rfl)
 ·exact hcell (j * 3 + 1) _ ((flat_at spC_len L j 1 x hj (by omega)).trans rfl)
 ·exact hcell (j * 3 + 2) _ ((flat_at spC_len L j 2 x hj (by omega)).trans rfl)
set_option maxRecDepth 100000 in
theorem del_any (n a b : Int) (w : World) :
  Calls Tryz.prog 126 #[.agg #[.int .i64 n, .int .i64 a, .int .i64 b]] w fun e w' => e = .returned (.bool (dlS ⟨n, a, b⟩)) ∧ Ext w w' := by
 have hx := ext_box w (.cells #[.int .i64 n, .int .i64 a, .int .i64 b] 135)
 have hB := (Blk.new w 135 #[.int .i64 n, .int .i64 a, .int .i64 b]).cell
 have HX := Lib.hid hx
 clear hx
 by_cases h1 : n = -1
 ·have HO : Hid (dlS ⟨n, a, b⟩ = false) := Lib.hid (by simp [dlS, perm, h1])
  subst h1
  go_enter Tryz.func126, Tryz.ntmps126
  go_wp2_with fail
  go_ret
  exact ⟨by rw [HO.out]; rfl, HX.out⟩
 ·have q1 : (n == -1) = false := by simpa using h1
  have HO : Hid (dlS ⟨n, a, b⟩ = (n != -1 && a == b)) := Lib.hid (by
   unfold dlS perm
   simp only
   rw [decide_eq_false h1, Bool.false_or, Bool.not_not, show (n != -1) = true by simpa using h1, Bool.true_and]
   rfl)
  go_enter Tryz.func126, Tryz.ntmps126
  go_wp2_with fail
  go_ret
  exact ⟨by rw [HO.out]; rfl, HX.out⟩
set_option maxRecDepth 100000 in
theorem liv_any (n a b k : Int) (kb : Nat) (w : World) (h : w.cell? ⟨kb, 0, none⟩ = some (.int .i64 k)) :
  Calls Tryz.prog 84 #[.agg #[.int .i64 n, .int .i64 a, .int .i64 b], .pointer (some ⟨kb, 0, none⟩)] w fun e w' => e = .returned (.bool (decide (b ≤ k))) ∧ Ext w w' := by
 have hx := ext_box w (.cells #[.int .i64 n, .int .i64 a, .int .i64 b] 135)
 have hB := (Blk.new w 135 #[.int .i64 n, .int .i64 a, .int .i64 b]).cell
 have hk := hx.cell h
 have HX := Lib.hid hx
 clear hx h
 go_enter Tryz.func84, Tryz.ntmps84
 go_wp2_with fail
 go_ret
 exact ⟨rfl, HX.out⟩
set_option maxRecDepth 100000 in
set_option maxHeartbeats 2000000 in
theorem sIndexDel (L : List Spn) (A : Option Addr) (c : Nat) (w : World) (h : El.Src w A L.length 3 (flat spC L)) (hl : L.length ≤ 1000000000) :
  Calls Tryz.prog 83 #[.slice A L.length c, .func (Fn.func 126) #[] #[]] w fun e w' => e = .returned (.int .i64 (idxS dlS L)) ∧ Ext w w' := by
 have H := Lib.hid h
 clear h
 go_enter Tryz.func83, Tryz.ntmps83
 go_wp2_with fail
 go_loopw [8] (fun i wr => ∃ k' : Nat, k' ≤ L.length ∧ i = .int .i64 k' ∧ Hid (Ext w wr) ∧ Hid (∀ (j : Nat) (y : Spn), j < k' → L[j]? = some y → dlS y = false)) (fun i _ => L.length - (intOf i).toNat)
 case atStart => exact ⟨0, by omega, rfl, Lib.hid (Ext.refl w), Lib.hid (fun j y hj => by omega)⟩
 case round =>
  obtain ⟨k', hk', rfl, HX, HN⟩ := hrel
  by_cases hlt : k' < L.length
  ·have ho : L[k']? = some L[k'] := List.getElem?_eq_getElem hlt
   generalize L[k'] = x at ho
   obtain ⟨bb, off, rfl, q0, q1, q2⟩ := src_sp (H.out.ext HX.out) ho
   obtain ⟨sn, sa, sb⟩ := x
   simp only at q0 q1 q2
   have HC := Lib.hid (del_any sn sa sb wr)
   have HO := Lib.hid ho
   clear ho
   cases hq : dlS ⟨sn, sa, sb⟩
   ·have HNE := Lib.hid hq
    rw [hq] at HC
    clear hq
    go_wp2_with (go_at_call 126; refine HC.out.mono ?_; rintro e W1 ⟨rfl, hx⟩; have HX1 := Lib.hid (HX.out.trans hx); clear hx)
    go_roundw
    case rel =>
     exact ⟨k' + 1, hlt, by go_num, HX1, Lib.hid (fun j y hj hy => by
      rcases Nat.lt_succ_iff_lt_or_eq.1 hj with h | rfl
      ·exact HN.out j y h hy
      ·rw [HO.out] at hy
       injection hy with hy
       rw [← hy]
       exact HNE.out)⟩
    case measure => simp [intOf]; omega
   ·have HR := Lib.hid (idxS_hit HN.out HO.out hq)
    rw [hq] at HC
    clear hq
    go_wp2_with (go_at_call 126; refine HC.out.mono ?_; rintro e W1 ⟨rfl, hx⟩; have HX1 := Lib.hid (HX.out.trans hx); clear hx)
    go_ret
    exact ⟨by rw [HR.out]; rfl, HX1.out⟩
  ·obtain rfl : k' = L.length := by omega
   have HR := Lib.hid (idxS_miss HN.out)
   go_wp2_with fail
   go_ret
   exact ⟨by rw [HR.out]; rfl, HX.out⟩
set_option maxRecDepth 100000 in
set_option maxHeartbeats 2000000 in
theorem sIndexLiv (L : List Spn) (A : Option Addr) (c : Nat) (w : World) (k : Int) (kb : Nat) (hk : w.cell? ⟨kb, 0, none⟩ = some (.int .i64 k)) (h : El.Src w A L.length 3 (flat spC L)) (hl : L.length ≤ 1000000000) :
  Calls Tryz.prog 83 #[.slice A L.length c, .func (Fn.func 84) #[] #[.pointer (some ⟨kb, 0, none⟩)]] w fun e w' => e = .returned (.int .i64 (idxS (fun (x : Spn) => decide (x.b ≤ k)) L)) ∧ Ext w w' := by
 have H := Lib.hid h
 have HK := Lib.hid hk
 clear hk
 clear h
 go_enter Tryz.func83, Tryz.ntmps83
 go_wp2_with fail
 go_loopw [8] (fun i wr => ∃ k' : Nat, k' ≤ L.length ∧ i = .int .i64 k' ∧ Hid (Ext w wr) ∧ Hid (∀ (j : Nat) (y : Spn), j < k' → L[j]? = some y → (fun (x : Spn) => decide (x.b ≤ k)) y = false)) (fun i _ => L.length - (intOf i).toNat)
 case atStart => exact ⟨0, by omega, rfl, Lib.hid (Ext.refl w), Lib.hid (fun j y hj => by omega)⟩
 case round =>
  obtain ⟨k', hk', rfl, HX, HN⟩ := hrel
  by_cases hlt : k' < L.length
  ·have ho : L[k']? = some L[k'] := List.getElem?_eq_getElem hlt
   generalize L[k'] = x at ho
   obtain ⟨bb, off, rfl, q0, q1, q2⟩ := src_sp (H.out.ext HX.out) ho
   obtain ⟨sn, sa, sb⟩ := x
   simp only at q0 q1 q2
   have HC := Lib.hid (liv_any sn sa sb k kb wr (HX.out.cell HK.out))
   have HO := Lib.hid ho
   clear ho
   cases hq : (fun (x : Spn) => decide (x.b ≤ k)) ⟨sn, sa, sb⟩
   ·have HNE := Lib.hid hq
    simp only at hq
    rw [hq] at HC
    clear hq
    go_wp2_with (go_at_call 84; refine HC.out.mono ?_; rintro e W1 ⟨rfl, hx⟩; have HX1 := Lib.hid (HX.out.trans hx); clear hx)
    go_roundw
    case rel =>
     exact ⟨k' + 1, hlt, by go_num, HX1, Lib.hid (fun j y hj hy => by
      rcases Nat.lt_succ_iff_lt_or_eq.1 hj with h | rfl
      ·exact HN.out j y h hy
      ·rw [HO.out] at hy
       injection hy with hy
       rw [← hy]
       exact HNE.out)⟩
    case measure => simp [intOf]; omega
   ·have HR := Lib.hid (idxS_hit HN.out HO.out hq)
    simp only at hq
    rw [hq] at HC
    clear hq
    go_wp2_with (go_at_call 84; refine HC.out.mono ?_; rintro e W1 ⟨rfl, hx⟩; have HX1 := Lib.hid (HX.out.trans hx); clear hx)
    go_ret
    exact ⟨by rw [HR.out]; rfl, HX1.out⟩
  ·obtain rfl : k' = L.length := by omega
   have HR := Lib.hid (idxS_miss HN.out)
   go_wp2_with fail
   go_ret
   exact ⟨by rw [HR.out]; rfl, HX.out⟩
end Go.Proofs.YtmnnhdegoapfcaaGreatDoor

/- Layer 9 (oper): slices.SortFunc at this program, laid in plain words. -/
namespace Go.Proofs.YtmnnhdegoapfcaaGreatDoor
open Go.Shelf Go.Proofs
def Tryz.sortOp_ren : Go.Shelf.Ren := ⟨fun | 6 => 127 | 15 => 161 | 14 => 160 | 28 => 195 | 29 => 196 | 20 => 187 | 21 => 188 | 22 => 189 | 23 => 190 | 24 => 191 | 25 => 192 | 26 => 193 | 27 => 194 | 46 => 221 | 47 => 222 | 48 => 223 | 49 => 224 | 50 => 225 | 57 => 241 | n => n, fun | 22 => 132 | 24 => 135 | 25 => 174 | 3 => 3 | 39 => 205 | 0 => 0 | 53 => 236 | 55 => 162 | 4 => 4 | 46 => 230 | 45 => 229 | 50 => 154 | 5 => 5 | 9 => 9 | 66 => 252 | 70 => 71 | 76 => 270 | 77 => 175 | n => n, fun | n => n⟩
theorem Tryz.sortOp : Go.Proofs.SlLaysF0.n6 Tryz.prog Tryz.sortOp_ren := {
 mixed := by kernel_rfl
 f6 := ⟨Tryz.f127.name, by decide, Tryz.func127.trans (congrArg some (by kernel_rfl))⟩
 f14 := ⟨Tryz.f160.name, by decide, Tryz.func160.trans (congrArg some (by kernel_rfl))⟩
 f15 := Tryz.func161.trans (congrArg some (by kernel_rfl))
 f20 := ⟨Tryz.f187.name, by decide, Tryz.func187.trans (congrArg some (by kernel_rfl))⟩
 f21 := ⟨Tryz.f188.name, by decide, Tryz.func188.trans (congrArg some (by kernel_rfl))⟩
 f22 := ⟨Tryz.f189.name, by decide, Tryz.func189.trans (congrArg some (by kernel_rfl))⟩
 f23 := ⟨Tryz.f190.name, by decide, Tryz.func190.trans (congrArg some (by kernel_rfl))⟩
 f24 := ⟨Tryz.f191.name, by decide, Tryz.func191.trans (congrArg some (by kernel_rfl))⟩
 f25 := ⟨Tryz.f192.name, by decide, Tryz.func192.trans (congrArg some (by kernel_rfl))⟩
 f26 := ⟨Tryz.f193.name, by decide, Tryz.func193.trans (congrArg some (by kernel_rfl))⟩
 f27 := ⟨Tryz.f194.name, by decide, Tryz.func194.trans (congrArg some (by kernel_rfl))⟩
 f28 := Tryz.func195.trans (congrArg some (by kernel_rfl))
 f29 := Tryz.func196.trans (congrArg some (by kernel_rfl))
 f46 := ⟨Tryz.f221.name, by decide, Tryz.func221.trans (congrArg some (by kernel_rfl))⟩
 f47 := Tryz.func222.trans (congrArg some (by kernel_rfl))
 f48 := Tryz.func223.trans (congrArg some (by kernel_rfl))
 f49 := ⟨Tryz.f224.name, by decide, Tryz.func224.trans (congrArg some (by kernel_rfl))⟩
 f50 := ⟨Tryz.f225.name, by decide, Tryz.func225.trans (congrArg some (by kernel_rfl))⟩
 f57 := ⟨Tryz.f241.name, by decide, Tryz.func241.trans (congrArg some (by kernel_rfl))⟩
 t0 := Tryz.underlying0
 a0 := Tryz.isAgg0
 z0 := Tryz.sizeOf0
 v0 := Tryz.zeroValue0
 t3 := Tryz.underlying3
 a3 := Tryz.isAgg3
 z3 := Tryz.sizeOf3
 v3 := Tryz.zeroValue3
 t4 := Tryz.underlying4
 a4 := Tryz.isAgg4
 z4 := Tryz.sizeOf4
 v4 := Tryz.zeroValue4
 t5 := Tryz.underlying5
 a5 := Tryz.isAgg5
 z5 := Tryz.sizeOf5
 v5 := Tryz.zeroValue5
 t9 := Tryz.underlying9
 a9 := Tryz.isAgg9
 z9 := Tryz.sizeOf9
 v9 := Tryz.zeroValue9
 t22 := Tryz.underlying132
 a22 := Tryz.isAgg132
 z22 := Tryz.sizeOf132
 v22 := Tryz.zeroValue132
 t25 := Tryz.underlying174
 a25 := Tryz.isAgg174
 z25 := Tryz.sizeOf174
 v25 := Tryz.zeroValue174
 t39 := Tryz.underlying205
 a39 := Tryz.isAgg205
 z39 := Tryz.sizeOf205
 v39 := Tryz.zeroValue205
 t45 := Tryz.underlying229
 a45 := Tryz.isAgg229
 z45 := Tryz.sizeOf229
 v45 := Tryz.zeroValue229
 t46 := Tryz.underlying230
 a46 := Tryz.isAgg230
 z46 := Tryz.sizeOf230
 v46 := Tryz.zeroValue230
 t50 := Tryz.underlying154
 a50 := Tryz.isAgg154
 z50 := Tryz.sizeOf154
 v50 := Tryz.zeroValue154
 t53 := Tryz.underlying236
 a53 := Tryz.isAgg236
 z53 := Tryz.sizeOf236
 v53 := Tryz.zeroValue236
 t55 := Tryz.underlying162
 a55 := Tryz.isAgg162
 z55 := Tryz.sizeOf162
 v55 := Tryz.zeroValue162
 t66 := Tryz.underlying252
 a66 := Tryz.isAgg252
 z66 := Tryz.sizeOf252
 v66 := Tryz.zeroValue252
 t70 := Tryz.underlying71
 a70 := Tryz.isAgg71
 z70 := Tryz.sizeOf71
 v70 := Tryz.zeroValue71
 t76 := Tryz.underlying270
 a76 := Tryz.isAgg270
 z76 := Tryz.sizeOf270
 v76 := Tryz.zeroValue270
 t77 := Tryz.underlying175
 a77 := Tryz.isAgg175
 z77 := Tryz.sizeOf175
 v77 := Tryz.zeroValue175 }
end Go.Proofs.YtmnnhdegoapfcaaGreatDoor
