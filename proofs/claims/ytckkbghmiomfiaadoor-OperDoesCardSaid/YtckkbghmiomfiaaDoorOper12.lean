/- Layer 9 (oper): slices.Collect of operators. -/
import Derived.Test.YtckkbghmiomfiaaDoorOper11
import Derived.RangeFuncWrites
import Derived.RangeFuncFrom
import Derived.RangeFuncBox
import Derived.Maps.AppendAt
namespace Go.Proofs.YtckkbghmiomfiaaDoor
open Go.RowKit Go.El Go.Shelf
attribute [local go_sem] Oper.semAt_some

/-- A block of cells abides what a walk turns. -/
theorem blk_own {β : Type} (B : Nat) (t : TypeId) (f : β → Array Value) : Own (fun s W => Blk W B t (f s)) := fun s X Y row hs hg hrow => by
  have hlt : B < X.heap.size := (Array.getElem?_eq_some_iff.1 hs).1
  exact (hg.block B hlt (fun e' => by obtain ⟨o, ho, hc⟩ := hrow B e'.symm; rw [show X.heap[B]? = _ from hs] at ho; cases ho; cases hc)).trans hs

set_option maxRecDepth 100000 in
set_option maxHeartbeats 2000000 in
theorem appendSeq_in (F : Fence) (n : Nat) (hF : F.fn 52) (hro : F.round = none) (hn : 2 ≤ n) (g : Nat) (lb : Array Value) (hFg : F.fn g) (eg : ∀ args w, (callFunc g args).run Tryd.prog w = .ok (.enter g args) w)
    (S : List OpV → Prop) (N : Nat) (hN : N ≤ 1000) (w : World) (hseq : SeqStops F (n - 1) Tryd.prog g lb opVal S (fun _ => True) N w) :
    CallsIn F n Tryd.prog 52 #[.slice none 0 0, .func (.func g) #[] lb] w fun e w' => ∃ (v : Value) (xs : List OpV), e = .returned v ∧ S xs ∧ w'.ownsRow w.heap.size 32 3 v xs.length (flat opCells xs) ∧ Ext w w' := by
  have h1 : 1 ≤ n := by omega
  obtain ⟨i0, hi, hz0, hz1, hz2⟩ := info_parts opInfo
  refine callsIn_of_wp_marks Tryd.func52 rfl hF ?_ hro
  simp only [Tryd.ntmps52, List.size_toArray, List.length_cons, List.length_nil, Nat.reduceAdd, Nat.reduceSub, Array.replicate_succ, Array.replicate_zero, List.push_toArray, List.append_toArray, List.nil_append, List.cons_append]
  gi_wp2
  have hb0 : Boxed (w.alloc (.cells #[.slice none 0 0] 29)) w.heap.size 29 (.slice none 0 0) := Boxed.new _ _ _
  obtain ⟨W0, hW0⟩ : ∃ W0, w.alloc (.cells #[.slice none 0 0] 29) = W0 := ⟨_, rfl⟩
  have hx0 : Below w.heap.size w W0 := by rw [← hW0]; exact ext_box _ _
  have hsz : W0.heap.size = w.heap.size + 1 := by rw [← hW0]; simp
  rw [hW0] at hb0 ⊢
  clear hW0
  refine wpIn_rangeFunc_ownH hro h1 (gf := g) (lb := lb) rfl hFg eg hseq walksK_t walksK_b hx0 (fun _ => rfl)
    (fun pre W => (∃ v, Boxed W w.heap.size 29 v ∧ W.ownsRow w.heap.size 32 3 v pre.length (flat opCells pre) ∧ True) ∧ Below w.heap.size w W)
    (fun _ _ _ => False)
    (OwnFrom.and (Own.from (holdsRow_own w.heap.size w.heap.size 29 32 3 (fun pre : List OpV => pre.length) (fun pre => flat opCells pre) (fun _ _ => True)) _) (ownFrom_below (Nat.le_refl _) (by omega)))
    (fun _ _ _ _ _ hs _ _ => hs)
    ⟨⟨_, hb0, World.ownsRow_nil _ _ _ _, trivial⟩, hx0⟩
    (fun x a' W => ∃ Bx, Blk W Bx 32 #[.int .i64 x.p, .int .i64 x.t, .string x.s] ∧ a' = { tmps := #[.slice none 0 0, .func (.func g) #[] lb, .pointer (some ⟨w.heap.size, 0, none⟩), undef, .slice none 0 0, .pointer (some ⟨Bx, 0, none⟩), .func (.func g) #[] lb, opVal x, undef, undef, undef, undef, undef], defers := [] })
    (fun x a' => by
      rintro u X Y row ⟨Bx, hb, ha⟩ hg hrow
      exact ⟨Bx, Own.from (blk_own Bx 32 (fun _ : Unit => #[Value.int .i64 x.p, .int .i64 x.t, .string x.s])) _ () X Y row hb hg hrow, ha⟩) ?assign ?body ?done ?stop
  case assign =>
    rintro l pre ⟨p, t, s⟩ W K ⟨⟨v, hv, hr, _⟩, hB⟩ hK
    simp only [opVal_eq]
    gi_wp2
    exact hK _ _ ((KeepsOthers.alloc _ _).from _) (KeepsWalks.alloc _ _) ⟨⟨v, hv.alloc _, hr.alloc _, trivial⟩, hB.alloc hB.size _⟩ ⟨_, Blk.new W _ _, rfl⟩
  case body =>
    rintro l pre ⟨p, t, s⟩ a' W hl ⟨r, hr'⟩ ⟨⟨v, hv, hrow, _⟩, hB⟩ ⟨Bx, hbx, rfl⟩ hlt
    have c0 : W.cell? ⟨Bx, 0, none⟩ = some (.int .i64 p) := hbx.cell 0
    have c1 : W.cell? ⟨Bx, 1, none⟩ = some (.int .i64 t) := hbx.cell 1
    have c2 : W.cell? ⟨Bx, 2, none⟩ = some (.string s) := hbx.cell 2
    have cv := hv.cell
    have fv := hv.frozen
    have hbl := hv.lt
    have hbx2 := hbx.lt
    have HBX := Lib.hid hbx
    clear hbx
    gi_wp2_with (first
      | (gi_at_builtin; refine wpListIn_append_own _ rfl _ _ 29 rfl w.heap.size 32 i0 _ 3 32 Tryd.underlying29 hi hz0 hz1 hz2 rfl (by decide) _ _ _ rfl (hrow.alloc _) ⟨W.heap.size, 0, none⟩ 1 1 (opCells ⟨p, t, s⟩) rfl rfl (fun j u hj => by rw [Addr.add_lit, Nat.zero_add, (Blk.new W _ _).cell]; simpa [opCells] using hj) (opCells_one _) (by unfold maxLen; omega) (by omega) (by have := hB.size; simp; omega) ?_; intro v' w1 hown' hgrow _; obtain ⟨g', cap', rfl⟩ := ownsRow_succ hown'; obtain ⟨hv1, hv2, hr2, hk2, hb2⟩ := hv.appended (by decide) hrow hB.size (Nat.le_refl _) hown' hgrow; have hc1 := hv1.cell; have hf1 := hv1.frozen)
      | gi_in)
    have e : flat opCells (pre ++ [(⟨p, t, s⟩ : OpV)]) = flat opCells pre ++ opCells ⟨p, t, s⟩ := by rw [flat_append]; simp [flat]
    have hr3 := hr2
    rw [← e] at hr3
    refine ⟨hk2.from _, ⟨hk2.size, fun k o h1 h2 => hk2.same k o h1 (Obj.not_cells_of_walk h2)⟩, ⟨_, hv2, ?_⟩, hB.trans hb2⟩
    rw [List.length_append]
    exact hr3
  case done =>
    rintro D xs W hD hS ⟨⟨v, hv, hrow, _⟩, hB⟩ hK
    have cv := hv.cell
    gi_wp2
    refine ⟨by simp, .inl ⟨_, _, rfl, run_takeDeferred hK, ?_⟩⟩
    refine ⟨_, results_tmp rfl _ _ _, v, xs, rfl, hS, ?_, ?_⟩
    · refine hrow.kept (grownBy_putObj' _ D (.deferred none)) (Or.inr fun e => ?_)
      rcases hrow.2 with ⟨rfl, _⟩ | ⟨g', cap, cur, rfl, _, hgb, _⟩
      · simp [Value.ownBlock] at e
      · have e' : g' = D := by simpa [Value.ownBlock] using e
        subst e'
        rw [hgb] at hK
        cases hK
    · exact hB.grown (grownBy_putObj' _ D (.deferred none)) hB.size (fun k e => by cases e; omega)
  case stop =>
    rintro D c pre W _ _ h _
    exact h.elim

set_option maxHeartbeats 1000000 in
theorem collect_in (F : Fence) (n : Nat) (hF : F.fn 32) (hF2 : F.fn 52) (hro : F.round = none) (hn : 3 ≤ n) (g : Nat) (lb : Array Value) (hFg : F.fn g) (eg : ∀ args w, (callFunc g args).run Tryd.prog w = .ok (.enter g args) w)
    (S : List OpV → Prop) (N : Nat) (hN : N ≤ 1000) (w : World) (hseq : SeqStops F (n - 1 - 1) Tryd.prog g lb opVal S (fun _ => True) N w) :
    CallsIn F n Tryd.prog 32 #[.func (.func g) #[] lb] w fun e w' => ∃ (v : Value) (xs : List OpV), e = .returned v ∧ S xs ∧ w'.ownsRow w.heap.size 32 3 v xs.length (flat opCells xs) ∧ Ext w w' := by
  have h1 : 1 ≤ n := by omega
  refine callsIn_of_wp Tryd.func32 rfl hF ?_ hro
  simp only [Tryd.ntmps32, List.size_toArray, List.length_cons, List.length_nil, Nat.reduceAdd, Nat.reduceSub, Array.replicate_succ, Array.replicate_zero, List.push_toArray, List.append_toArray, List.nil_append, List.cons_append]
  gi_wp2_with (gi_at_call 52; refine (appendSeq_in F (n - 1) hF2 hro (by omega) g lb hFg eg S N hN w hseq).mono ?_; rintro e w' ⟨v, xs, rfl, hS, hrow, hx⟩)
  go_ret
  exact ⟨v, xs, rfl, hS, hrow, hx⟩

set_option maxHeartbeats 400000 in
/-- slices.Collect(maps.Values(m)), as a plain call. -/
theorem collect_any (m : Nat) (L : List OpV) (hL : L.length ≤ 1000) (Bm : Nat) (w : World) (hBm : w.cell? ⟨Bm, 0, none⟩ = some (.map (some m))) (hm : MapAt Value.string w m (opsP L)) :
    Calls Tryd.prog 32 #[.func (.func 53) #[] #[.pointer (some ⟨Bm, 0, none⟩)]] w fun e w' => ∃ (v : Value) (xs : List OpV), e = .returned v ∧ xs.Perm L ∧ w'.ownsRow w.heap.size 32 3 v xs.length (flat opCells xs) ∧ Ext w w' :=
  callsIn_wide (n := 10) |>.1 (collect_in _ 10 trivial trivial rfl (by omega) 53 _ trivial (enters_of Tryd.func53 (by kernel_rfl) rfl) (fun xs => xs.Perm L) L.length hL w (values_stops _ _ trivial rfl (by omega) Bm m L w (cell_lt hBm) hBm hm))

end Go.Proofs.YtckkbghmiomfiaaDoor
