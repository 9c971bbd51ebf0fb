/- Layer 10, the program: the walk of term.List. -/
import Derived.Test.YtgcdhffeacdegaaGreatDoorG23
namespace Go.Proofs.YtgcdhffeacdegaaGreatDoor
open Go.RowKit Go.El Go.Shelf
attribute [local go_sem] Oper.semAt_some

theorem tm_grown {D : Nat → Prop} {w w' : World} {row : Option Nat} (hg : w.grownBy w' row) (hr : ∀ r, row = some r → ∃ o : Obj, w.heap[r]? = some o ∧ o.isCells = false) {t : Tm} {A : Option Addr} {c : Nat} (h : TmIn D w t A c) : TmIn D w' t A c := by
  induction h with
  | mk k n s l A cap ch hl hk hs hc ih =>
    refine .mk k n s l A cap ch hl ih (fun hne => ?_) hc
    obtain ⟨b, off, hA, hb, hcell⟩ := hs hne
    refine ⟨b, off, hA, hb, fun j t c ht hcj => ?_⟩
    obtain ⟨h0, h1, h2, h3⟩ := hcell j t c ht hcj
    exact ⟨cell_kept h0 hg hr, cell_kept h1 hg hr, cell_kept h2 hg hr, cell_kept h3 hg hr⟩
theorem tm_lt {D : Nat → Prop} {w : World} {t : Tm} {A : Option Addr} {c : Nat} (h : TmIn D w t A c) : TmIn (fun k => D k ∧ k < w.heap.size) w t A c := by
  induction h with
  | mk k n s l A cap ch hl hk hs hc ih =>
    refine .mk k n s l A cap ch hl ih (fun hne => ?_) hc
    obtain ⟨b, off, hA, hb, hcell⟩ := hs hne
    refine ⟨b, off, hA, ⟨hb, ?_⟩, hcell⟩
    have h0 : 0 < l.length := List.length_pos_iff.2 hne
    obtain ⟨h1, _⟩ := hcell 0 _ _ (List.getElem?_eq_getElem h0) (List.getElem?_eq_getElem (by omega))
    exact cell_lt h1
theorem blk_grown {w w' : World} {row : Option Nat} {g : Nat} {T : TypeId} {cs : Array Value} (h : Blk w g T cs) (hg : w.grownBy w' row) (hr : ∀ r, row = some r → ∃ o : Obj, w.heap[r]? = some o ∧ o.isCells = false) : Blk w' g T cs := by
  refine (hg.block g h.lt (fun e => ?_)).trans h
  obtain ⟨o, ho, hc⟩ := hr g e.symm
  rw [show w.heap[g]? = _ from h] at ho
  cases ho
  cases hc
theorem keepsFrom_ext {B : Nat} {W W' : World} (h : Ext W W') : KeepsFrom B W W' := ⟨h.size, fun _ _ _ hk _ => (h.block _ (Array.getElem?_eq_some_iff.1 hk).1).trans hk⟩

/-- The term, as far as the list is put together. -/
def bkT {M : List TmP} (u : Tm) (pre : List (BkX M)) : Tm := (pre.map (fun x => (bkP x).1)).foldl (fun t x => .mk 4 0 dotB [x, t]) u
theorem bkT_snoc {M : List TmP} (u : Tm) (pre : List (BkX M)) (x : BkX M) : bkT u (pre ++ [x]) = .mk 4 0 dotB [x.1.2.1, bkT u pre] := by
  simp [bkT, bkP]
theorem bkT_all {M : List TmP} (u : Tm) (pre : List (BkX M)) (h : pre.map bkP = M.reverse) : bkT u pre = listT (M.map (·.1)) u := by
  have : pre.map (fun x => (bkP x).1) = (M.map (·.1)).reverse := by
    rw [← List.map_reverse, ← h, List.map_map]
    rfl
  unfold bkT listT
  rw [this, List.foldl_reverse]
/-- The cells of a term's value. -/
def tmA (t : Tm) (A : Option Addr) (c : Nat) : Array Value := #[.int .i64 (Tm.k t), .int .i64 (Tm.n t), .string (Tm.s t), .slice A (Tm.l t).length c]
/-- What is known between two rounds. -/
def BkI {M : List TmP} (D : Nat → Prop) (w : World) (A : Option Addr) (c : Nat) (u : Tm) (pre : List (BkX M)) (W : World) : Prop :=
  (∃ A' c', Blk W w.heap.size 32 (tmA (bkT u pre) A' c') ∧ TmIn (fun k => D k ∨ w.heap.size + 2 ≤ k) W (bkT u pre) A' c') ∧ Blk W (w.heap.size + 1) 32 #[.int .i64 0, .int .i64 0, .string ⟨#[]⟩, .slice none 0 0] ∧ Blk W (w.heap.size + 2) 30 #[.slice A M.length c]

set_option maxRecDepth 100000 in
set_option maxHeartbeats 4000000 in
theorem tlist_any (M : List TmP) (A : Option Addr) (c : Nat) (u : Tm) (Au : Option Addr) (cu : Nat) (w : World) (D : Nat → Prop) (hs : El.Src w A M.length 4 (flat tmC M)) (hk : ∀ p ∈ M, TmIn D w p.1 p.2.1 p.2.2) (hu : TmIn D w u Au cu) (hA : ∀ a, A = some a → a.block < w.heap.size) (hD : ∀ k, D k → k < w.heap.size) (hl : M.length ≤ 70000) :
    Calls Tryz.prog 169 #[.slice A M.length c, .agg #[.int .i64 (Tm.k u), .int .i64 (Tm.n u), .string (Tm.s u), .slice Au (Tm.l u).length cu]] w fun e w' => ∃ A' c', e = .returned (.agg #[.int .i64 (Tm.k (listT (M.map (·.1)) u)), .int .i64 (Tm.n (listT (M.map (·.1)) u)), .string (Tm.s (listT (M.map (·.1)) u)), .slice A' (Tm.l (listT (M.map (·.1)) u)).length c']) ∧ TmIn (fun k => D k ∨ (w.heap.size ≤ k ∧ k < w'.heap.size)) w' (listT (M.map (·.1)) u) A' c' ∧ Ext w w' := by
  refine (callsIn_wide (n := 3)).1 ?_
  refine callsIn_of_wp_marks Tryz.func169 rfl trivial ?_ rfl
  simp only [Tryz.ntmps169, List.size_toArray, List.length_cons, List.length_nil, Nat.reduceAdd, Nat.reduceSub, Array.replicate_succ, Array.replicate_zero, List.push_toArray, List.append_toArray, List.nil_append, List.cons_append]
  gi_wp2_with (refine ⟨trivial, ?_⟩; gi_at_call 187; refine (bk_in _ _ trivial rfl _ _ _ _).mono ?_; rintro e w' ⟨rfl, rfl⟩)
  have x0 := (((Ext.refl w).alloc (.cells (tmA u Au cu) 32)).alloc (.cells #[.int .i64 0, .int .i64 0, .string ⟨#[]⟩, .slice none 0 0] 32)).alloc (.cells #[.slice A M.length c] 30)
  have b0 := ((Blk.new w 32 (tmA u Au cu)).ext (ext_box4 _ (.cells #[.int .i64 0, .int .i64 0, .string ⟨#[]⟩, .slice none 0 0] 32))).ext (ext_box4 _ (.cells #[.slice A M.length c] 30))
  have b1 := (Blk.new (w.alloc (.cells (tmA u Au cu) 32)) 32 #[.int .i64 0, .int .i64 0, .string ⟨#[]⟩, .slice none 0 0]).ext (ext_box4 _ (.cells #[.slice A M.length c] 30))
  have b2 := Blk.new ((w.alloc (.cells (tmA u Au cu) 32)).alloc (.cells #[.int .i64 0, .int .i64 0, .string ⟨#[]⟩, .slice none 0 0] 32)) 30 #[.slice A M.length c]
  simp only [World.size_alloc] at b1 b2
  have hsz : (((w.alloc (.cells (tmA u Au cu) 32)).alloc (.cells #[.int .i64 0, .int .i64 0, .string ⟨#[]⟩, .slice none 0 0] 32)).alloc (.cells #[.slice A M.length c] 30)).heap.size = w.heap.size + 3 := by simp
  rw [show (.cells #[.int .i64 (Tm.k u), .int .i64 (Tm.n u), .string (Tm.s u), .slice Au (Tm.l u).length cu] 32 : Obj) = .cells (tmA u Au cu) 32 from rfl]
  generalize ((w.alloc (.cells (tmA u Au cu) 32)).alloc (.cells #[.int .i64 0, .int .i64 0, .string ⟨#[]⟩, .slice none 0 0] 32)).alloc (.cells #[.slice A M.length c] 30) = W0 at *
  refine wpIn_rangeFunc_ownH rfl (by omega) (gf := 203) (lb := #[.pointer (some ⟨w.heap.size + 1 + 1, 0, none⟩)]) rfl trivial (enters_of Tryz.func203 (by kernel_rfl) rfl)
    (bk_stops Fence.wide (3 - 1) trivial rfl (by omega) (w.heap.size + 1 + 1) w.heap.size A c M hl W0 (by omega) (b2.cell 0) (hs.ext x0) hA)
    KeepB.trans (fun W l o o' hl ho hc hw => ⟨belowK_b (w := W0) x0.size W l o o' hl ho hc hw, fun v hv => cell_kept hv (grownBy_putObj' W l o') (fun r e => by cases e; exact ⟨o, ho, hc⟩)⟩) (Below.refl _ _) (fun _ => rfl)
    (fun pre W => BkI D w A c u pre W ∧ Below w.heap.size w W) (fun _ _ _ => False)
    (OwnFrom.and (Own.from (fun s X Y row h hg hr => ?own) _) (ownFrom_below (Nat.le_refl _) x0.size)) (fun _ _ _ _ _ h _ _ => h)
    ⟨⟨⟨Au, cu, b0, (hu.ext x0).mono (fun k hk => .inl hk)⟩, b1, b2⟩, x0⟩
    (fun x a' W => ∃ Bx, w.heap.size + 3 ≤ Bx ∧ Blk W Bx 32 (tmA x.1.2.1 x.1.2.2.1 x.1.2.2.2) ∧ a' = { tmps := #[.slice A M.length c, .agg (tmA u Au cu), undef, .pointer (some ⟨w.heap.size, 0, none⟩), .pointer (some ⟨w.heap.size + 1, 0, none⟩), undef, .pointer (some ⟨Bx, 0, none⟩), .slice A M.length c, .func (.func 203) #[] #[.pointer (some ⟨w.heap.size + 1 + 1, 0, none⟩)], .int .i64 (x.1.1 : Int), .agg (tmA x.1.2.1 x.1.2.2.1 x.1.2.2.2), undef, undef, undef, undef, undef], defers := [] })
    (fun x a' => Own.from (fun _ X Y row h hg hr => ?ownx) _) ?assign ?body ?done ?stop
  case own =>
    obtain ⟨⟨A', c', h1, h2⟩, h3, h4⟩ := h
    exact ⟨⟨A', c', blk_grown h1 hg hr, tm_grown hg hr h2⟩, blk_grown h3 hg hr, blk_grown h4 hg hr⟩
  case ownx =>
    obtain ⟨Bx, h1, h2, h3⟩ := h
    exact ⟨Bx, h1, blk_grown h2 hg hr, h3⟩
  case assign =>
    rintro l pre x W K ⟨⟨⟨A', c', h1, h2⟩, h3, h4⟩, h5⟩ hK
    dsimp only [bkE]
    gi_wp2
    have hx := ext_box4 W (.cells (tmA x.1.2.1 x.1.2.2.1 x.1.2.2.2) 32)
    have h4l := h4.lt
    exact hK _ _ (keepsFrom_ext hx) ⟨hx.mono h5.size, fun v hv => hx.cell hv⟩ ⟨⟨⟨A', c', h1.ext hx, h2.ext hx⟩, h3.ext hx, h4.ext hx⟩, h5.trans (hx.mono h5.size)⟩ ⟨W.heap.size, by omega, Blk.new W _ _, rfl⟩
  case body =>
    rintro l pre x a' W _ _ ⟨⟨⟨A', c', h1, h2⟩, h3, h4⟩, h5⟩ ⟨Bx, hBx, bx, rfl⟩ _
    have hd : 1 ≤ 3 - 1 - 1 := by omega
    obtain ⟨⟨xi, p, q, d⟩, hxM⟩ := x
    have HK := Lib.hid ((hk _ hxM).ext h5)
    have HT := Lib.hid (bkT_snoc u pre ⟨(xi, p, q, d), hxM⟩)
    dsimp only at HK HT bx
    generalize bkT u pre = t at *
    have z1 : Blk W w.heap.size 32 #[.int .i64 (Tm.k t), .int .i64 (Tm.n t), .string (Tm.s t), .slice A' (Tm.l t).length c'] := h1
    have z2 : Blk W Bx 32 #[.int .i64 (Tm.k p), .int .i64 (Tm.n p), .string (Tm.s p), .slice q (Tm.l p).length d] := bx
    have HS := Lib.hid (El.Src.new W #[.int .i64 (Tm.k p), .int .i64 (Tm.n p), .string (Tm.s p), .slice q (Tm.l p).length d, .int .i64 (Tm.k t), .int .i64 (Tm.n t), .string (Tm.s t), .slice A' (Tm.l t).length c'] 32 2 4 rfl)
    have HC := Lib.hid (pComp_any dotB [(p, q, d), (t, A', c')] (some ⟨W.heap.size, 0, none⟩) 2 (W.alloc (.cells #[.int .i64 (Tm.k p), .int .i64 (Tm.n p), .string (Tm.s p), .slice q (Tm.l p).length d, .int .i64 (Tm.k t), .int .i64 (Tm.n t), .string (Tm.s t), .slice A' (Tm.l t).length c'] 32)) (fun k => D k ∨ w.heap.size + 2 ≤ k) HS.out (fun e he => by
      simp only [List.mem_cons, List.not_mem_nil, or_false] at he
      rcases he with rfl | rfl
      · exact (HK.out.mono (fun k hk => .inl hk)).ext (ext_box4 _ _)
      · exact h2.ext (ext_box4 _ _)) (by simp) (by simp))
    simp only [List.length_cons, List.length_nil, Nat.reduceAdd, dotB] at HC
    have k1 := z1.cell
    have f1 := z1.frozen
    have k2 := z2.cell
    have H1 := Lib.hid z1
    have H3 := Lib.hid h3
    have H4 := Lib.hid h4
    have H5 := Lib.hid h5
    clear h1 bx h2 h3 h4 h5 z1 z2
    clear hs hk hu hA
    gi_wp2_with (refine ⟨trivial, ?_⟩; gi_at_call 67; refine (CallsIn.inRound l (callsIn_wide.2 HC.out)).mono ?_; rintro e W5 ⟨A5, c5, rfl, ht5, hx5⟩; have T5 := Lib.hid ht5; have X5 := Lib.hid ((ext_box4 W _).trans hx5); have Z5 := Lib.hid (H1.out.ext X5.out); have zc := Z5.out.cell; have zf := Z5.out.frozen; clear ht5 hx5)
    have hlt4 := H4.out.lt
    have hx5 : Below w.heap.size W W5 := X5.out.mono (by omega)
    have hset : Below w.heap.size W ((((W5.setCell ⟨w.heap.size, 0, none⟩ (.int .i64 4)).setCell ⟨w.heap.size, 1, none⟩ (.int .i64 0)).setCell ⟨w.heap.size, 2, none⟩ (.string ⟨#[46]⟩)).setCell ⟨w.heap.size, 3, none⟩ (.slice A5 2 c5)) := (((hx5.setCell (p := ⟨w.heap.size, 0, none⟩) (Nat.le_refl _) _).setCell (p := ⟨w.heap.size, 1, none⟩) (Nat.le_refl _) _).setCell (p := ⟨w.heap.size, 2, none⟩) (Nat.le_refl _) _).setCell (p := ⟨w.heap.size, 3, none⟩) (Nat.le_refl _) _
    have hz3 := ((((H3.out.ext X5.out).far (p := ⟨w.heap.size, 0, none⟩) (by simp) (.int .i64 4)).far (p := ⟨w.heap.size, 1, none⟩) (by simp) (.int .i64 0)).far (p := ⟨w.heap.size, 2, none⟩) (by simp) (.string ⟨#[46]⟩)).far (p := ⟨w.heap.size, 3, none⟩) (by simp) (.slice A5 2 c5)
    have hz4 := ((((H4.out.ext X5.out).far (p := ⟨w.heap.size, 0, none⟩) (by simp) (.int .i64 4)).far (p := ⟨w.heap.size, 1, none⟩) (by simp) (.int .i64 0)).far (p := ⟨w.heap.size, 2, none⟩) (by simp) (.string ⟨#[46]⟩)).far (p := ⟨w.heap.size, 3, none⟩) (by simp) (.slice A5 2 c5)
    have hb := blk_set4 Z5.out (.int .i64 4) (.int .i64 0) (.string ⟨#[46]⟩) (.slice A5 2 c5)
    have ht : TmIn (fun k => D k ∨ w.heap.size + 2 ≤ k) ((((W5.setCell ⟨w.heap.size, 0, none⟩ (.int .i64 4)).setCell ⟨w.heap.size, 1, none⟩ (.int .i64 0)).setCell ⟨w.heap.size, 2, none⟩ (.string ⟨#[46]⟩)).setCell ⟨w.heap.size, 3, none⟩ (.slice A5 2 c5)) (.mk 4 0 dotB [p, t]) A5 c5 :=
      TmIn.mods (S := [w.heap.size]) (((((Mods.refl [w.heap.size] W5).setCell (p := ⟨w.heap.size, 0, none⟩) (.inl (by simp)) _).setCell (p := ⟨w.heap.size, 1, none⟩) (.inl (by simp)) _).setCell (p := ⟨w.heap.size, 2, none⟩) (.inl (by simp)) _).setCell (p := ⟨w.heap.size, 3, none⟩) (.inl (by simp)) _)
        (fun k hk => by rcases hk with hk | hk; have := hD k hk; simp; omega; simp; omega) (fun _ hk => hk) (T5.out.mono (fun k hk => by rcases hk with hk | ⟨hk, _⟩; exact hk; simp at hk; exact .inr (by omega)))
    refine ⟨(keepsFrom_ext X5.out).trans ((((KeepsOthers.setCell _ _ _).trans (KeepsOthers.setCell _ _ _)).trans ((KeepsOthers.setCell _ _ _).trans (KeepsOthers.setCell _ _ _))).from _), ⟨hset, fun v hv => ?_⟩, ⟨⟨A5, c5, ?_, ?_⟩, hz3, hz4⟩, H5.out.trans hset⟩
    · have h1 : W.cell? ⟨w.heap.size + 1 + 1, 0, none⟩ = some (.slice A M.length c) := H4.out.cell 0
      rw [h1] at hv
      injection hv with hv
      subst hv
      exact hz4.cell 0
    · rw [HT.out]
      exact hb
    · rw [HT.out]
      exact ht
  case done =>
    rintro Dk ys W hDk hys ⟨⟨⟨A', c', h1, h2⟩, h3, h4⟩, h5⟩ hKd
    have HT := bkT_all u ys hys
    rw [HT] at h1 h2
    obtain ⟨t, ht0⟩ : ∃ t, listT (M.map (fun (p : TmP) => p.1)) u = t := ⟨_, rfl⟩
    rw [ht0] at h1 h2
    have z1 : Blk W w.heap.size 32 #[.int .i64 (Tm.k t), .int .i64 (Tm.n t), .string (Tm.s t), .slice A' (Tm.l t).length c'] := h1
    have k1 := z1.cell
    have k3 := h3.cell
    have f3 := h3.frozen
    gi_wp2
    obtain ⟨W4, hW4⟩ : ∃ W4, (((W.setCell ⟨w.heap.size + 1, 0, none⟩ (.int .i64 (Tm.k t))).setCell ⟨w.heap.size + 1, 1, none⟩ (.int .i64 (Tm.n t))).setCell ⟨w.heap.size + 1, 2, none⟩ (.string (Tm.s t))).setCell ⟨w.heap.size + 1, 3, none⟩ (.slice A' (Tm.l t).length c') = W4 := ⟨_, rfl⟩
    have hz := blk_set4 h3 (.int .i64 (Tm.k t)) (.int .i64 (Tm.n t)) (.string (Tm.s t)) (.slice A' (Tm.l t).length c')
    have hK4 := (((KeepsOthers.setCell W ⟨w.heap.size + 1, 0, none⟩ (.int .i64 (Tm.k t))).trans (KeepsOthers.setCell _ ⟨w.heap.size + 1, 1, none⟩ (.int .i64 (Tm.n t)))).trans ((KeepsOthers.setCell _ ⟨w.heap.size + 1, 2, none⟩ (.string (Tm.s t))).trans (KeepsOthers.setCell _ ⟨w.heap.size + 1, 3, none⟩ (.slice A' (Tm.l t).length c')))).same Dk _ hKd rfl
    have hb4 := (((h5.setCell (p := ⟨w.heap.size + 1, 0, none⟩) (by simp) (.int .i64 (Tm.k t))).setCell (p := ⟨w.heap.size + 1, 1, none⟩) (by simp) (.int .i64 (Tm.n t))).setCell (p := ⟨w.heap.size + 1, 2, none⟩) (by simp) (.string (Tm.s t))).setCell (p := ⟨w.heap.size + 1, 3, none⟩) (by simp) (.slice A' (Tm.l t).length c')
    have ht4 := TmIn.mods (S := [w.heap.size + 1]) (D' := fun k => D k ∨ w.heap.size + 2 ≤ k) (((((Mods.refl [w.heap.size + 1] W).setCell (p := ⟨w.heap.size + 1, 0, none⟩) (.inl (by simp)) (.int .i64 (Tm.k t))).setCell (p := ⟨w.heap.size + 1, 1, none⟩) (.inl (by simp)) (.int .i64 (Tm.n t))).setCell (p := ⟨w.heap.size + 1, 2, none⟩) (.inl (by simp)) (.string (Tm.s t))).setCell (p := ⟨w.heap.size + 1, 3, none⟩) (.inl (by simp)) (.slice A' (Tm.l t).length c')) (fun k hk => by rcases hk with hk | hk; have := hD k hk; simp; omega; simp; omega) (fun _ hk => hk) h2
    rw [hW4] at hz hK4 hb4 ht4 ⊢
    have hg := grownBy_putObj' W4 Dk (.deferred none)
    have hr : ∀ r, some Dk = some r → ∃ o : Obj, W4.heap[r]? = some o ∧ o.isCells = false := fun r e => by cases e; exact ⟨_, hK4, rfl⟩
    have kc := (blk_grown hz hg hr).cell
    refine ⟨by simp, .inl ⟨_, _, rfl, run_takeDeferred hK4, ?_⟩⟩
    rw [ht0]
    refine ⟨.agg #[.int .i64 (Tm.k t), .int .i64 (Tm.n t), .string (Tm.s t), .slice A' (Tm.l t).length c'], ?_, A', c', rfl, (tm_lt (tm_grown hg hr ht4)).mono (fun k hk => ?_), hb4.trans (belowK_b (w := w) (Nat.le_refl _) W4 Dk _ _ (by omega) hK4 rfl rfl)⟩
    · simp [results, Tryz.results169, go_sem, kc]
    · rcases hk with ⟨hk | hk, hl⟩
      · exact .inl hk
      · exact .inr ⟨by omega, hl⟩
  case stop =>
    rintro D c pre W _ _ h _
    exact h.elim
end Go.Proofs.YtgcdhffeacdegaaGreatDoor
