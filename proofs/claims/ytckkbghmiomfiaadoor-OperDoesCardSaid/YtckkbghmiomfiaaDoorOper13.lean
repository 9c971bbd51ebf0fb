/- Layer 9 (oper): slices.Grow, slices.Concat. -/
import Derived.Test.YtckkbghmiomfiaaDoorOper12
import Derived.Test.YtckkbghmiomfiaaDoorGrow
namespace Go.Proofs.YtckkbghmiomfiaaDoor
open Go.RowKit Go.El

set_option maxHeartbeats 800000 in
theorem grow_zero (w : World) : Calls Tryd.prog 51 #[.slice none 0 0, .int .i64 0] w fun e w' => e = .returned (.slice none 0 0) ∧ Ext w w' := by
  go_enter Tryd.func51, Tryd.ntmps51
  go_wp2_with fail
  go_ret
  exact ⟨rfl, Ext.refl _⟩

set_option maxRecDepth 100000 in
set_option maxHeartbeats 800000 in
theorem grow_some (n : Nat) (h0 : 0 < n) (hn : n ≤ 2000) (w : World) : Calls Tryd.prog 51 #[.slice none 0 0, .int .i64 n] w fun e w' => ∃ v, e = .returned v ∧ w'.ownsRow 0 32 3 v 0 [] ∧ (∀ b, v.ownBlock = some b → w.heap.size ≤ b) ∧ Ext w w' := by
  obtain ⟨i0, hi0, hz0, hz1, hz2⟩ := info_parts opInfo
  have hn0 : (n : Int) ≠ 0 := by omega
  have hw : IntKind.i64.wrap (n : Int) = n := IntWalk.i64_in _ (by omega)
  have hpos : (0 : Int) < n := by omega
  go_enter Tryd.func51, Tryd.ntmps51
  go_wp2_with (at_builtin; refine wpList_append_zeros (P := Tryd.prog) rfl _ _ 29 3 rfl 32 i0 _ .i64 .i64 3 32 Tryd.underlying29 Tryd.underlying3 hi0 hz0 hz1 hz2 rfl (by omega) (by omega) n h0 (by omega) rfl rfl ?_; intro c w' hx hl hc1 hc2 hrow)
  go_ret
  refine ⟨_, rfl, hrow, ?_, hx⟩
  intro b hb
  simp [Value.ownBlock] at hb
  omega

theorem grow_any (n : Nat) (z : Int) (hz : z = n) (hn : n ≤ 2000) (w : World) : Calls Tryd.prog 51 #[.slice none 0 0, .int .i64 z] w fun e w' => ∃ v, e = .returned v ∧ w'.ownsRow 0 32 3 v 0 [] ∧ (∀ b, v.ownBlock = some b → w.heap.size ≤ b) ∧ Ext w w' := by
  subst hz
  rcases Nat.eq_zero_or_pos n with rfl | h0
  · exact (grow_zero w).mono fun e w' ⟨e1, e2⟩ => ⟨_, e1, World.ownsRow_nil _ _ _ _, by simp [Value.ownBlock], e2⟩
  · exact grow_some n h0 hn w

theorem flat_one' (L : List OpV) : ∀ u ∈ flat opCells L, u.oneCell' = true := flat_one opCells_one L

/-- What Concat is handed: two rows. -/
structure TwoRows (w : World) (gb : Nat) (v1 v2 : Value) (L1 L2 : List OpV) : Prop where
  c0 : w.cell? ⟨gb, 0, none⟩ = some v1
  c1 : w.cell? ⟨gb, 1, none⟩ = some v2
  o1 : w.ownsRow 0 32 3 v1 L1.length (flat opCells L1)
  o2 : w.ownsRow 0 32 3 v2 L2.length (flat opCells L2)

set_option maxRecDepth 100000 in
set_option maxHeartbeats 1600000 in
theorem concat_any (gb c : Nat) (v1 v2 : Value) (L1 L2 : List OpV) (w : World) (h : TwoRows w gb v1 v2 L1 L2) (h1 : L1.length ≤ 1000) (h2 : L2.length ≤ 1000) :
    Calls Tryd.prog 31 #[.slice (some ⟨gb, 0, none⟩) 2 c] w fun e w' => ∃ v, e = .returned v ∧ w'.ownsRow 0 32 3 v (L1 ++ L2).length (flat opCells (L1 ++ L2)) ∧ (∀ b, v.ownBlock = some b → w.heap.size ≤ b) ∧ Ext w w' := by
  obtain ⟨i0, hi0, hz0, hz1, hz2⟩ := info_parts opInfo
  obtain ⟨A1, c1, rfl⟩ := own_value h.o1
  obtain ⟨A2, c2, rfl⟩ := own_value h.o2
  have g0 := h.c0
  have g1 := h.c1
  have H := Lib.hid h
  have e1 : ¬ ((L1.length : Int) + (L2.length : Int) < 0) := by omega
  have e2 : ¬ ((L1.length : Int) < 0) := by omega
  have e3 : IntKind.i64.wrap ((L1.length : Int) + (L2.length : Int)) = (L1.length : Int) + (L2.length : Int) := IntWalk.i64_in _ (by omega)
  have e4 : IntKind.i64.wrap (L1.length : Int) = (L1.length : Int) := IntWalk.i64_in _ (by omega)
  have E5 : Hid (L1.length + L2.length ≤ 2000) := by show _ ≤ _; omega
  have H1 := Lib.hid h1
  have H2 := Lib.hid h2
  clear h h1 h2
  go_enter Tryd.func31, Tryd.ntmps31
  go_wp2_with fail
  go_loop [3, 11] (fun sz i => (i = .int .i64 0 ∧ sz = .int .i64 0) ∨ (i = .int .i64 1 ∧ sz = .int .i64 L1.length) ∨ (i = .int .i64 2 ∧ sz = .int .i64 ((L1.length : Int) + L2.length))) (fun _ i => 2 - (intOf i).toNat)
  case atStart => exact .inl ⟨rfl, rfl⟩
  case round =>
    rcases hrel with ⟨rfl, rfl⟩ | ⟨rfl, rfl⟩ | ⟨rfl, rfl⟩
    · go_wp2_with fail
      exact ⟨.inr (.inl ⟨rfl, rfl⟩), by decide⟩
    · go_wp2_with fail
      exact ⟨.inr (.inr ⟨rfl, rfl⟩), by decide⟩
    · go_wp2_with (go_at_call 51; refine (grow_any (L1.length + L2.length) _ (by simp) E5.out _).mono ?_; rintro e w1 ⟨v0, rfl, hv0, hf0, hx0⟩)
      go_loopw [6, 27] (fun v i wr => ((i = .int .i64 0 ∧ wr.ownsRow 0 32 3 v 0 []) ∨ (i = .int .i64 1 ∧ wr.ownsRow 0 32 3 v L1.length (flat opCells L1)) ∨ (i = .int .i64 2 ∧ wr.ownsRow 0 32 3 v (L1 ++ L2).length (flat opCells (L1 ++ L2)))) ∧ Hid (∀ b, v.ownBlock = some b → w.heap.size ≤ b) ∧ Hid (Ext w wr)) (fun _ i _ => 2 - (intOf i).toNat)
      case atStart => exact ⟨.inl ⟨rfl, hv0⟩, hf0, hx0⟩
      case round =>
        obtain ⟨hc, HF, HX⟩ := hrel
        have k0 := HX.out.cell g0
        have k1 := HX.out.cell g1
        have hnx : ∀ (v v3 : Value) (w3 : World), (∀ b, v.ownBlock = some b → w.heap.size ≤ b) → Mods (ownL v) wr w3 → (v3.ownBlock = v.ownBlock ∨ v3.ownBlock = some wr.heap.size) → (∀ b, v3.ownBlock = some b → w.heap.size ≤ b) ∧ Ext w w3 := fun v v3 w3 hf hm hb => by
          refine ⟨fun b hb3 => ?_, ?_⟩
          · rcases hb with h | h
            · exact hf b (h.symm.trans hb3)
            · rw [h] at hb3
              injection hb3 with hb3
              subst hb3
              exact HX.out.size
          · exact (Mods.step (S := []) (Mods.ext HX.out) hm (fun x hx => .inr (hf x (by simpa [ownL] using hx)))).toExt (by simp)
        have HN := Lib.hid hnx
        clear hnx
        rcases hc with ⟨rfl, hrow⟩ | ⟨rfl, hrow⟩ | ⟨rfl, hrow⟩
        · go_wp2_with (at_builtin; refine wpList_append_src (P := Tryd.prog) rfl _ _ 29 rfl 32 i0 _ 3 32 Tryd.underlying29 hi0 hz0 hz1 hz2 rfl (by omega) _ rfl A1 L1.length c1 rfl _ _ hrow (flat opCells L1) (Src.of_own (own_ext H.out.o1 HX.out)) (flat_one' _) (by have := H1.out; have := H2.out; unfold maxLen; simp; omega) (by have := H1.out; have := H2.out; simp; omega) ?_; intro v3 w3 ho3 hm3 hb3)
          obtain ⟨f3, x3⟩ := HN.out _ _ _ HF.out hm3 hb3
          exact ⟨⟨.inr (.inl ⟨rfl, by simpa using ho3⟩), f3, x3⟩, by decide⟩
        · go_wp2_with (at_builtin; refine wpList_append_src (P := Tryd.prog) rfl _ _ 29 rfl 32 i0 _ 3 32 Tryd.underlying29 hi0 hz0 hz1 hz2 rfl (by omega) _ rfl A2 L2.length c2 rfl _ _ hrow (flat opCells L2) (Src.of_own (own_ext H.out.o2 HX.out)) (flat_one' _) (by have := H1.out; have := H2.out; unfold maxLen; simp; omega) (by have := H1.out; have := H2.out; simp; omega) ?_; intro v3 w3 ho3 hm3 hb3)
          obtain ⟨f3, x3⟩ := HN.out _ _ _ HF.out hm3 hb3
          exact ⟨⟨.inr (.inr ⟨rfl, by rw [flat_append, List.length_append]; exact ho3⟩), f3, x3⟩, by decide⟩
        · go_wp2_with fail
          go_ret
          exact ⟨_, rfl, hrow, HF.out, HX.out⟩

end Go.Proofs.YtckkbghmiomfiaaDoor
