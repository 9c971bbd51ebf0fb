/- Layer 9, the reference: add, New. -/
import Derived.Test.YtckkbghmiomfiaaDoorOper9
namespace Go.Proofs.YtckkbghmiomfiaaDoor
open Go.RowKit Go.El

set_option maxHeartbeats 1600000 in
theorem radd_any (rb : Nat) (v : Value) (L : List OpV) (p t : Int) (ns : List ByteArray) (g c : Nat) (w : World) (h : RefAt 32 w rb v L) (hlen : ns.length ≤ 100) (hL : L.length ≤ 1000) (hs : ∀ j s, ns[j]? = some s → w.cell? ⟨g, j, none⟩ = some (.string s)) (hg1 : g ≠ rb) (hg2 : v.ownBlock ≠ some g) :
    Calls Tryd.prog 29 #[.pointer (some ⟨rb, 0, none⟩), .int .i64 p, .int .i64 t, .slice (some ⟨g, 0, none⟩) ns.length c] w fun e w' => e = .returned (.tuple #[]) ∧ ∃ v', RefAt 32 w' rb v' (L ++ ns.map fun s => ⟨p, t, s⟩) ∧ Mods (rb :: ownL v) w w' ∧ (∀ b, v'.ownBlock = some b → v.ownBlock = some b ∨ w.heap.size ≤ b) := by
  have h0 := h.cell
  have hgv : ∀ j s, ns[j]? = some s → ∀ v' : Value, ∀ W W' : World, W.cell? ⟨g, j, none⟩ = some (.string s) → v'.ownBlock ≠ some g → Mods (rb :: ownL v') W W' → W'.cell? ⟨g, j, none⟩ = some (.string s) := fun j s _ v' W W' hc hv hm => hm.cell hc (by
    simp only [List.mem_cons, not_or]
    exact ⟨hg1, fun hm => hv (by simpa [ownL] using hm)⟩)
  obtain ⟨i0, hi0, hz0, hz1, hz2⟩ := info_parts opInfo
  have H := Lib.hid h
  have HS := Lib.hid hs
  have HG := Lib.hid hgv
  have HG2 := Lib.hid hg2
  clear hs hgv hg2 h
  go_enter Tryd.func29, Tryd.ntmps29
  go_wp2_with fail
  go_loopw [8] (fun i wr => ∃ (k : Nat) (v' : Value), k ≤ ns.length ∧ i = .int .i64 k ∧ RefAt 32 wr rb v' (L ++ (ns.take k).map fun s => ⟨p, t, s⟩) ∧ Mods (rb :: ownL v) w wr ∧ Hid (∀ b, v'.ownBlock = some b → v.ownBlock = some b ∨ w.heap.size ≤ b) ∧ Hid (v'.ownBlock ≠ some g)) (fun i _ => ns.length - (intOf i).toNat)
  case atStart => exact ⟨0, v, Nat.zero_le _, rfl, by simpa using H.out, Mods.refl _ _, fun b hb => .inl hb, HG2.out⟩
  case round =>
    obtain ⟨k, v', hk, rfl, hmk, hd, HB1, HB2⟩ := hrel
    by_cases hlt : k < ns.length
    · have ho : ns[k]? = some ns[k] := List.getElem?_eq_getElem hlt
      generalize ns[k] = s at ho
      have hcs : wr.cell? ⟨g, k, none⟩ = some (.string s) := hd.cell (HS.out k s ho) (by
        simp only [List.mem_cons, not_or]
        exact ⟨hg1, fun hm => HG2.out (by simpa [ownL] using hm)⟩)
      have hgl : g < wr.heap.size := cell_lt hcs
      have hlm : (L ++ (ns.take k).map fun s => (⟨p, t, s⟩ : OpV)).length = L.length + k := by simp; omega
      have htk : (L ++ (ns.take (k + 1)).map fun s => (⟨p, t, s⟩ : OpV)) = (L ++ (ns.take k).map fun s => ⟨p, t, s⟩) ++ [⟨p, t, s⟩] := by
        rw [List.take_add_one, ho]
        simp
      generalize hM : (L ++ (ns.take k).map fun s => (⟨p, t, s⟩ : OpV)) = M at hmk hlm htk
      have HT := Lib.hid htk
      have hMb : M.length ≤ 1100 := by omega
      have k0 := hmk.cell
      obtain ⟨A, c', rfl⟩ := own_value hmk.own
      obtain ⟨tt, hblk⟩ := hmk.blk
      have HB := Lib.hid hblk
      have HN : Hid (rb ∉ ownL (.slice A M.length c')) := fun hm => hmk.ne (by simpa [ownL] using hm)
      have HN2 := Lib.hid hmk.ne
      have HM := Lib.hid hmk
      have HD := Lib.hid hd
      have hrb : rb < wr.heap.size := cell_lt k0
      clear hmk hd ho hblk htk hM hlm
      go_upto_region 3 with fail
      go_region_law ((refine step_append_src (P := Tryd.prog) rfl _ _ 29 rfl 32 i0 _ 3 32 Tryd.underlying29 hi0 hz0 hz1 hz2 rfl (by omega) _ rfl _ _ _ rfl M.length (flat opCells M) (own_ext HM.out.own ((Ext.refl wr).drew.alloc _)) (opCells ⟨p, t, s⟩) (Src.new _ #[.int .i64 p, .int .i64 t, .string s] _ 1 3 rfl) (opCells_one _) (by unfold maxLen; omega) (by omega) ?_; intro v3 w3 ho3 hm3 hb3; obtain ⟨A3, c3, rfl⟩ := own_value ho3; have hblk3 := Lib.hid ((HB.out.ext ((Ext.refl wr).drew.alloc _)).mods hm3 HN.out); have k3 : _ = some _ := hblk3.out.cell 0; have f3 := hblk3.out.frozen 0; have HM3 : Hid (Mods (ownL (.slice A M.length c')) wr w3) := ((Mods.ext ((Ext.refl wr).drew.alloc _)).trans hm3); have HO3 := Lib.hid ho3; have HB3 := Lib.hid hb3; clear ho3 hm3 hb3))
      all_goals go_wp2_with fail
      all_goals
        have hcl : RefAt 32 (w3.setCell ⟨rb, 0, none⟩ (.slice A3 (M.length + 1) c3)) rb (.slice A3 (M.length + 1) c3) (L ++ (ns.take (k + 1)).map fun s => (⟨p, t, s⟩ : OpV)) := by
          rw [HT.out]
          refine RefAt.stored hblk3.out (L := M ++ [⟨p, t, s⟩]) (v' := .slice A3 (M.length + 1) c3) ?_ ?_
          · rw [flat_append, List.length_append]
            have e : flat opCells [(⟨p, t, s⟩ : OpV)] = opCells ⟨p, t, s⟩ := by simp [flat]
            rw [e]
            exact HO3.out
          · intro e
            rcases HB3.out with h | h
            · exact HN2.out (h.symm.trans e)
            · rw [h] at e
              simp at e
              omega
        refine ⟨⟨k + 1, _, hlt, rfl, hcl, ?_, ?_, ?_⟩, ?_⟩
        · refine Mods.setCell (Mods.step HD.out HM3.out ?_) (.inl (by simp)) _
          intro x hx
          have hx' : (Value.slice A M.length c').ownBlock = some x := by simpa [ownL] using hx
          rcases HB1.out x hx' with h | h
          · exact .inl (List.mem_cons_of_mem _ (by simp [ownL, h]))
          · exact .inr h
        · intro b hb
          rcases HB3.out with h | h
          · exact HB1.out b (h.symm.trans hb)
          · rw [h] at hb
            injection hb with hb
            subst hb
            exact .inr (Nat.le_trans HD.out.size (Nat.le_trans (by simp) (Nat.le_refl _)))
        · intro hb
          rcases HB3.out with h | h
          · exact HB2.out (h.symm.trans hb)
          · rw [h] at hb
            simp at hb
            omega
        · have e1 : (intOf (Value.int IntKind.i64 ((k : Int) + 1))).toNat = k + 1 := by simp only [intOf]; omega
          have e2 : (intOf (Value.int IntKind.i64 (k : Int))).toNat = k := by simp only [intOf]; omega
          rw [e1, e2]
          omega
    · obtain rfl : k = ns.length := by omega
      rw [List.take_length] at hmk
      go_wp2_with fail
      exact Go.Great.bodyPost_end0 rfl rfl ⟨rfl, v', hmk, hd, HB1⟩

/-- What New lays, step by step. -/
theorem radd_step (w W : World) (rb : Nat) (v : Value) (L : List OpV) (p t : Int) (ns : List ByteArray) (c : Nat) (ty : TypeId) (h : RefAt 32 W rb v L) (hx : Ext w W) (hrb : w.heap.size ≤ rb) (hv : ∀ b, v.ownBlock = some b → w.heap.size ≤ b) (hlen : ns.length ≤ 100) (hL : L.length ≤ 1000) :
    Calls Tryd.prog 29 #[.pointer (some ⟨rb, 0, none⟩), .int .i64 p, .int .i64 t, .slice (some ⟨W.heap.size, 0, none⟩) ns.length c] (W.alloc (.cells (ns.map Value.string).toArray ty)) fun e w' => e = .returned (.tuple #[]) ∧ ∃ v', RefAt 32 w' rb v' (L ++ ns.map fun s => ⟨p, t, s⟩) ∧ Ext w w' ∧ (∀ b, v'.ownBlock = some b → w.heap.size ≤ b) := by
  have h1 : rb < W.heap.size := cell_lt h.cell
  have h2 : ∀ b, v.ownBlock = some b → b < W.heap.size := fun b hb => own_lt h.own hb
  refine (radd_any rb v L p t ns W.heap.size c _ (h.ext (ext_box _ _)) hlen hL (names_box W ty ns) (by omega) (fun e => Nat.lt_irrefl _ (h2 _ e))).mono fun e w' ⟨e1, v', e2, e3, e4⟩ => ⟨e1, v', e2, ?_, fun b hb => ?_⟩
  · refine (Mods.step (S := []) (Mods.ext (hx.trans (ext_box W _))) e3 ?_).toExt (by simp)
    intro x hx'
    simp only [List.mem_cons] at hx'
    rcases hx' with rfl | hx'
    · exact .inr hrb
    · exact .inr (hv x (by simpa [ownL] using hx'))
  · rcases e4 b hb with h | h
    · exact hv b h
    · have := hx.size
      have h3 : (W.alloc (.cells (ns.map Value.string).toArray ty)).heap.size = W.heap.size + 1 := by simp
      omega

set_option maxRecDepth 100000 in
set_option maxHeartbeats 3200000 in
theorem rNew_any (w : World) :
    Calls Tryd.prog 9 #[] w fun e w' => ∃ rb v, e = .returned (.pointer (some ⟨rb, 0, none⟩)) ∧ w.heap.size ≤ rb ∧ RefAt 32 w' rb v initL ∧ Ext w w' ∧ (∀ b, v.ownBlock = some b → w.heap.size ≤ b) := by
  go_enter Tryd.func9, Tryd.ntmps9
  go_upto_region 2 with fail
  refine wp_abs (fun W => RefAt 32 W w.heap.size (.slice none 0 0) [] ∧ Ext w W) ⟨?_, ?_⟩ ?_
  · exact ⟨⟨_, Blk.new w _ _⟩, World.ownsRow_nil _ _ _ _, by simp [Value.ownBlock]⟩
  · exact ext_box _ _
  rintro w0 ⟨hR, hX⟩
  obtain ⟨v0, hv0⟩ : ∃ v : Value, v = .slice none 0 0 := ⟨_, rfl⟩
  rw [← hv0] at hR
  have hV : ∀ b, v0.ownBlock = some b → w.heap.size ≤ b := by
    rw [hv0]
    intro b hb
    simp [Value.ownBlock] at hb
  clear hv0
  go_upto_region 3 with (go_at_call 29; refine (radd_step w w0 w.heap.size v0 [] 1200 1 [⟨#[58, 45]⟩] _ _ hR hX (Nat.le_refl _) hV (by decide) (by decide)).mono ?_; rintro e w1 ⟨rfl, v1, hR2, hX2, hV2⟩)
  clear hR hX hV
  have hR : RefAt 32 w1 w.heap.size v1 [⟨1200, 1, ⟨#[58, 45]⟩⟩] := hR2
  have hX := hX2
  have hV := hV2
  clear hR2 hX2 hV2
  go_upto_region 4 with (go_at_call 29; refine (radd_step w w1 w.heap.size v1 [⟨1200, 1, ⟨#[58, 45]⟩⟩] 1200 5 [⟨#[58, 45]⟩] _ _ hR hX (Nat.le_refl _) hV (by decide) (by decide)).mono ?_; rintro e w2 ⟨rfl, v2, hR2, hX2, hV2⟩)
  clear hR hX hV
  have hR : RefAt 32 w2 w.heap.size v2 [⟨1200, 1, ⟨#[58, 45]⟩⟩, ⟨1200, 5, ⟨#[58, 45]⟩⟩] := hR2
  have hX := hX2
  have hV := hV2
  clear hR2 hX2 hV2
  go_upto_region 5 with (go_at_call 29; refine (radd_step w w2 w.heap.size v2 [⟨1200, 1, ⟨#[58, 45]⟩⟩, ⟨1200, 5, ⟨#[58, 45]⟩⟩] 1100 2 [⟨#[59]⟩] _ _ hR hX (Nat.le_refl _) hV (by decide) (by decide)).mono ?_; rintro e w3 ⟨rfl, v3, hR2, hX2, hV2⟩)
  clear hR hX hV
  have hR : RefAt 32 w3 w.heap.size v3 [⟨1200, 1, ⟨#[58, 45]⟩⟩, ⟨1200, 5, ⟨#[58, 45]⟩⟩, ⟨1100, 2, ⟨#[59]⟩⟩] := hR2
  have hX := hX2
  have hV := hV2
  clear hR2 hX2 hV2
  go_upto_region 6 with (go_at_call 29; refine (radd_step w w3 w.heap.size v3 [⟨1200, 1, ⟨#[58, 45]⟩⟩, ⟨1200, 5, ⟨#[58, 45]⟩⟩, ⟨1100, 2, ⟨#[59]⟩⟩] 1050 2 [⟨#[45, 62]⟩] _ _ hR hX (Nat.le_refl _) hV (by decide) (by decide)).mono ?_; rintro e w4 ⟨rfl, v4, hR2, hX2, hV2⟩)
  clear hR hX hV
  have hR : RefAt 32 w4 w.heap.size v4 [⟨1200, 1, ⟨#[58, 45]⟩⟩, ⟨1200, 5, ⟨#[58, 45]⟩⟩, ⟨1100, 2, ⟨#[59]⟩⟩, ⟨1050, 2, ⟨#[45, 62]⟩⟩] := hR2
  have hX := hX2
  have hV := hV2
  clear hR2 hX2 hV2
  go_upto_region 7 with (go_at_call 29; refine (radd_step w w4 w.heap.size v4 [⟨1200, 1, ⟨#[58, 45]⟩⟩, ⟨1200, 5, ⟨#[58, 45]⟩⟩, ⟨1100, 2, ⟨#[59]⟩⟩, ⟨1050, 2, ⟨#[45, 62]⟩⟩] 1000 2 [⟨#[44]⟩] _ _ hR hX (Nat.le_refl _) hV (by decide) (by decide)).mono ?_; rintro e w5 ⟨rfl, v5, hR2, hX2, hV2⟩)
  clear hR hX hV
  have hR : RefAt 32 w5 w.heap.size v5 [⟨1200, 1, ⟨#[58, 45]⟩⟩, ⟨1200, 5, ⟨#[58, 45]⟩⟩, ⟨1100, 2, ⟨#[59]⟩⟩, ⟨1050, 2, ⟨#[45, 62]⟩⟩, ⟨1000, 2, ⟨#[44]⟩⟩] := hR2
  have hX := hX2
  have hV := hV2
  clear hR2 hX2 hV2
  go_upto_region 8 with (go_at_call 29; refine (radd_step w w5 w.heap.size v5 [⟨1200, 1, ⟨#[58, 45]⟩⟩, ⟨1200, 5, ⟨#[58, 45]⟩⟩, ⟨1100, 2, ⟨#[59]⟩⟩, ⟨1050, 2, ⟨#[45, 62]⟩⟩, ⟨1000, 2, ⟨#[44]⟩⟩] 900 4 [⟨#[92, 43]⟩] _ _ hR hX (Nat.le_refl _) hV (by decide) (by decide)).mono ?_; rintro e w6 ⟨rfl, v6, hR2, hX2, hV2⟩)
  clear hR hX hV
  have hR : RefAt 32 w6 w.heap.size v6 [⟨1200, 1, ⟨#[58, 45]⟩⟩, ⟨1200, 5, ⟨#[58, 45]⟩⟩, ⟨1100, 2, ⟨#[59]⟩⟩, ⟨1050, 2, ⟨#[45, 62]⟩⟩, ⟨1000, 2, ⟨#[44]⟩⟩, ⟨900, 4, ⟨#[92, 43]⟩⟩] := hR2
  have hX := hX2
  have hV := hV2
  clear hR2 hX2 hV2
  go_upto_region 9 with (go_at_call 29; refine (radd_step w w6 w.heap.size v6 [⟨1200, 1, ⟨#[58, 45]⟩⟩, ⟨1200, 5, ⟨#[58, 45]⟩⟩, ⟨1100, 2, ⟨#[59]⟩⟩, ⟨1050, 2, ⟨#[45, 62]⟩⟩, ⟨1000, 2, ⟨#[44]⟩⟩, ⟨900, 4, ⟨#[92, 43]⟩⟩] 700 1 [⟨#[61]⟩, ⟨#[92, 61]⟩, ⟨#[61, 61]⟩, ⟨#[92, 61, 61]⟩, ⟨#[64, 60]⟩, ⟨#[64, 62]⟩, ⟨#[64, 61, 60]⟩, ⟨#[64, 62, 61]⟩, ⟨#[105, 115]⟩, ⟨#[61, 58, 61]⟩, ⟨#[61, 92, 61]⟩, ⟨#[60]⟩, ⟨#[62]⟩, ⟨#[61, 60]⟩, ⟨#[62, 61]⟩, ⟨#[61, 46, 46]⟩] _ _ hR hX (Nat.le_refl _) hV (by decide) (by decide)).mono ?_; rintro e w7 ⟨rfl, v7, hR2, hX2, hV2⟩)
  clear hR hX hV
  have hR : RefAt 32 w7 w.heap.size v7 [⟨1200, 1, ⟨#[58, 45]⟩⟩, ⟨1200, 5, ⟨#[58, 45]⟩⟩, ⟨1100, 2, ⟨#[59]⟩⟩, ⟨1050, 2, ⟨#[45, 62]⟩⟩, ⟨1000, 2, ⟨#[44]⟩⟩, ⟨900, 4, ⟨#[92, 43]⟩⟩, ⟨700, 1, ⟨#[61]⟩⟩, ⟨700, 1, ⟨#[92, 61]⟩⟩, ⟨700, 1, ⟨#[61, 61]⟩⟩, ⟨700, 1, ⟨#[92, 61, 61]⟩⟩, ⟨700, 1, ⟨#[64, 60]⟩⟩, ⟨700, 1, ⟨#[64, 62]⟩⟩, ⟨700, 1, ⟨#[64, 61, 60]⟩⟩, ⟨700, 1, ⟨#[64, 62, 61]⟩⟩, ⟨700, 1, ⟨#[105, 115]⟩⟩, ⟨700, 1, ⟨#[61, 58, 61]⟩⟩, ⟨700, 1, ⟨#[61, 92, 61]⟩⟩, ⟨700, 1, ⟨#[60]⟩⟩, ⟨700, 1, ⟨#[62]⟩⟩, ⟨700, 1, ⟨#[61, 60]⟩⟩, ⟨700, 1, ⟨#[62, 61]⟩⟩, ⟨700, 1, ⟨#[61, 46, 46]⟩⟩] := hR2
  have hX := hX2
  have hV := hV2
  clear hR2 hX2 hV2
  go_upto_region 10 with (go_at_call 29; refine (radd_step w w7 w.heap.size v7 [⟨1200, 1, ⟨#[58, 45]⟩⟩, ⟨1200, 5, ⟨#[58, 45]⟩⟩, ⟨1100, 2, ⟨#[59]⟩⟩, ⟨1050, 2, ⟨#[45, 62]⟩⟩, ⟨1000, 2, ⟨#[44]⟩⟩, ⟨900, 4, ⟨#[92, 43]⟩⟩, ⟨700, 1, ⟨#[61]⟩⟩, ⟨700, 1, ⟨#[92, 61]⟩⟩, ⟨700, 1, ⟨#[61, 61]⟩⟩, ⟨700, 1, ⟨#[92, 61, 61]⟩⟩, ⟨700, 1, ⟨#[64, 60]⟩⟩, ⟨700, 1, ⟨#[64, 62]⟩⟩, ⟨700, 1, ⟨#[64, 61, 60]⟩⟩, ⟨700, 1, ⟨#[64, 62, 61]⟩⟩, ⟨700, 1, ⟨#[105, 115]⟩⟩, ⟨700, 1, ⟨#[61, 58, 61]⟩⟩, ⟨700, 1, ⟨#[61, 92, 61]⟩⟩, ⟨700, 1, ⟨#[60]⟩⟩, ⟨700, 1, ⟨#[62]⟩⟩, ⟨700, 1, ⟨#[61, 60]⟩⟩, ⟨700, 1, ⟨#[62, 61]⟩⟩, ⟨700, 1, ⟨#[61, 46, 46]⟩⟩] 500 3 [⟨#[43]⟩, ⟨#[45]⟩] _ _ hR hX (Nat.le_refl _) hV (by decide) (by decide)).mono ?_; rintro e w8 ⟨rfl, v8, hR2, hX2, hV2⟩)
  clear hR hX hV
  have hR : RefAt 32 w8 w.heap.size v8 [⟨1200, 1, ⟨#[58, 45]⟩⟩, ⟨1200, 5, ⟨#[58, 45]⟩⟩, ⟨1100, 2, ⟨#[59]⟩⟩, ⟨1050, 2, ⟨#[45, 62]⟩⟩, ⟨1000, 2, ⟨#[44]⟩⟩, ⟨900, 4, ⟨#[92, 43]⟩⟩, ⟨700, 1, ⟨#[61]⟩⟩, ⟨700, 1, ⟨#[92, 61]⟩⟩, ⟨700, 1, ⟨#[61, 61]⟩⟩, ⟨700, 1, ⟨#[92, 61, 61]⟩⟩, ⟨700, 1, ⟨#[64, 60]⟩⟩, ⟨700, 1, ⟨#[64, 62]⟩⟩, ⟨700, 1, ⟨#[64, 61, 60]⟩⟩, ⟨700, 1, ⟨#[64, 62, 61]⟩⟩, ⟨700, 1, ⟨#[105, 115]⟩⟩, ⟨700, 1, ⟨#[61, 58, 61]⟩⟩, ⟨700, 1, ⟨#[61, 92, 61]⟩⟩, ⟨700, 1, ⟨#[60]⟩⟩, ⟨700, 1, ⟨#[62]⟩⟩, ⟨700, 1, ⟨#[61, 60]⟩⟩, ⟨700, 1, ⟨#[62, 61]⟩⟩, ⟨700, 1, ⟨#[61, 46, 46]⟩⟩, ⟨500, 3, ⟨#[43]⟩⟩, ⟨500, 3, ⟨#[45]⟩⟩] := hR2
  have hX := hX2
  have hV := hV2
  clear hR2 hX2 hV2
  go_upto_region 11 with (go_at_call 29; refine (radd_step w w8 w.heap.size v8 [⟨1200, 1, ⟨#[58, 45]⟩⟩, ⟨1200, 5, ⟨#[58, 45]⟩⟩, ⟨1100, 2, ⟨#[59]⟩⟩, ⟨1050, 2, ⟨#[45, 62]⟩⟩, ⟨1000, 2, ⟨#[44]⟩⟩, ⟨900, 4, ⟨#[92, 43]⟩⟩, ⟨700, 1, ⟨#[61]⟩⟩, ⟨700, 1, ⟨#[92, 61]⟩⟩, ⟨700, 1, ⟨#[61, 61]⟩⟩, ⟨700, 1, ⟨#[92, 61, 61]⟩⟩, ⟨700, 1, ⟨#[64, 60]⟩⟩, ⟨700, 1, ⟨#[64, 62]⟩⟩, ⟨700, 1, ⟨#[64, 61, 60]⟩⟩, ⟨700, 1, ⟨#[64, 62, 61]⟩⟩, ⟨700, 1, ⟨#[105, 115]⟩⟩, ⟨700, 1, ⟨#[61, 58, 61]⟩⟩, ⟨700, 1, ⟨#[61, 92, 61]⟩⟩, ⟨700, 1, ⟨#[60]⟩⟩, ⟨700, 1, ⟨#[62]⟩⟩, ⟨700, 1, ⟨#[61, 60]⟩⟩, ⟨700, 1, ⟨#[62, 61]⟩⟩, ⟨700, 1, ⟨#[61, 46, 46]⟩⟩, ⟨500, 3, ⟨#[43]⟩⟩, ⟨500, 3, ⟨#[45]⟩⟩] 400 3 [⟨#[42]⟩, ⟨#[47]⟩, ⟨#[47, 47]⟩, ⟨#[109, 111, 100]⟩, ⟨#[114, 101, 109]⟩] _ _ hR hX (Nat.le_refl _) hV (by decide) (by decide)).mono ?_; rintro e w9 ⟨rfl, v9, hR2, hX2, hV2⟩)
  clear hR hX hV
  have hR : RefAt 32 w9 w.heap.size v9 [⟨1200, 1, ⟨#[58, 45]⟩⟩, ⟨1200, 5, ⟨#[58, 45]⟩⟩, ⟨1100, 2, ⟨#[59]⟩⟩, ⟨1050, 2, ⟨#[45, 62]⟩⟩, ⟨1000, 2, ⟨#[44]⟩⟩, ⟨900, 4, ⟨#[92, 43]⟩⟩, ⟨700, 1, ⟨#[61]⟩⟩, ⟨700, 1, ⟨#[92, 61]⟩⟩, ⟨700, 1, ⟨#[61, 61]⟩⟩, ⟨700, 1, ⟨#[92, 61, 61]⟩⟩, ⟨700, 1, ⟨#[64, 60]⟩⟩, ⟨700, 1, ⟨#[64, 62]⟩⟩, ⟨700, 1, ⟨#[64, 61, 60]⟩⟩, ⟨700, 1, ⟨#[64, 62, 61]⟩⟩, ⟨700, 1, ⟨#[105, 115]⟩⟩, ⟨700, 1, ⟨#[61, 58, 61]⟩⟩, ⟨700, 1, ⟨#[61, 92, 61]⟩⟩, ⟨700, 1, ⟨#[60]⟩⟩, ⟨700, 1, ⟨#[62]⟩⟩, ⟨700, 1, ⟨#[61, 60]⟩⟩, ⟨700, 1, ⟨#[62, 61]⟩⟩, ⟨700, 1, ⟨#[61, 46, 46]⟩⟩, ⟨500, 3, ⟨#[43]⟩⟩, ⟨500, 3, ⟨#[45]⟩⟩, ⟨400, 3, ⟨#[42]⟩⟩, ⟨400, 3, ⟨#[47]⟩⟩, ⟨400, 3, ⟨#[47, 47]⟩⟩, ⟨400, 3, ⟨#[109, 111, 100]⟩⟩, ⟨400, 3, ⟨#[114, 101, 109]⟩⟩] := hR2
  have hX := hX2
  have hV := hV2
  clear hR2 hX2 hV2
  go_upto_region 12 with (go_at_call 29; refine (radd_step w w9 w.heap.size v9 [⟨1200, 1, ⟨#[58, 45]⟩⟩, ⟨1200, 5, ⟨#[58, 45]⟩⟩, ⟨1100, 2, ⟨#[59]⟩⟩, ⟨1050, 2, ⟨#[45, 62]⟩⟩, ⟨1000, 2, ⟨#[44]⟩⟩, ⟨900, 4, ⟨#[92, 43]⟩⟩, ⟨700, 1, ⟨#[61]⟩⟩, ⟨700, 1, ⟨#[92, 61]⟩⟩, ⟨700, 1, ⟨#[61, 61]⟩⟩, ⟨700, 1, ⟨#[92, 61, 61]⟩⟩, ⟨700, 1, ⟨#[64, 60]⟩⟩, ⟨700, 1, ⟨#[64, 62]⟩⟩, ⟨700, 1, ⟨#[64, 61, 60]⟩⟩, ⟨700, 1, ⟨#[64, 62, 61]⟩⟩, ⟨700, 1, ⟨#[105, 115]⟩⟩, ⟨700, 1, ⟨#[61, 58, 61]⟩⟩, ⟨700, 1, ⟨#[61, 92, 61]⟩⟩, ⟨700, 1, ⟨#[60]⟩⟩, ⟨700, 1, ⟨#[62]⟩⟩, ⟨700, 1, ⟨#[61, 60]⟩⟩, ⟨700, 1, ⟨#[62, 61]⟩⟩, ⟨700, 1, ⟨#[61, 46, 46]⟩⟩, ⟨500, 3, ⟨#[43]⟩⟩, ⟨500, 3, ⟨#[45]⟩⟩, ⟨400, 3, ⟨#[42]⟩⟩, ⟨400, 3, ⟨#[47]⟩⟩, ⟨400, 3, ⟨#[47, 47]⟩⟩, ⟨400, 3, ⟨#[109, 111, 100]⟩⟩, ⟨400, 3, ⟨#[114, 101, 109]⟩⟩] 200 2 [⟨#[94]⟩] _ _ hR hX (Nat.le_refl _) hV (by decide) (by decide)).mono ?_; rintro e w10 ⟨rfl, v10, hR2, hX2, hV2⟩)
  clear hR hX hV
  have hR : RefAt 32 w10 w.heap.size v10 [⟨1200, 1, ⟨#[58, 45]⟩⟩, ⟨1200, 5, ⟨#[58, 45]⟩⟩, ⟨1100, 2, ⟨#[59]⟩⟩, ⟨1050, 2, ⟨#[45, 62]⟩⟩, ⟨1000, 2, ⟨#[44]⟩⟩, ⟨900, 4, ⟨#[92, 43]⟩⟩, ⟨700, 1, ⟨#[61]⟩⟩, ⟨700, 1, ⟨#[92, 61]⟩⟩, ⟨700, 1, ⟨#[61, 61]⟩⟩, ⟨700, 1, ⟨#[92, 61, 61]⟩⟩, ⟨700, 1, ⟨#[64, 60]⟩⟩, ⟨700, 1, ⟨#[64, 62]⟩⟩, ⟨700, 1, ⟨#[64, 61, 60]⟩⟩, ⟨700, 1, ⟨#[64, 62, 61]⟩⟩, ⟨700, 1, ⟨#[105, 115]⟩⟩, ⟨700, 1, ⟨#[61, 58, 61]⟩⟩, ⟨700, 1, ⟨#[61, 92, 61]⟩⟩, ⟨700, 1, ⟨#[60]⟩⟩, ⟨700, 1, ⟨#[62]⟩⟩, ⟨700, 1, ⟨#[61, 60]⟩⟩, ⟨700, 1, ⟨#[62, 61]⟩⟩, ⟨700, 1, ⟨#[61, 46, 46]⟩⟩, ⟨500, 3, ⟨#[43]⟩⟩, ⟨500, 3, ⟨#[45]⟩⟩, ⟨400, 3, ⟨#[42]⟩⟩, ⟨400, 3, ⟨#[47]⟩⟩, ⟨400, 3, ⟨#[47, 47]⟩⟩, ⟨400, 3, ⟨#[109, 111, 100]⟩⟩, ⟨400, 3, ⟨#[114, 101, 109]⟩⟩, ⟨200, 2, ⟨#[94]⟩⟩] := hR2
  have hX := hX2
  have hV := hV2
  clear hR2 hX2 hV2
  go_wp2_with (go_at_call 29; refine (radd_step w w10 w.heap.size v10 [⟨1200, 1, ⟨#[58, 45]⟩⟩, ⟨1200, 5, ⟨#[58, 45]⟩⟩, ⟨1100, 2, ⟨#[59]⟩⟩, ⟨1050, 2, ⟨#[45, 62]⟩⟩, ⟨1000, 2, ⟨#[44]⟩⟩, ⟨900, 4, ⟨#[92, 43]⟩⟩, ⟨700, 1, ⟨#[61]⟩⟩, ⟨700, 1, ⟨#[92, 61]⟩⟩, ⟨700, 1, ⟨#[61, 61]⟩⟩, ⟨700, 1, ⟨#[92, 61, 61]⟩⟩, ⟨700, 1, ⟨#[64, 60]⟩⟩, ⟨700, 1, ⟨#[64, 62]⟩⟩, ⟨700, 1, ⟨#[64, 61, 60]⟩⟩, ⟨700, 1, ⟨#[64, 62, 61]⟩⟩, ⟨700, 1, ⟨#[105, 115]⟩⟩, ⟨700, 1, ⟨#[61, 58, 61]⟩⟩, ⟨700, 1, ⟨#[61, 92, 61]⟩⟩, ⟨700, 1, ⟨#[60]⟩⟩, ⟨700, 1, ⟨#[62]⟩⟩, ⟨700, 1, ⟨#[61, 60]⟩⟩, ⟨700, 1, ⟨#[62, 61]⟩⟩, ⟨700, 1, ⟨#[61, 46, 46]⟩⟩, ⟨500, 3, ⟨#[43]⟩⟩, ⟨500, 3, ⟨#[45]⟩⟩, ⟨400, 3, ⟨#[42]⟩⟩, ⟨400, 3, ⟨#[47]⟩⟩, ⟨400, 3, ⟨#[47, 47]⟩⟩, ⟨400, 3, ⟨#[109, 111, 100]⟩⟩, ⟨400, 3, ⟨#[114, 101, 109]⟩⟩, ⟨200, 2, ⟨#[94]⟩⟩] 200 4 [⟨#[45]⟩] _ _ hR hX (Nat.le_refl _) hV (by decide) (by decide)).mono ?_; rintro e w11 ⟨rfl, v11, hR2, hX2, hV2⟩)
  clear hR hX hV
  have hR : RefAt 32 w11 w.heap.size v11 [⟨1200, 1, ⟨#[58, 45]⟩⟩, ⟨1200, 5, ⟨#[58, 45]⟩⟩, ⟨1100, 2, ⟨#[59]⟩⟩, ⟨1050, 2, ⟨#[45, 62]⟩⟩, ⟨1000, 2, ⟨#[44]⟩⟩, ⟨900, 4, ⟨#[92, 43]⟩⟩, ⟨700, 1, ⟨#[61]⟩⟩, ⟨700, 1, ⟨#[92, 61]⟩⟩, ⟨700, 1, ⟨#[61, 61]⟩⟩, ⟨700, 1, ⟨#[92, 61, 61]⟩⟩, ⟨700, 1, ⟨#[64, 60]⟩⟩, ⟨700, 1, ⟨#[64, 62]⟩⟩, ⟨700, 1, ⟨#[64, 61, 60]⟩⟩, ⟨700, 1, ⟨#[64, 62, 61]⟩⟩, ⟨700, 1, ⟨#[105, 115]⟩⟩, ⟨700, 1, ⟨#[61, 58, 61]⟩⟩, ⟨700, 1, ⟨#[61, 92, 61]⟩⟩, ⟨700, 1, ⟨#[60]⟩⟩, ⟨700, 1, ⟨#[62]⟩⟩, ⟨700, 1, ⟨#[61, 60]⟩⟩, ⟨700, 1, ⟨#[62, 61]⟩⟩, ⟨700, 1, ⟨#[61, 46, 46]⟩⟩, ⟨500, 3, ⟨#[43]⟩⟩, ⟨500, 3, ⟨#[45]⟩⟩, ⟨400, 3, ⟨#[42]⟩⟩, ⟨400, 3, ⟨#[47]⟩⟩, ⟨400, 3, ⟨#[47, 47]⟩⟩, ⟨400, 3, ⟨#[109, 111, 100]⟩⟩, ⟨400, 3, ⟨#[114, 101, 109]⟩⟩, ⟨200, 2, ⟨#[94]⟩⟩, ⟨200, 4, ⟨#[45]⟩⟩] := hR2
  have hX := hX2
  have hV := hV2
  clear hR2 hX2 hV2
  go_ret
  exact ⟨_, _, rfl, Nat.le_refl _, hR, hX, hV⟩

end Go.Proofs.YtckkbghmiomfiaaDoor
