/- Layer 9, the reference: the walks of Set that change the table. -/
import Derived.Test.YtckkbghmiomfiaaDoorROper4
namespace Go.Proofs.YtckkbghmiomfiaaDoor
open Go.RowKit Go.El

theorem opInfo : (Tryd.prog.info? 32).map (fun i => (i.zero, i.size, i.bytes)) = some (some (opVal zeroO), 3, 32) := by kernel_rfl

set_option maxHeartbeats 1600000 in
theorem rset_full (rb : Nat) (v : Value) (L : List OpV) (p t : Int) (s : ByteArray) (w : World) (h : RefAt 32 w rb v L) (hgood : argBad p t = false) (hname : nameBad s = false) (hp : p ≠ 0) (hi : idxR s (preB t) L = none) (hlen : 64 ≤ L.length) :
    Calls Tryd.prog 41 #[.pointer (some ⟨rb, 0, none⟩), .agg #[.int .i64 p, .int .i64 t, .string s]] w fun e w' => e = .returned (.int .i64 2) ∧ Ext w w' := by
  have h0 := h.cell
  have hlt := cell_lt h0
  obtain ⟨b1, b2, b3, b4⟩ := arg_good hgood
  obtain ⟨n1, n2, n3, n4⟩ := name_good hname
  have hsz : s.size ≤ 9223372036854775807 := by omega
  have hbd := h.bound
  have H := Lib.hid h
  have HI := Lib.hid hi
  clear hgood hname hi
  have hp' : (p == 0) = false := by simpa using hp
  obtain ⟨A, c, rfl⟩ := own_value h.own
  clear hp h
  go_enter Tryd.func41, Tryd.ntmps41
  go_upto_region 5 with (go_at_call 58; refine (rPlain_any _ _ hsz).mono ?_; rintro e w' ⟨rfl, rfl⟩)
  refine wp_abs (fun W => Ext w W ∧ W.cell? ⟨w.heap.size, 0, none⟩ = some (.int .i64 p) ∧ W.cell? ⟨w.heap.size, 1, none⟩ = some (.int .i64 t) ∧ W.cell? ⟨w.heap.size, 2, none⟩ = some (.string s)) ⟨ext_box _ _, new_cell (Ext.refl _) 0, new_cell (Ext.refl _) 1, new_cell (Ext.refl _) 2⟩ ?_
  rintro W ⟨hxW, hW0, hW1, hW2⟩
  have k0 := hxW.cell h0
  go_quiet ((first | (go_at_call 46; exact quiet_left (rPrefix_any _ _)) | (go_at_call 42; exact quiet_left (rAt_any rb _ L s (preB t) _ (H.out.ext (hxW.drewN _))))))
  rw [HI.out]
  simp only [idxVal]
  go_wp2_with fail
  go_ret
  exact ⟨rfl, hxW.drewN _⟩

set_option maxRecDepth 100000 in
set_option maxHeartbeats 1600000 in
theorem rset_new (rb : Nat) (v : Value) (L : List OpV) (p t : Int) (s : ByteArray) (w : World) (h : RefAt 32 w rb v L) (hgood : argBad p t = false) (hname : nameBad s = false) (hp : p ≠ 0) (hi : idxR s (preB t) L = none) (hlen : L.length < 64) :
    Calls Tryd.prog 41 #[.pointer (some ⟨rb, 0, none⟩), .agg #[.int .i64 p, .int .i64 t, .string s]] w fun e w' => e = .returned (.int .i64 0) ∧ ∃ v', RefAt 32 w' rb v' (L ++ [⟨p, t, s⟩]) ∧ Mods (rb :: ownL v) w w' ∧ (∀ b, v'.ownBlock = some b → v.ownBlock = some b ∨ w.heap.size ≤ b) := by
  have h0 := h.cell
  have hlt := cell_lt h0
  obtain ⟨b1, b2, b3, b4⟩ := arg_good hgood
  obtain ⟨n1, n2, n3, n4⟩ := name_good hname
  have hsz : s.size ≤ 9223372036854775807 := by omega
  have hbd := h.bound
  have H := Lib.hid h
  have HI := Lib.hid hi
  clear hgood hname hi
  have hp' : (p == 0) = false := by simpa using hp
  obtain ⟨A, c, rfl⟩ := own_value h.own
  obtain ⟨i0, hi0, hz0, hz1, hz2⟩ := info_parts opInfo
  obtain ⟨tt, hblk⟩ := h.blk
  have HB := Lib.hid hblk
  have HN : Hid (rb ∉ ownL (.slice A L.length c)) := fun hm => h.ne (by simpa [ownL] using hm)
  have HN2 := Lib.hid h.ne
  clear hp h hblk
  go_enter Tryd.func41, Tryd.ntmps41
  go_upto_region 5 with (go_at_call 58; refine (rPlain_any _ _ hsz).mono ?_; rintro e w' ⟨rfl, rfl⟩)
  refine wp_abs (fun W => Ext w W ∧ W.cell? ⟨w.heap.size, 0, none⟩ = some (.int .i64 p) ∧ W.cell? ⟨w.heap.size, 1, none⟩ = some (.int .i64 t) ∧ W.cell? ⟨w.heap.size, 2, none⟩ = some (.string s)) ⟨ext_box _ _, new_cell (Ext.refl _) 0, new_cell (Ext.refl _) 1, new_cell (Ext.refl _) 2⟩ ?_
  rintro W ⟨hxW, hW0, hW1, hW2⟩
  have k0 := hxW.cell h0
  go_quiet ((first | (go_at_call 46; exact quiet_left (rPrefix_any _ _)) | (go_at_call 42; exact quiet_left (rAt_any rb _ L s (preB t) _ (H.out.ext (hxW.drewN _))))))
  rw [HI.out]
  simp only [idxVal]
  go_upto_region 6 with fail
  refine wp_abs (fun W => Ext w W ∧ W.cell? ⟨w.heap.size, 0, none⟩ = some (.int .i64 p) ∧ W.cell? ⟨w.heap.size, 1, none⟩ = some (.int .i64 t) ∧ W.cell? ⟨w.heap.size, 2, none⟩ = some (.string s)) ⟨hxW.drewN _, hW0, hW1, hW2⟩ ?_
  clear hxW hW0 hW1 hW2 k0
  rintro W ⟨hxW, hW0, hW1, hW2⟩
  have k0 := hxW.cell h0
  have hrb : rb < W.heap.size := cell_lt k0
  have hwb : w.heap.size < W.heap.size := cell_lt hW0
  go_region_law ((refine step_append_src (P := Tryd.prog) rfl _ _ 29 rfl 32 i0 _ 3 32 Tryd.underlying29 hi0 hz0 hz1 hz2 rfl (by omega) _ rfl _ _ _ rfl L.length (flat opCells L) (own_ext H.out.own (hxW.drew.alloc _)) (opCells ⟨p, t, s⟩) (Src.new _ #[.int .i64 p, .int .i64 t, .string s] _ 1 3 rfl) (opCells_one _) (by unfold maxLen; omega) (by omega) ?_; intro v3 w3 ho3 hm3 hb3; obtain ⟨A3, c3, rfl⟩ := own_value ho3; have hblk3 := Lib.hid ((HB.out.ext (hxW.drew.alloc _)).mods hm3 HN.out); have k3 : _ = some _ := hblk3.out.cell 0; have f3 := hblk3.out.frozen 0; have HM3 := Lib.hid ((Mods.ext (hxW.drew.alloc _)).trans hm3); have HO3 := Lib.hid ho3; have HB3 := Lib.hid hb3; clear ho3 hm3 hb3))
  all_goals
    go_wp2_with fail
    go_ret
    refine ⟨rfl, _, RefAt.stored hblk3.out (L := L ++ [⟨p, t, s⟩]) ?_ ?_, ?_, ?_⟩
    · rw [flat_append, List.length_append]
      have e : flat opCells [(⟨p, t, s⟩ : OpV)] = opCells ⟨p, t, s⟩ := by simp [flat]
      rw [e]
      exact HO3.out
    · intro e
      rcases HB3.out with h | h
      · exact HN2.out (h.symm.trans e)
      · rw [h] at e
        simp at e
        omega
    · exact (HM3.out.mono (fun k hk => List.mem_cons_of_mem _ hk)).setCell (.inl (by simp)) _
    · intro b hb
      rcases HB3.out with h | h
      · exact .inl (h.symm.trans hb)
      · rw [h] at hb
        simp at hb
        exact .inr (by omega)

end Go.Proofs.YtckkbghmiomfiaaDoor
