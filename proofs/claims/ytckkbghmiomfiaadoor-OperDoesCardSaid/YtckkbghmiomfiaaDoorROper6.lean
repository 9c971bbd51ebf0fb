/- Layer 9, the reference: the walks of Set at an operator that is there. -/
import Derived.Test.YtckkbghmiomfiaaDoorROper5
namespace Go.Proofs.YtckkbghmiomfiaaDoor
open Go.RowKit Go.El

theorem flat_set3 : ∀ (L : List OpV) (k : Nat) (o : OpV), k < L.length → (((flat opCells L).set (k * 3) (.int .i64 o.p)).set (k * 3 + 1) (.int .i64 o.t)).set (k * 3 + 2) (.string o.s) = flat opCells (L.set k o)
  | [], k, o, h => by simp at h
  | q :: L, 0, o, _ => by simp [flat, opCells]
  | q :: L, k + 1, o, h => by
    have ih := flat_set3 L k o (by simpa using h)
    have e0 : (k + 1) * 3 = k * 3 + 3 := by omega
    simp only [flat] at ih
    rw [e0]
    simp only [flat, opCells, List.flatMap_cons, List.cons_append, List.nil_append, List.set_cons_succ] at ih ⊢
    rw [← ih]

theorem refAt_put {e : TypeId} {W : World} {rb g c k : Nat} {L : List OpV} (h : RefAt e W rb (.slice (some ⟨g, 0, none⟩) L.length c) L) (o : OpV) (hk : k < L.length) :
    RefAt e (((W.setCell ⟨g, k * 3, none⟩ (.int .i64 o.p)).setCell ⟨g, k * 3 + 1, none⟩ (.int .i64 o.t)).setCell ⟨g, k * 3 + 2, none⟩ (.string o.s)) rb (.slice (some ⟨g, 0, none⟩) L.length c) (L.set k o) := by
  have hne : rb ≠ g := fun e => h.ne (by simp [Value.ownBlock, e])
  obtain ⟨t, hb⟩ := h.blk
  refine ⟨⟨t, ((hb.far hne _).far hne _).far hne _⟩, ?_, h.ne⟩
  have h1 := (h.own.stored (k * 3) (.int .i64 o.p)).1
  have h2 := (h1.stored (k * 3 + 1) (.int .i64 o.t)).1
  have h3 := (h2.stored (k * 3 + 2) (.string o.s)).1
  rw [flat_set3 L k o hk] at h3
  rw [List.length_set]
  exact h3

set_option maxRecDepth 100000 in
set_option maxHeartbeats 3200000 in
theorem rset_put (rb : Nat) (v : Value) (L : List OpV) (p t : Int) (s : ByteArray) (k : Nat) (w : World) (h : RefAt 32 w rb v L) (hgood : argBad p t = false) (hname : nameBad s = false) (hp : p ≠ 0) (hi : idxR s (preB t) L = some k) :
    Calls Tryd.prog 41 #[.pointer (some ⟨rb, 0, none⟩), .agg #[.int .i64 p, .int .i64 t, .string s]] w fun e w' => e = .returned (.int .i64 0) ∧ RefAt 32 w' rb v (L.set k ⟨p, t, s⟩) ∧ Mods (ownL v) w w' := by
  have h0 := h.cell
  have hlt := cell_lt h0
  obtain ⟨b1, b2, b3, b4⟩ := arg_good hgood
  obtain ⟨n1, n2, n3, n4⟩ := name_good hname
  have hsz : s.size ≤ 9223372036854775807 := by omega
  have hbd := h.bound
  have H := Lib.hid h
  have HI := Lib.hid hi
  have hkl : k < L.length := by
    unfold idxR at hi
    exact (List.findIdx?_eq_some_iff_getElem.1 hi).1
  clear hgood hname hi
  have hp' : (p == 0) = false := by simpa using hp
  have ho : L[k]? = some L[k] := List.getElem?_eq_getElem hkl
  generalize L[k] = o at ho
  rcases h.form with ⟨rfl, rfl⟩ | ⟨g, c, rfl, hcs⟩
  · simp at hkl
  obtain ⟨c0, c1, c2, f0, f1, f2⟩ := hcs k o ho
  have hgb : g ≠ rb := fun e => h.ne (by simp [Value.ownBlock, e])
  have hgl : g < w.heap.size := cell_lt c0
  clear hp h hcs ho
  go_enter Tryd.func41, Tryd.ntmps41
  go_upto_region 5 with (go_at_call 58; refine (rPlain_any _ _ hsz).mono ?_; rintro e w' ⟨rfl, rfl⟩)
  refine wp_abs (fun W => Ext w W ∧ W.cell? ⟨w.heap.size, 0, none⟩ = some (.int .i64 p) ∧ W.cell? ⟨w.heap.size, 1, none⟩ = some (.int .i64 t) ∧ W.cell? ⟨w.heap.size, 2, none⟩ = some (.string s)) ⟨ext_box _ _, new_cell (Ext.refl _) 0, new_cell (Ext.refl _) 1, new_cell (Ext.refl _) 2⟩ ?_
  rintro W ⟨hxW, hW0, hW1, hW2⟩
  have k0 := hxW.cell h0
  go_quiet ((first | (go_at_call 46; exact quiet_left (rPrefix_any _ _)) | (go_at_call 42; exact quiet_left (rAt_any rb _ L s (preB t) _ (H.out.ext (hxW.drewN _))))))
  rw [HI.out]
  simp only [idxVal]
  go_upto_region 12 with fail
  refine wp_abs (fun W => Ext w W ∧ W.cell? ⟨w.heap.size, 0, none⟩ = some (.int .i64 p) ∧ W.cell? ⟨w.heap.size, 1, none⟩ = some (.int .i64 t) ∧ W.cell? ⟨w.heap.size, 2, none⟩ = some (.string s)) ⟨hxW.drewN _, hW0, hW1, hW2⟩ ?_
  clear hxW hW0 hW1 hW2 k0
  rintro W ⟨hxW, hW0, hW1, hW2⟩
  have k0 := hxW.cell h0
  have hrb : rb < W.heap.size := cell_lt k0
  have hwb : w.heap.size < W.heap.size := cell_lt hW0
  have C0 := hxW.cell c0
  have C1 := hxW.cell c1
  have C2 := hxW.cell c2
  have F0 := (Below.frozen hxW (p := ⟨g, k * 3, none⟩) hgl).trans f0
  have F1 := (Below.frozen hxW (p := ⟨g, k * 3 + 1, none⟩) hgl).trans f1
  have F2 := (Below.frozen hxW (p := ⟨g, k * 3 + 2, none⟩) hgl).trans f2
  have hk64 : (k : Int) < (L.length : Int) := by omega
  go_region
  all_goals
    go_wp2_with fail
    go_ret
    exact ⟨rfl, refAt_put (H.out.ext hxW.drew) ⟨p, t, s⟩ hkl, ((((Mods.ext hxW.drew).setCell (.inl (by simp [ownL, Value.ownBlock])) _).setCell (.inl (by simp [ownL, Value.ownBlock])) _).setCell (.inl (by simp [ownL, Value.ownBlock])) _)⟩

end Go.Proofs.YtckkbghmiomfiaaDoor
