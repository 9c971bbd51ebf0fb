/- Layer 9 (oper): maps.Clone, Fork, All and Fork of no table. -/
import Derived.Test.YtckkbghmiomfiaaDoorOper16
import Derived.Shelf.SlMaps.Clone
namespace Go.Proofs.YtckkbghmiomfiaaDoor
open Go.RowKit Go.El Go.Proofs

theorem mapAt_clone {α : Type} {kv : α → Value} {w : World} {m : Nat} {ps : List (α × Value)} (h : MapAt kv w m ps) :
    ∃ es clock, w.heap[m]? = some (.map es clock) ∧ MapAt kv (w.alloc (.map es clock)) w.heap.size ps := by
  obtain ⟨es, c, hb, r⟩ := h
  exact ⟨es, c, hb, es, c, (MapKept.heap_alloc w _).1, r⟩

set_option maxHeartbeats 2000000 in
theorem clone_any (m : Nat) (L : List OpV) (w : World) (h : MapAt Value.string w m (opsP L)) :
    Calls Tryd.prog 50 #[.map (some m)] w fun e w' => e = .returned (.map (some w.heap.size)) ∧ MapAt Value.string w' w.heap.size (opsP L) ∧ Ext w w' := by
  obtain ⟨es, c, hb, h2⟩ := mapAt_clone h
  have hq := fun w => run_eql_map_nil_sl (P := Tryd.prog) w 50 _ _ (some m) Tryd.underlying50
  have hta := fun (W : World) (v : Value) => run_typeAssert_map_sl (P := Tryd.prog) W 50 20 _ _ v Tryd.underlying50
  clear h
  have H2 := Lib.hid h2
  have HB := Lib.hid hb
  clear h2 hb
  go_enter Tryd.func50, Tryd.ntmps50
  go_wp2
  rw [run_callFunc_extern Tryd.func62 (by kernel_rfl) (by kernel_rfl) (by kernel_rfl) (e := Extern.MapsClone.clone) (by kernel_rfl), run_maps_clone_sl w 50 HB.out]
  simp only [Result.andThen]
  rw [Oper.upon_value]
  go_wp2
  go_ret
  exact ⟨rfl, H2.out, ext_box _ _⟩

set_option maxHeartbeats 400000 in
theorem pAll_nil (w : World) :
    Calls Tryd.prog 12 #[.pointer none] w fun e w' => e = .returned (.slice none 0 0) ∧ w = w' := by
  go_enter Tryd.func12, Tryd.ntmps12
  go_wp2_with (go_at_call 30; refine (made_nil _).mono ?_; rintro e w' ⟨rfl, rfl⟩)
  go_ret
  exact ⟨rfl, rfl⟩

set_option maxHeartbeats 400000 in
theorem pFork_nil (w : World) :
    Calls Tryd.prog 27 #[.pointer none] w fun e w' => e = .returned (.pointer none) ∧ w = w' := by
  go_enter Tryd.func27, Tryd.ntmps27
  go_wp2_with (go_at_call 30; refine (made_nil _).mono ?_; rintro e w' ⟨rfl, rfl⟩)
  go_ret
  exact ⟨rfl, rfl⟩

theorem clone_from (m : Nat) (L : List OpV) (w : World) (hm : MapAt Value.string w m (opsP L)) (tb m1 m2 : Nat) (V : World) (hS : (V.cell? ⟨tb, 0, none⟩ = some (.map (some m1)) ∧ V.cell? ⟨tb, 1, none⟩ = some (.map (some m2)) ∧ Hid (Ext w V))) :
    Calls Tryd.prog 50 #[.map (some m)] V fun e w' => ∃ n, e = .returned (.map (some n)) ∧ V.heap.size ≤ n ∧ n < w'.heap.size ∧ MapAt Value.string w' n (opsP L) ∧ Ext V w' :=
  (clone_any m L V (hm.ext (Hid.out hS.2.2))).mono fun _ _ ⟨h1, h2, h3⟩ => ⟨_, h1, Nat.le_refl _, h2.lt, h2, h3⟩

set_option maxRecDepth 100000 in
set_option maxHeartbeats 4000000 in
theorem pFork_any (tb m1 m2 : Nat) (I Q : List OpV) (w : World) (h : TabAt w tb m1 m2 I Q) :
    Calls Tryd.prog 27 #[.pointer (some ⟨tb, 0, none⟩)] w fun e w' => ∃ fb n1 n2, e = .returned (.pointer (some ⟨fb, 0, none⟩)) ∧ w.heap.size ≤ fb ∧ w.heap.size ≤ n1 ∧ w.heap.size ≤ n2 ∧ TabAt w' fb n1 n2 I Q ∧ Ext w w' := by
  have c0 := h.c0
  have c1 := h.c1
  have H := Lib.hid h
  clear h
  go_enter Tryd.func27, Tryd.ntmps27
  go_upto_region 3 with (go_at_call 30; refine (made_any tb m1 _ c0).mono ?_; rintro e w' ⟨rfl, rfl⟩)
  have hc1 := fun V => clone_from m1 I w H.out.mi tb m1 m2 V
  have hc2 := fun V => clone_from m2 Q w H.out.mq tb m1 m2 V
  have hS0 := all_keep (tb := tb) (m1 := m1) (m2 := m2) ((Ext.refl w).drew) ⟨c0, c1, Ext.refl w⟩
  go_region_held3 (fun w' => w'.cell? ⟨tb, 0, none⟩ = some (.map (some m1)) ∧ w'.cell? ⟨tb, 1, none⟩ = some (.map (some m2)) ∧ Hid (Ext w w'))
    (first | assumption | (exact all_keep (by assumption) (by assumption)) | (exact all_keep (ext_box _ _) (by assumption)) | (exact all_keep ((Ext.refl _).drew) (by assumption)))
    (first | (go_at_call 50; refine (hc1 _ (by assumption)).mono ?_; clear hc1; rintro e w1 ⟨n1, rfl, k1, l1, o1, x1⟩) | (go_at_call 50; refine (hc2 _ (by assumption)).mono ?_; clear hc2; rintro e w2 ⟨n2, rfl, k2, l2, o2, x2⟩))
  go_wp2_with fail
  go_ret
  refine ⟨w2.heap.size, n1, n2, rfl, ?_, ?_, ?_, ⟨?_, ?_, by omega, (o1.ext x2).ext (ext_box _ _), o2.ext (ext_box _ _)⟩, Hid.out (And.right (And.right ‹_ ∧ _ ∧ Hid (Ext w (w2.alloc _))›))⟩
  · have y1 := x1.size
    have y2 := x2.size
    have y0 : w.drew.heap.size = w.heap.size := rfl
    omega
  · have y0 : w.drew.heap.size = w.heap.size := rfl
    omega
  · have y1 := x1.size
    have y0 : w.drew.heap.size = w.heap.size := rfl
    omega
  · exact new_cell (Ext.refl _) 0
  · exact new_cell (Ext.refl _) 1

end Go.Proofs.YtckkbghmiomfiaaDoor
