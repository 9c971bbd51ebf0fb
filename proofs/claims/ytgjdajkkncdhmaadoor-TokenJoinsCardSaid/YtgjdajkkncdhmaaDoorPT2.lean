/- Layer 8, the program: the walks of starts, row. -/
import Derived.Test.YtgjdajkkncdhmaaDoorPT1
import Derived.BigQuiet
import Derived.Deep.RegionHeld3
namespace Go.Proofs.YtgjdajkkncdhmaaDoor
open Go.RowKit Go.El

theorem ext_bytes (w : World) (e : TypeId) (s : ByteArray) : Ext w (Lib.bytesWorld w e s) := by
  refine ⟨rfl, rfl, rfl, by rw [Lib.bytesWorld_size]; omega, fun k hk => Lib.bytesWorld_at_old w e s k hk⟩

theorem bytes_new (w : World) (s : ByteArray) : BytesAt (Lib.bytesWorld w 5 s) (some ⟨w.heap.size, 0, none⟩) s.data.toList := by
  refine ⟨by simp, fun _ => ⟨_, rfl, fun j u hj => ?_⟩⟩
  have hjl : j < s.size := by
    have := (List.getElem?_eq_some_iff.1 hj).1
    simpa using this
  have e : (⟨w.heap.size, 0, none⟩ : Addr).add j = ⟨w.heap.size, j, none⟩ := by simp [Addr.add]; omega
  rw [e, Lib.bytesWorld_cell w _ s j hjl]
  have hj2 : j < s.data.toList.length := by simpa using hjl
  rw [List.getElem?_map, List.getElem?_eq_getElem hj2] at hj
  injection hj with hj
  rw [← hj]
  simp only [List.getD, List.getElem?_eq_getElem hj2, Option.getD_some, u8V]

theorem sc_keep {w W W' : World} {sb : Nat} {u v : Value} (x : Ext W W') (h : W.cell? ⟨sb, 0, none⟩ = some u ∧ W.cell? ⟨sb, 1, none⟩ = some v ∧ Hid (Ext w W)) : W'.cell? ⟨sb, 0, none⟩ = some u ∧ W'.cell? ⟨sb, 1, none⟩ = some v ∧ Hid (Ext w W') :=
  ⟨x.cell h.1, x.cell h.2.1, h.2.2.out.trans x⟩

set_option maxRecDepth 100000 in
set_option maxHeartbeats 4000000 in
theorem starts_any (sb b off cap : Nat) (B : List UInt8) (i : Nat) (s : ByteArray) (w : World) (h : ScAt w sb b off cap B i) :
    Calls Tryd.prog 36 #[.pointer (some ⟨sb, 0, none⟩), .string s] w fun e w' => e = .returned (.bool (s.data.toList.isPrefixOf (B.drop i))) ∧ Ext w w' := by
  have c0 := h.c0
  have c1 := h.c1
  have hat := h.at_
  have hcp := h.cap
  have hcv := fun W : World => Lib.run_convert_string_bytes (P := Tryd.prog) W 9 22 5 s Tryd.underlying9 Tryd.underlying22 Tryd.underlying5
  have H := Lib.hid h
  clear h
  have hxw : Ext w (Lib.bytesWorld w.drew 5 s) := ((Ext.refl w).drew).trans (ext_bytes _ _ _)
  have hb2 := bytes_new w.drew s
  have c0b := hxw.cell c0
  have c1b := hxw.cell c1
  by_cases hci : cap = i
  · have hib : i = B.length := by omega
    have hp := hasPrefixB (L := []) 0 (grownCap w.drew s.size 0 5) (El.Src.none (Lib.bytesWorld w.drew 5 s) (some ⟨b, off, none⟩) 1) hb2 (Nat.le_refl _)
    have hdr : B.drop i = [] := by rw [hib]; simp
    rw [hdr]
    subst hci
    subst hib
    have hz : s.data.toList.length = s.size := by simp
    rw [hz] at hp
    have HP := Lib.hid hp
    clear hp hb2 hz hdr
    go_enter Tryd.func36, Tryd.ntmps36
    go_upto_region 1 with fail
    go_region_with (go_at_call 51; refine HP.out.mono ?_; rintro e w' ⟨rfl, rfl⟩)
    all_goals
      go_wp2_with fail
      go_ret
      exact ⟨rfl, hxw⟩
  · have hp := hasPrefixB (L := B.drop i) (cap - i) (grownCap w.drew s.size 0 5) (bytes_drop (H.out.src.ext hxw) i hat) hb2 (by rw [List.length_drop]; omega)
    have hz : s.data.toList.length = s.size := by simp
    rw [hz, List.length_drop] at hp
    have HP := Lib.hid hp
    clear hp hb2 hz
    go_enter Tryd.func36, Tryd.ntmps36
    go_upto_region 1 with fail
    go_region_with (go_at_call 51; refine HP.out.mono ?_; rintro e w' ⟨rfl, rfl⟩)
    all_goals
      go_wp2_with fail
      go_ret
      exact ⟨rfl, hxw⟩

end Go.Proofs.YtgjdajkkncdhmaaDoor
