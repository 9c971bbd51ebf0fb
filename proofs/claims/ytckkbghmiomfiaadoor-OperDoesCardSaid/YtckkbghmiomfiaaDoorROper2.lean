/- Layer 9, the reference: the walks of Find and Same. -/
import Derived.Test.YtckkbghmiomfiaaDoorROper1
import Derived.Test.YtckkbghmiomfiaaDoorOper3
namespace Go.Proofs.YtckkbghmiomfiaaDoor
open Go.RowKit Go.El

def findR (s : ByteArray) (pre : Bool) (L : List OpV) : Option OpV := (idxR s pre L).bind fun k => L[k]?

set_option maxHeartbeats 800000 in
theorem rFind_any (rb : Nat) (v : Value) (L : List OpV) (nm : ByteArray) (pre : Bool) (w : World) (h : RefAt 32 w rb v L) :
    Calls Tryd.prog 15 #[.pointer (some ⟨rb, 0, none⟩), .string nm, .bool pre] w fun e w' => e = .returned (.tuple #[opVal ((findR nm pre L).getD zeroO), .bool (findR nm pre L).isSome]) ∧ Ext w w' := by
  have H := Lib.hid h
  cases hi : idxR nm pre L with
  | none =>
    have hf : findR nm pre L = none := by unfold findR; rw [hi]; rfl
    have HI := Lib.hid hi
    have HF := Lib.hid hf
    clear hi hf h
    go_enter Tryd.func15, Tryd.ntmps15
    go_wp2_with (go_at_call 42; refine (rAt_any rb v L nm pre _ (H.out.ext (ext_box _ _))).mono ?_; rintro e w' ⟨rfl, rfl⟩; rw [HI.out]; simp only [idxVal])
    refine bodyPost_ret (v := .tuple #[opVal zeroO, .bool false]) (by simp [results, Tryd.results15, go_sem, opVal_eq, zeroO]) rfl ⟨by rw [HF.out]; rfl, ?_⟩
    repeat (first | exact Ext.refl _ | refine Ext.setCell ?_ (by simp) _ | refine Ext.alloc ?_ _)
  | some k =>
    have hk : k < L.length := by
      unfold idxR at hi
      exact (List.findIdx?_eq_some_iff_getElem.1 hi).1
    have ho : L[k]? = some L[k] := List.getElem?_eq_getElem hk
    have hf : findR nm pre L = some L[k] := by unfold findR; rw [hi]; exact ho
    generalize L[k] = o at ho hf
    have h0 := h.cell
    have hlt := cell_lt h0
    have hbd := h.bound
    have hk64 : (k : Int) ≤ 9223372036854775807 := by omega
    rcases h.form with ⟨rfl, rfl⟩ | ⟨g, c, rfl, hcs⟩
    · simp at hk
    obtain ⟨c0, c1, c2, _⟩ := hcs k o ho
    have hlg : g < w.heap.size := cell_lt c0
    have HI := Lib.hid hi
    have HF := Lib.hid hf
    clear hi hf h ho hcs
    go_enter Tryd.func15, Tryd.ntmps15
    go_wp2_with (go_at_call 42; refine (rAt_any rb _ L nm pre _ (H.out.ext (ext_box _ _))).mono ?_; rintro e w' ⟨rfl, rfl⟩; rw [HI.out]; simp only [idxVal])
    refine bodyPost_ret (v := .tuple #[opVal o, .bool true]) (by simp [results, Tryd.results15, go_sem, opVal_eq]) rfl ⟨by rw [HF.out]; rfl, ?_⟩
    repeat (first | exact Ext.refl _ | refine Ext.setCell ?_ (by simp) _ | refine Ext.alloc ?_ _)

end Go.Proofs.YtckkbghmiomfiaaDoor
