/- Layer 8, the program: the walks of comment, skip. -/
import Derived.Test.YtgcdhffeacdegaaGreatDoorH13
import Derived.Lib.SmallJoins
namespace Go.Proofs.YtgcdhffeacdegaaGreatDoor
open Go.RowKit Go.El
theorem index_close : ∀ l : List UInt8, Lib.index l [42, 47] = match closeF l with | none => -1 | some n => (n : Int)
 | [] => rfl
 | b :: l => by
  have ih := index_close l
  unfold Lib.index closeF
  have e : List.isPrefixOf [42, 47] (b :: l) = decide (b = 42 ∧ l.head? = some 47) := by
   rcases l with _ | ⟨d, l⟩
   ·simp [List.isPrefixOf]
   ·rw [Bool.eq_iff_iff]
    simp only [List.isPrefixOf, List.head?_cons, Bool.and_eq_true, beq_iff_eq, decide_eq_true_iff, Option.some.injEq, and_true]
    exact ⟨fun h => ⟨h.1.symm, h.2.symm⟩, fun h => ⟨h.1.symm, h.2.symm⟩⟩
  rw [e, ih]
  by_cases h : b = 42 ∧ l.head? = some 47
  ·rw [if_pos (by simpa using h), if_pos h] <;> rfl
  ·rw [if_neg (by simpa using h), if_neg h]
   cases closeF l with
   | none => rfl
   | some n =>
    have : ((n : Int) == -1) = false := by simp
    simp only [this, Option.map_some]
    simp
theorem index_line : ∀ l : List UInt8, Lib.indexByte l 10 = if (l.takeWhile (fun c => c != 10)).length < l.length then ((l.takeWhile (fun c => c != 10)).length : Int) else -1
 | [] => rfl
 | b :: l => by
  have ih := index_line l
  unfold Lib.indexByte
  by_cases h : b = 10
  ·subst h; simp
  ·have h1 : (b == 10) = false := by simpa using h
   rw [h1, ih, List.takeWhile_cons]
   have h2 : (b != 10) = true := by simpa using h
   rw [h2]
   simp only [Bool.false_eq_true, if_false, if_true, List.length_cons, Nat.add_lt_add_iff_right]
   split
   ·next g =>
    have : (((l.takeWhile fun c => c != 10).length : Int) == -1) = false := by simp
    rw [this]
    simp
   ·rfl
theorem pre2 {B : List UInt8} {k : Nat} {c : UInt8} (a b : UInt8) (h : B[k]? = some c) : List.isPrefixOf [a, b] (B.drop k) = decide (c = a ∧ B[k + 1]? = some b) := by
 rw [drop_cons h, Bool.eq_iff_iff]
 cases h1 : B[k + 1]? with
 | none => rw [drop_nil h1]; simp [List.isPrefixOf]
 | some d =>
  rw [drop_cons h1]
  simp only [List.isPrefixOf, Bool.and_eq_true, beq_iff_eq, decide_eq_true_iff, Option.some.injEq, and_true]
  exact ⟨fun h => ⟨h.1.symm, h.2.symm⟩, fun h => ⟨h.1.symm, h.2.symm⟩⟩
theorem pre1 {B : List UInt8} {k : Nat} (a : UInt8) : List.isPrefixOf [a] (B.drop k) = decide (B[k]? = some a) := by
 rw [Bool.eq_iff_iff]
 cases h1 : B[k]? with
 | none => rw [drop_nil h1]; simp [List.isPrefixOf]
 | some d =>
  rw [drop_cons h1]
  simp only [List.isPrefixOf, Bool.and_eq_true, beq_iff_eq, decide_eq_true_iff, Option.some.injEq, and_true]
  exact eq_comm
theorem starts_is {w : World} {sb b off cap : Nat} {B : List UInt8} {i : Nat} (h : ScAt w sb b off cap B i) (l : List UInt8) (v : Bool) (hv : l.isPrefixOf (B.drop i) = v) :
  Calls Tryz.prog 129 #[.pointer (some ⟨sb, 0, none⟩), .string ⟨l.toArray⟩] w fun e w' => e = .returned (.bool v) ∧ Ext w w' := by
 have := starts_any sb b off cap B i ⟨l.toArray⟩ w h
 rw [show (⟨l.toArray⟩ : ByteArray).data.toList = l from rfl, hv] at this
 exact this
theorem ext_mark (w : World) (cs : Array Value) (t : TypeId) (m : Nat × Nat) : Ext w (w.alloc (.cells cs t m)) := (Ext.refl w).alloc _
theorem src_mark (w : World) (l : List UInt8) (m : Nat × Nat) : BytesAt (w.alloc (.cells (l.map u8V).toArray 5 m)) (some ⟨w.heap.size, 0, none⟩) l := by
 refine ⟨by simp, fun _ => ⟨_, rfl, fun j u hj => ?_⟩⟩
 have e : (⟨w.heap.size, 0, none⟩ : Addr).add j = ⟨w.heap.size, j, none⟩ := by simp [Addr.add]; omega
 rw [e, Joins.cell_alloc_mark_at w _ _ m _ j rfl]
 simpa using hj
set_option maxRecDepth 100000 in
set_option maxHeartbeats 4000000 in
theorem comment_any (sb b off cap : Nat) (B : List UInt8) (i : Nat) (w : World) (h : ScAt w sb b off cap B i) (hi : i + 2 ≤ B.length) :
  Calls Tryz.prog 130 #[.pointer (some ⟨sb, 0, none⟩)] w fun e w' => e = .returned (.bool (close B (i + 2)).isSome) ∧ ScIn w w' sb b off cap B (match close B (i + 2) with | none => i | some e => e + 2) := by
 have c0 := h.c0
 have c1 := h.c1
 have f1 := h.frozen
 have hat := h.at_
 have hcp := h.cap
 have hlen := h.len
 obtain ⟨m, hm⟩ := h.glob.max
 have hx : Ext w ((w.alloc (.cells #[.int .u8 42, .int .u8 47] 5 (2, 3))).drew) := ((Ext.refl w).alloc _).drew
 have c0a : ∀ o, (w.alloc o).cell? ⟨sb, 0, none⟩ = _ := fun o => ((Ext.refl w).alloc o).cell c0
 have c1a : ∀ o, (w.alloc o).cell? ⟨sb, 1, none⟩ = _ := fun o => ((Ext.refl w).alloc o).cell c1
 have hcv : (convert 23 23 (.slice (some ⟨w.heap.size, 0, none⟩) 2 2)).run Tryz.prog ((w.alloc (.cells #[.int .u8 42, .int .u8 47] 5)).drew) = .ok (.slice (some ⟨w.heap.size, 0, none⟩) 2 2) ((w.alloc (.cells #[.int .u8 42, .int .u8 47] 5 (2, 3))).drew) := Joins.run_convert_bytes_const_at (P := Tryz.prog) w.drew 23 5 #[.int .u8 42, .int .u8 47] 2 2 w.heap.size rfl Tryz.underlying23 Tryz.underlying5
 have hdr : (B.drop (i + 2)).length = B.length - (i + 2) := List.length_drop
 have hb2 := (src_mark w [42, 47] (2, 3)).ext ((Ext.refl _).drew)
 have hI1 : (i : Int) + 2 ≤ (B.length : Int) := by omega
 have hI2 : (0 : Int) ≤ (i : Int) + 2 := by omega
 have hI3 : (i : Int) + 2 ≤ (cap : Int) := by omega
 have hI4 : ((i : Int) + 2).toNat = i + 2 := by omega
 have hI5 : IntKind.i64.wrap ((i : Int) + 2) = (i : Int) + 2 := IntWalk.i64_in _ (by omega)
 have H := Lib.hid h
 clear h
 by_cases hci : cap = i + 2
 ·have hdn : B.drop (i + 2) = [] := List.drop_eq_nil_of_le (by omega)
  have hcn : close B (i + 2) = none := by unfold close; rw [hdn]; rfl
  rw [hcn]
  have hp := indexB (L := []) (a := ⟨b, off, none⟩) 0 2 m (El.Src.none ((w.alloc (.cells #[.int .u8 42, .int .u8 47] 5 (2, 3))).drew) (some ⟨b, off, none⟩) 1) hb2 (by simp) (by simp) (by simp) (hx.cell hm)
  have hil : B.length = i + 2 := by omega
  have HQ := Lib.hid hp
  subst hci
  clear hp hb2 hdn hcn hdr
  go_enter Tryz.func130, Tryz.ntmps130
  go_upto_region 1 with fail
  go_region_with (go_at_call 165; refine HQ.out.mono ?_; rintro e w' ⟨rfl, q, rfl⟩)
  all_goals
   go_wp2_with fail
   go_ret
   exact ⟨rfl, ((ScIn.start H.out).go (ext_mark w _ _ _)).drewN _⟩
 ·have hp := indexB (cap - (i + 2)) 2 m (bytes_drop (H.out.src.ext hx) (i + 2) hi) hb2 (by omega) (by omega) (by simp) (hx.cell hm)
  rw [hdr, index_close] at hp
  cases hcl : closeF (B.drop (i + 2)) with
  | none =>
   have hcn : close B (i + 2) = none := by unfold close; rw [hcl]; rfl
   rw [hcn]
   rw [hcl] at hp
   have HQ := Lib.hid hp
   clear hp hb2 hcl hcn hdr
   go_enter Tryz.func130, Tryz.ntmps130
   go_upto_region 1 with fail
   go_region_with (go_at_call 165; refine HQ.out.mono ?_; rintro e w' ⟨rfl, q, rfl⟩)
   all_goals
    go_wp2_with fail
    go_ret
    exact ⟨rfl, ((ScIn.start H.out).go (ext_mark w _ _ _)).drewN _⟩
  | some n =>
   have hcn : close B (i + 2) = some (i + 2 + n) := by unfold close; rw [hcl]; rfl
   have hnl := closeF_lt hcl
   rw [hdr] at hnl
   rw [hcn]
   rw [hcl] at hp
   have HQ := Lib.hid hp
   have g1 : (w.alloc (.cells #[.int .u8 42, .int .u8 47] 5 (2, 3))).frozen? ⟨sb, 1, none⟩ = false := ((ScIn.start H.out).go ((Ext.refl w).alloc _)).sc.frozen
   clear hp hb2 hcl hcn hdr
   go_enter Tryz.func130, Tryz.ntmps130
   go_upto_region 1 with fail
   go_region_with (go_at_call 165; refine HQ.out.mono ?_; rintro e w' ⟨rfl, q, rfl⟩)
   all_goals
    go_wp2_with fail
    go_ret
    exact ⟨rfl, (((ScIn.start H.out).go (ext_mark w _ _ _)).drewN _).to (by omega) (by omega)⟩
end Go.Proofs.YtgcdhffeacdegaaGreatDoor
