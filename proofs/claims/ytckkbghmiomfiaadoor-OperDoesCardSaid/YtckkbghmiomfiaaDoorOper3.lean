/- Layer 9 (oper): the walks of Infix, Prefix, Is. -/
import Derived.Test.YtckkbghmiomfiaaDoorOper2
namespace Go.Proofs.YtckkbghmiomfiaaDoor
open Go.RowKit Go.El

theorem zeroOp (w : World) : (zeroValue 32).run Tryd.prog w = .ok (opVal zeroO) w := by kernel_rfl
theorem getD_op (x : Option OpV) : (x.map opVal).getD (opVal zeroO) = opVal (x.getD zeroO) := by cases x <;> rfl
theorem opVal_eq (o : OpV) : opVal o = .agg #[.int .i64 o.p, .int .i64 o.t, .string o.s] := rfl
theorem isSome_op (x : Option OpV) : (x.map opVal).isSome = x.isSome := by cases x <;> rfl

set_option maxHeartbeats 800000 in
theorem infix_any (tb m1 m2 : Nat) (I Q : List OpV) (s : ByteArray) (w : World) (h : TabAt w tb m1 m2 I Q) :
    Calls Tryd.prog 25 #[.pointer (some ⟨tb, 0, none⟩), .string s] w fun e w' => e = .returned (.tuple #[opVal ((findO s I).getD zeroO), .bool (findO s I).isSome]) ∧ Ext w w' := by
  have h0 := h.c0
  have hc := h.c0
  have eb : tb < w.heap.size := cell_lt h0
  have H := Lib.hid h
  clear h
  go_enter Tryd.func25, Tryd.ntmps25
  go_wp2_with (first
    | (go_at_call 30; refine (made_any tb m1 _ (Ext.cell (ext_box _ _) h0)).mono ?_; rintro e w' ⟨rfl, rfl⟩)
    | (at_lookup; refine wpList_lookup_at (P := Tryd.prog) _ rfl _ _ true rfl strKind Tryd.underlying50 Tryd.underlying9 m1 rfl s rfl _ zeroOp (opsP I) (H.out.mi.ext (ext_box _ _)) ?_; rw [findP_ops, getD_op, isSome_op]; simp only [if_true, opVal_eq]))
  refine bodyPost_ret (v := .tuple #[opVal ((findO s I).getD zeroO), .bool (findO s I).isSome]) (by simp [results, Tryd.results25, go_sem, opVal_eq]) rfl ⟨rfl, ?_⟩
  repeat (first | exact Ext.refl _ | refine Ext.setCell ?_ (by simp) _ | refine Ext.alloc ?_ _)

set_option maxHeartbeats 800000 in
theorem prefix_any (tb m1 m2 : Nat) (I Q : List OpV) (s : ByteArray) (w : World) (h : TabAt w tb m1 m2 I Q) :
    Calls Tryd.prog 26 #[.pointer (some ⟨tb, 0, none⟩), .string s] w fun e w' => e = .returned (.tuple #[opVal ((findO s Q).getD zeroO), .bool (findO s Q).isSome]) ∧ Ext w w' := by
  have h0 := h.c0
  have hc := h.c1
  have eb : tb < w.heap.size := cell_lt h0
  have H := Lib.hid h
  clear h
  go_enter Tryd.func26, Tryd.ntmps26
  go_wp2_with (first
    | (go_at_call 30; refine (made_any tb m1 _ (Ext.cell (ext_box _ _) h0)).mono ?_; rintro e w' ⟨rfl, rfl⟩)
    | (at_lookup; refine wpList_lookup_at (P := Tryd.prog) _ rfl _ _ true rfl strKind Tryd.underlying50 Tryd.underlying9 m2 rfl s rfl _ zeroOp (opsP Q) (H.out.mq.ext (ext_box _ _)) ?_; rw [findP_ops, getD_op, isSome_op]; simp only [if_true, opVal_eq]))
  refine bodyPost_ret (v := .tuple #[opVal ((findO s Q).getD zeroO), .bool (findO s Q).isSome]) (by simp [results, Tryd.results26, go_sem, opVal_eq]) rfl ⟨rfl, ?_⟩
  repeat (first | exact Ext.refl _ | refine Ext.setCell ?_ (by simp) _ | refine Ext.alloc ?_ _)

set_option maxHeartbeats 400000 in
theorem infix_nil (s : ByteArray) (w : World) :
    Calls Tryd.prog 25 #[.pointer none, .string s] w fun e w' => e = .returned (.tuple #[opVal zeroO, .bool false]) ∧ Ext w w' := by
  go_enter Tryd.func25, Tryd.ntmps25
  go_wp2_with (go_at_call 30; refine (made_nil _).mono ?_; rintro e w' ⟨rfl, rfl⟩)
  refine bodyPost_ret (v := .tuple #[opVal zeroO, .bool false]) (by simp [results, Tryd.results25, go_sem, opVal_eq, zeroO]) rfl ⟨rfl, ?_⟩
  repeat (first | exact Ext.refl _ | refine Ext.setCell ?_ (by simp) _ | refine Ext.alloc ?_ _)

set_option maxHeartbeats 400000 in
theorem prefix_nil (s : ByteArray) (w : World) :
    Calls Tryd.prog 26 #[.pointer none, .string s] w fun e w' => e = .returned (.tuple #[opVal zeroO, .bool false]) ∧ Ext w w' := by
  go_enter Tryd.func26, Tryd.ntmps26
  go_wp2_with (go_at_call 30; refine (made_nil _).mono ?_; rintro e w' ⟨rfl, rfl⟩)
  refine bodyPost_ret (v := .tuple #[opVal zeroO, .bool false]) (by simp [results, Tryd.results26, go_sem, opVal_eq, zeroO]) rfl ⟨rfl, ?_⟩
  repeat (first | exact Ext.refl _ | refine Ext.setCell ?_ (by simp) _ | refine Ext.alloc ?_ _)

set_option maxHeartbeats 800000 in
theorem is_any (tb m1 m2 : Nat) (I Q : List OpV) (s : ByteArray) (w : World) (h : TabAt w tb m1 m2 I Q) :
    Calls Tryd.prog 16 #[.pointer (some ⟨tb, 0, none⟩), .string s] w fun e w' => e = .returned (.bool ((findO s I).isSome || (findO s Q).isSome)) ∧ Ext w w' := by
  have H := Lib.hid h
  clear h
  cases h1 : (findO s I).isSome <;> cases h2 : (findO s Q).isSome
  all_goals
    go_enter Tryd.func16, Tryd.ntmps16
    go_wp2_with (first
      | (go_at_call 25; refine (infix_any tb m1 m2 I Q s _ H.out).mono ?_; rintro e w1 ⟨rfl, hb⟩; simp only [opVal_eq])
      | (go_at_call 26; refine (prefix_any tb m1 m2 I Q s _ (H.out.ext (hb.trans ?_))).mono ?_; (repeat (first | exact Ext.refl _ | refine Ext.setCell ?_ (by simp) _ | refine Ext.alloc ?_ _)); rintro e w2 ⟨rfl, hb2⟩; simp only [opVal_eq]))
    go_ret
    refine ⟨rfl, Ext.trans (Ext.trans hb (Ext.trans ?_ hb2)) ?_⟩
    all_goals (repeat (first | exact Ext.refl _ | refine Ext.setCell ?_ (by simp) _ | refine Ext.alloc ?_ _))

set_option maxHeartbeats 800000 in
theorem is_nil (s : ByteArray) (w : World) :
    Calls Tryd.prog 16 #[.pointer none, .string s] w fun e w' => e = .returned (.bool false) ∧ Ext w w' := by
  go_enter Tryd.func16, Tryd.ntmps16
  go_wp2_with (first
    | (go_at_call 25; refine (infix_nil s _).mono ?_; rintro e w1 ⟨rfl, hb⟩; simp only [opVal_eq, zeroO])
    | (go_at_call 26; refine (prefix_nil s _).mono ?_; rintro e w2 ⟨rfl, hb2⟩; simp only [opVal_eq, zeroO]))
  go_ret
  refine ⟨rfl, Ext.trans (Ext.trans hb (Ext.trans ?_ hb2)) ?_⟩
  all_goals (repeat (first | exact Ext.refl _ | refine Ext.setCell ?_ (by simp) _ | refine Ext.alloc ?_ _))

end Go.Proofs.YtckkbghmiomfiaaDoor
