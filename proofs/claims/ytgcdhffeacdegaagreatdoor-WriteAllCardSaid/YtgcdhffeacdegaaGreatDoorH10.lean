/- Layer 9, the program: what the writer asks of operators: Infix, Prefix, Is, Left, Right, New. -/
import Derived.Test.YtgcdhffeacdegaaGreatDoorH05
import Derived.Test.YtgcdhffeacdegaaGreatDoorH06
import Derived.Test.YtgcdhffeacdegaaGreatDoorH02
import Derived.Maps.OwnOps
import Derived.Maps.OwnSet
import Derived.Great.Walk
namespace Go.Proofs.YtgcdhffeacdegaaGreatDoor
open Go.RowKit Go.El
set_option maxHeartbeats 400000 in
theorem isPrefix_any (k : Int) (w : World) :
  Calls Tryz.prog 87 #[.int .i64 k] w fun e w' => e = .returned (.bool (preB k)) ∧ w = w' := by
 by_cases h : k = 4
 ·subst h
  go_enter Tryz.func87, Tryz.ntmps87
  go_wp2
  go_ret
  exact ⟨rfl, rfl⟩
 ·have h' : (k == 4) = false := by simpa using h
  go_enter Tryz.func87, Tryz.ntmps87
  go_wp2
  go_ret
  exact ⟨by simp [preB, h'], rfl⟩
set_option maxHeartbeats 400000 in
theorem made_any (tb m1 : Nat) (w : World) (h0 : w.cell? ⟨tb, 0, none⟩ = some (.map (some m1))) :
  Calls Tryz.prog 56 #[.pointer (some ⟨tb, 0, none⟩)] w fun e w' => e = .returned (.bool true) ∧ w = w' := by
 have hq := fun W => run_neq_map_nil (P := Tryz.prog) W 95 _ _ (some m1) Tryz.underlying95
 go_enter Tryz.func56, Tryz.ntmps56
 go_wp2
 go_ret
 exact ⟨rfl, rfl⟩
set_option maxHeartbeats 400000 in
theorem of_pre (tb m2 : Nat) (k : Int) (hk : preB k = true) (w : World) (h1 : w.cell? ⟨tb, 1, none⟩ = some (.map (some m2))) :
  Calls Tryz.prog 59 #[.pointer (some ⟨tb, 0, none⟩), .int .i64 k] w fun e w' => e = .returned (.map (some m2)) ∧ w = w' := by
 go_enter Tryz.func59, Tryz.ntmps59
 go_wp2_with (go_at_call 87; refine (isPrefix_any _ _).mono ?_; rintro e w' ⟨rfl, rfl⟩)
 go_ret
 exact ⟨rfl, rfl⟩
set_option maxHeartbeats 400000 in
theorem of_inf (tb m1 : Nat) (k : Int) (hk : preB k = false) (w : World) (h0 : w.cell? ⟨tb, 0, none⟩ = some (.map (some m1))) :
  Calls Tryz.prog 59 #[.pointer (some ⟨tb, 0, none⟩), .int .i64 k] w fun e w' => e = .returned (.map (some m1)) ∧ w = w' := by
 go_enter Tryz.func59, Tryz.ntmps59
 go_wp2_with (go_at_call 87; refine (isPrefix_any _ _).mono ?_; rintro e w' ⟨rfl, rfl⟩)
 go_ret
 exact ⟨rfl, rfl⟩
set_option maxHeartbeats 400000 in
theorem pTypeName_any (n : Int) (w : World) (hT : TypesAt 0 w) :
  Calls Tryz.prog 57 #[.int .i64 n] w fun e w' => e = .returned (.string (tnameS n)) ∧ w = w' := by
 obtain ⟨h0, h1, h2, h3, h4, h5⟩ := hT
 by_cases hn : 1 ≤ n ∧ n ≤ 5
 ·obtain ⟨hn1, hn5⟩ := hn
  have hc : n = 1 ∨ n = 2 ∨ n = 3 ∨ n = 4 ∨ n = 5 := by omega
  rcases hc with rfl | rfl | rfl | rfl | rfl
  all_goals
   go_enter Tryz.func57, Tryz.ntmps57
   go_wp2
   go_ret
   exact ⟨rfl, rfl⟩
 ·have ht : tnameS n = ⟨#[]⟩ := by
   unfold tnameS
   rw [if_neg (by omega), if_neg (by omega), if_neg (by omega), if_neg (by omega), if_neg (by omega)]
  have HT := Lib.hid ht
  clear ht
  by_cases h1n : n < 1
  ·go_enter Tryz.func57, Tryz.ntmps57
   go_wp2
   go_ret
   exact ⟨by rw [HT.out]; rfl, rfl⟩
  ·have h6 : 6 ≤ n := by omega
   clear hn
   go_enter Tryz.func57, Tryz.ntmps57
   go_wp2
   go_ret
   exact ⟨by rw [HT.out]; rfl, rfl⟩
set_option maxHeartbeats 400000 in
theorem pMay_any (p t : Int) (s : ByteArray) (w : World) (hT : TypesAt 0 w) :
  Calls Tryz.prog 102 #[.agg #[.int .i64 p, .int .i64 t, .string s]] w fun e w' => e = .returned (.bool (mayB p t)) ∧ Ext w w' := by
 have hT2 : TypesAt 0 (w.alloc (.cells #[.int .i64 p, .int .i64 t, .string s] 70)) := hT.ext (ext_box _ _)
 by_cases h1 : 1 ≤ p
 ·by_cases h2 : p ≤ 1200
  ·by_cases h3 : 1 ≤ t ∧ t ≤ 5
   ·have e3 := tname_yes h3
    have HM := Lib.hid (mayB_yes ⟨h1, h2, h3⟩)
    go_enter Tryz.func102, Tryz.ntmps102
    go_wp2_with (go_at_call 57; refine (pTypeName_any _ _ hT2).mono ?_; rintro e w' ⟨rfl, rfl⟩)
    go_ret
    exact ⟨by rw [HM.out]; rfl, ext_box _ _⟩
   ·have e3 := tname_no h3
    have HM := Lib.hid (mayB_no (p := p) (t := t) (fun h => h3 h.2.2))
    clear h3
    go_enter Tryz.func102, Tryz.ntmps102
    go_wp2_with (go_at_call 57; refine (pTypeName_any _ _ hT2).mono ?_; rintro e w' ⟨rfl, rfl⟩)
    go_ret
    exact ⟨by rw [HM.out]; rfl, ext_box _ _⟩
  ·have HM := Lib.hid (mayB_no (p := p) (t := t) (fun h => h2 h.2.1))
   go_enter Tryz.func102, Tryz.ntmps102
   go_wp2_with fail
   go_ret
   exact ⟨by rw [HM.out]; rfl, ext_box _ _⟩
 ·have HM := Lib.hid (mayB_no (p := p) (t := t) (fun h => h1 h.1))
  go_enter Tryz.func102, Tryz.ntmps102
  go_wp2_with fail
  go_ret
  exact ⟨by rw [HM.out]; rfl, ext_box _ _⟩
theorem mayB_bd {p t : Int} (h : mayB p t = true) : 1 ≤ p ∧ p ≤ 1200 ∧ 1 ≤ t ∧ t ≤ 5 := of_decide_eq_true h
set_option maxHeartbeats 800000 in
theorem pLeft_any (p t : Int) (s : ByteArray) (w : World) (hT : TypesAt 0 w) :
  Calls Tryz.prog 66 #[.agg #[.int .i64 p, .int .i64 t, .string s]] w fun e w' => e = .returned (.int .i64 (leftI p t)) ∧ Ext w w' := by
 have hT2 : TypesAt 0 (w.alloc (.cells #[.int .i64 p, .int .i64 t, .string s] 70)) := hT.ext (ext_box _ _)
 cases hm : mayB p t
 ·have HL := Lib.hid (show leftI p t = 0 from by unfold leftI; rw [if_pos (.inl hm)])
  go_enter Tryz.func66, Tryz.ntmps66
  go_wp2_with (first
   | (go_at_call 102; refine (pMay_any _ _ _ _ hT2).mono ?_; rintro e w' ⟨rfl, hb⟩; have hc0 : _ = some _ := new_cell hb 0; have hc1 : _ = some _ := new_cell hb 1; have hc2 : _ = some _ := new_cell hb 2)
   | (go_at_call 87; refine (isPrefix_any _ _).mono ?_; rintro e w' ⟨rfl, rfl⟩))
  go_ret
  exact ⟨ret_int (by rw [HL.out]), (ext_box _ _).trans ‹_›⟩
 ·obtain ⟨b1, b2, _, _⟩ := mayB_bd hm
  cases hp : preB t
  ·by_cases h3 : t = 3
   ·subst h3
    have HL := Lib.hid (show leftI p 3 = p from by unfold leftI; rw [if_neg (by simp [hm, hp]), if_pos rfl])
    go_enter Tryz.func66, Tryz.ntmps66
    go_wp2_with (first
   | (go_at_call 102; refine (pMay_any _ _ _ _ hT2).mono ?_; rintro e w' ⟨rfl, hb⟩; have hc0 : _ = some _ := new_cell hb 0; have hc1 : _ = some _ := new_cell hb 1; have hc2 : _ = some _ := new_cell hb 2)
   | (go_at_call 87; refine (isPrefix_any _ _).mono ?_; rintro e w' ⟨rfl, rfl⟩))
    go_ret
    exact ⟨ret_int (by rw [HL.out]), (ext_box _ _).trans ‹_›⟩
   ·have h3' : (t == 3) = false := by simpa using h3
    have HL := Lib.hid (show leftI p t = p - 1 from by unfold leftI; rw [if_neg (by simp [hm, hp]), if_neg h3])
    clear h3
    go_enter Tryz.func66, Tryz.ntmps66
    go_wp2_with (first
   | (go_at_call 102; refine (pMay_any _ _ _ _ hT2).mono ?_; rintro e w' ⟨rfl, hb⟩; have hc0 : _ = some _ := new_cell hb 0; have hc1 : _ = some _ := new_cell hb 1; have hc2 : _ = some _ := new_cell hb 2)
   | (go_at_call 87; refine (isPrefix_any _ _).mono ?_; rintro e w' ⟨rfl, rfl⟩))
    go_ret
    exact ⟨ret_int (by rw [HL.out]), (ext_box _ _).trans ‹_›⟩
  ·have HL := Lib.hid (show leftI p t = 0 from by unfold leftI; rw [if_pos (.inr hp)])
   go_enter Tryz.func66, Tryz.ntmps66
   go_wp2_with (first
   | (go_at_call 102; refine (pMay_any _ _ _ _ hT2).mono ?_; rintro e w' ⟨rfl, hb⟩; have hc0 : _ = some _ := new_cell hb 0; have hc1 : _ = some _ := new_cell hb 1; have hc2 : _ = some _ := new_cell hb 2)
   | (go_at_call 87; refine (isPrefix_any _ _).mono ?_; rintro e w' ⟨rfl, rfl⟩))
   go_ret
   exact ⟨ret_int (by rw [HL.out]), (ext_box _ _).trans ‹_›⟩
set_option maxHeartbeats 800000 in
theorem pRight_any (p t : Int) (s : ByteArray) (w : World) (hT : TypesAt 0 w) :
  Calls Tryz.prog 68 #[.agg #[.int .i64 p, .int .i64 t, .string s]] w fun e w' => e = .returned (.int .i64 (rightI p t)) ∧ Ext w w' := by
 have hT2 : TypesAt 0 (w.alloc (.cells #[.int .i64 p, .int .i64 t, .string s] 70)) := hT.ext (ext_box _ _)
 cases hm : mayB p t
 ·have HL := Lib.hid (show rightI p t = 0 from by unfold rightI; rw [if_pos hm])
  go_enter Tryz.func68, Tryz.ntmps68
  go_wp2_with (first
   | (go_at_call 102; refine (pMay_any _ _ _ _ hT2).mono ?_; rintro e w' ⟨rfl, hb⟩; have hc0 : _ = some _ := new_cell hb 0; have hc1 : _ = some _ := new_cell hb 1; have hc2 : _ = some _ := new_cell hb 2)
   | (go_at_call 87; refine (isPrefix_any _ _).mono ?_; rintro e w' ⟨rfl, rfl⟩))
  go_ret
  exact ⟨ret_int (by rw [HL.out]), (ext_box _ _).trans ‹_›⟩
 ·obtain ⟨b1, b2, _, _⟩ := mayB_bd hm
  by_cases h2 : t = 2
  ·have h2' : (t == 2) = true := by simpa using h2
   have HL := Lib.hid (show rightI p t = p from by unfold rightI; rw [if_neg (by simp [hm]), if_pos (.inl h2)])
   clear h2
   go_enter Tryz.func68, Tryz.ntmps68
   go_wp2_with (first
   | (go_at_call 102; refine (pMay_any _ _ _ _ hT2).mono ?_; rintro e w' ⟨rfl, hb⟩; have hc0 : _ = some _ := new_cell hb 0; have hc1 : _ = some _ := new_cell hb 1; have hc2 : _ = some _ := new_cell hb 2)
   | (go_at_call 87; refine (isPrefix_any _ _).mono ?_; rintro e w' ⟨rfl, rfl⟩))
   go_ret
   exact ⟨ret_int (by rw [HL.out]), (ext_box _ _).trans ‹_›⟩
  ·have h2' : (t == 2) = false := by simpa using h2
   by_cases h4 : t = 4
   ·have h4' : (t == 4) = true := by simpa using h4
    have HL := Lib.hid (show rightI p t = p from by unfold rightI; rw [if_neg (by simp [hm]), if_pos (.inr h4)])
    clear h2 h4
    go_enter Tryz.func68, Tryz.ntmps68
    go_wp2_with (first
   | (go_at_call 102; refine (pMay_any _ _ _ _ hT2).mono ?_; rintro e w' ⟨rfl, hb⟩; have hc0 : _ = some _ := new_cell hb 0; have hc1 : _ = some _ := new_cell hb 1; have hc2 : _ = some _ := new_cell hb 2)
   | (go_at_call 87; refine (isPrefix_any _ _).mono ?_; rintro e w' ⟨rfl, rfl⟩))
    go_ret
    exact ⟨ret_int (by rw [HL.out]), (ext_box _ _).trans ‹_›⟩
   ·have h4' : (t == 4) = false := by simpa using h4
    have HL := Lib.hid (show rightI p t = p - 1 from by unfold rightI; rw [if_neg (by simp [hm]), if_neg (by omega)])
    clear h2 h4
    go_enter Tryz.func68, Tryz.ntmps68
    go_wp2_with (first
   | (go_at_call 102; refine (pMay_any _ _ _ _ hT2).mono ?_; rintro e w' ⟨rfl, hb⟩; have hc0 : _ = some _ := new_cell hb 0; have hc1 : _ = some _ := new_cell hb 1; have hc2 : _ = some _ := new_cell hb 2)
   | (go_at_call 87; refine (isPrefix_any _ _).mono ?_; rintro e w' ⟨rfl, rfl⟩))
    go_ret
    exact ⟨ret_int (by rw [HL.out]), (ext_box _ _).trans ‹_›⟩
theorem zeroOp (w : World) : (zeroValue 70).run Tryz.prog w = .ok (opVal zeroO) w := by kernel_rfl
theorem getD_op (x : Option OpV) : (x.map opVal).getD (opVal zeroO) = opVal (x.getD zeroO) := by cases x <;> rfl
theorem opVal_eq (o : OpV) : opVal o = .agg #[.int .i64 o.p, .int .i64 o.t, .string o.s] := rfl
theorem isSome_op (x : Option OpV) : (x.map opVal).isSome = x.isSome := by cases x <;> rfl
set_option maxHeartbeats 800000 in
theorem infix_any (tb m1 m2 : Nat) (I Q : List OpV) (s : ByteArray) (w : World) (h : TabAt w tb m1 m2 I Q) :
  Calls Tryz.prog 101 #[.pointer (some ⟨tb, 0, none⟩), .string s] w fun e w' => e = .returned (.tuple #[opVal ((findO s I).getD zeroO), .bool (findO s I).isSome]) ∧ Ext w w' := by
 have h0 := h.c0
 have hc := h.c0
 have eb : tb < w.heap.size := cell_lt h0
 have H := Lib.hid h
 clear h
 go_enter Tryz.func101, Tryz.ntmps101
 go_wp2_with (first
  | (go_at_call 56; refine (made_any tb m1 _ (Ext.cell (ext_box _ _) h0)).mono ?_; rintro e w' ⟨rfl, rfl⟩)
  | (at_lookup; refine wpList_lookup_at (P := Tryz.prog) _ rfl _ _ true rfl strKind Tryz.underlying95 Tryz.underlying9 m1 rfl s rfl _ zeroOp (opsP I) (H.out.mi.ext (ext_box _ _)) ?_; rw [findP_ops, getD_op, isSome_op]; simp only [if_true, opVal_eq]))
 refine bodyPost_ret (v := .tuple #[opVal ((findO s I).getD zeroO), .bool (findO s I).isSome]) (by simp [results, Tryz.results101, go_sem, opVal_eq]) rfl ⟨rfl, ?_⟩
 repeat (first | exact Ext.refl _ | refine Ext.setCell ?_ (by simp) _ | refine Ext.alloc ?_ _)
set_option maxHeartbeats 800000 in
theorem prefix_any (tb m1 m2 : Nat) (I Q : List OpV) (s : ByteArray) (w : World) (h : TabAt w tb m1 m2 I Q) :
  Calls Tryz.prog 144 #[.pointer (some ⟨tb, 0, none⟩), .string s] w fun e w' => e = .returned (.tuple #[opVal ((findO s Q).getD zeroO), .bool (findO s Q).isSome]) ∧ Ext w w' := by
 have h0 := h.c0
 have hc := h.c1
 have eb : tb < w.heap.size := cell_lt h0
 have H := Lib.hid h
 clear h
 go_enter Tryz.func144, Tryz.ntmps144
 go_wp2_with (first
  | (go_at_call 56; refine (made_any tb m1 _ (Ext.cell (ext_box _ _) h0)).mono ?_; rintro e w' ⟨rfl, rfl⟩)
  | (at_lookup; refine wpList_lookup_at (P := Tryz.prog) _ rfl _ _ true rfl strKind Tryz.underlying95 Tryz.underlying9 m2 rfl s rfl _ zeroOp (opsP Q) (H.out.mq.ext (ext_box _ _)) ?_; rw [findP_ops, getD_op, isSome_op]; simp only [if_true, opVal_eq]))
 refine bodyPost_ret (v := .tuple #[opVal ((findO s Q).getD zeroO), .bool (findO s Q).isSome]) (by simp [results, Tryz.results144, go_sem, opVal_eq]) rfl ⟨rfl, ?_⟩
 repeat (first | exact Ext.refl _ | refine Ext.setCell ?_ (by simp) _ | refine Ext.alloc ?_ _)
set_option maxHeartbeats 800000 in
theorem is_any (tb m1 m2 : Nat) (I Q : List OpV) (s : ByteArray) (w : World) (h : TabAt w tb m1 m2 I Q) :
  Calls Tryz.prog 209 #[.pointer (some ⟨tb, 0, none⟩), .string s] w fun e w' => e = .returned (.bool ((findO s I).isSome || (findO s Q).isSome)) ∧ Ext w w' := by
 have H := Lib.hid h
 clear h
 cases h1 : (findO s I).isSome <;> cases h2 : (findO s Q).isSome
 all_goals
  go_enter Tryz.func209, Tryz.ntmps209
  go_wp2_with (first
   | (go_at_call 101; refine (infix_any tb m1 m2 I Q s _ H.out).mono ?_; rintro e w1 ⟨rfl, hb⟩; simp only [opVal_eq])
   | (go_at_call 144; refine (prefix_any tb m1 m2 I Q s _ (H.out.ext (hb.trans ?_))).mono ?_; (repeat (first | exact Ext.refl _ | refine Ext.setCell ?_ (by simp) _ | refine Ext.alloc ?_ _)); rintro e w2 ⟨rfl, hb2⟩; simp only [opVal_eq]))
  go_ret
  refine ⟨rfl, Ext.trans (Ext.trans hb (Ext.trans ?_ hb2)) ?_⟩
  all_goals (repeat (first | exact Ext.refl _ | refine Ext.setCell ?_ (by simp) _ | refine Ext.alloc ?_ _))
def mOf (t : Int) (m1 m2 : Nat) : Nat := if preB t then m2 else m1
theorem of_any (tb m1 m2 : Nat) (t : Int) (w : World) (h0 : w.cell? ⟨tb, 0, none⟩ = some (.map (some m1))) (h1 : w.cell? ⟨tb, 1, none⟩ = some (.map (some m2))) :
  Calls Tryz.prog 59 #[.pointer (some ⟨tb, 0, none⟩), .int .i64 t] w fun e w' => e = .returned (.map (some (mOf t m1 m2))) ∧ w = w' := by
 unfold mOf
 cases hp : preB t
 ·exact of_inf tb m1 t hp w h0
 ·exact of_pre tb m2 t hp w h1
theorem len_ops (l : List OpV) : (opsP l).length = l.length := by simp [opsP]
def addO (p t : Int) (ns : List ByteArray) (l : List OpV) : List OpV := ns.foldl (fun l s => setO ⟨p, t, s⟩ l) l
theorem addO_take (p t : Int) (ns : List ByteArray) (l : List OpV) {k : Nat} {s : ByteArray} (h : ns[k]? = some s) : addO p t (ns.take (k + 1)) l = setO ⟨p, t, s⟩ (addO p t (ns.take k) l) := by
 unfold addO
 rw [List.take_add_one, h]
 simp
set_option maxHeartbeats 1600000 in
theorem add_map (tb m1 m2 : Nat) (p t : Int) (ns : List ByteArray) (g c : Nat) (l : List OpV) (w : World) (h0 : w.cell? ⟨tb, 0, none⟩ = some (.map (some m1))) (h1 : w.cell? ⟨tb, 1, none⟩ = some (.map (some m2))) (hm : MapAt Value.string w (mOf t m1 m2) (opsP l)) (hlen : ns.length ≤ 100) (hs : ∀ j s, ns[j]? = some s → w.cell? ⟨g, j, none⟩ = some (.string s)) :
  Calls Tryz.prog 54 #[.pointer (some ⟨tb, 0, none⟩), .int .i64 p, .int .i64 t, .slice (some ⟨g, 0, none⟩) ns.length c] w fun e w' => e = .returned (.tuple #[]) ∧ MapAt Value.string w' (mOf t m1 m2) (opsP (addO p t ns l)) ∧ Mods [mOf t m1 m2] w w' := by
 have hne : tb ≠ mOf t m1 m2 := hm.ne_cell h0
 have hgm : ∀ j s, ns[j]? = some s → g ≠ mOf t m1 m2 := fun j s hj => hm.ne_cell (hs j s hj)
 have H := Lib.hid hm
 have HS := Lib.hid hs
 have HG := Lib.hid hgm
 have HL := Lib.hid hlen
 clear hm hs hgm
 go_enter Tryz.func54, Tryz.ntmps54
 go_wp2_with fail
 go_loopw [12] (fun i wr => ∃ k : Nat, k ≤ ns.length ∧ i = .int .i64 k ∧ MapAt Value.string wr (mOf t m1 m2) (opsP (addO p t (ns.take k) l)) ∧ Mods [mOf t m1 m2] w wr) (fun i _ => ns.length - (intOf i).toNat)
 case atStart => exact ⟨0, Nat.zero_le _, rfl, by simpa [addO] using H.out, Mods.refl _ _⟩
 case round =>
  obtain ⟨k, hk, rfl, hmk, hd⟩ := hrel
  by_cases hlt : k < ns.length
  ·have ho : ns[k]? = some ns[k] := List.getElem?_eq_getElem hlt
   generalize ns[k] = s at ho
   have hcs := hd.cell (HS.out k s ho) (by simpa using HG.out k s ho)
   have HO := Lib.hid ho
   have HM := Lib.hid hmk
   have HD := Lib.hid hd
   have c0 := hd.cell h0 (by simpa using hne)
   have c1 := hd.cell h1 (by simpa using hne)
   clear hmk hd ho
   have hkk : IntKind.i64.wrap ((k : Int) + 1) = ((k + 1 : Nat) : Int) := by rw [IntWalk.i64_in _ (by omega)]; rfl
   go_wp2_with (first | (go_at_call 59; refine (of_any tb m1 m2 t _ c0 c1).mono ?_; rintro e w' ⟨rfl, rfl⟩) | (at_mapUpdate; refine wpList_mapUpdate_at (P := Tryz.prog) _ rfl _ _ _ 95 rfl strKind Tryz.underlying95 Tryz.underlying9 (m := mOf t m1 m2) (ps := opsP (addO p t (ns.take k) l)) rfl HM.out s (opVal ⟨p, t, s⟩) rfl rfl ?_; intro w3 hm3 hd3 hs3; rw [setP_ops ⟨p, t, s⟩] at hm3))
   refine ⟨⟨k + 1, hlt, rfl, by rw [addO_take p t ns l HO.out]; exact hm3, HD.out.trans hd3⟩, ?_⟩
   have e1 : (intOf (Value.int IntKind.i64 ((k : Int) + 1))).toNat = k + 1 := by simp only [intOf]; omega
   have e2 : (intOf (Value.int IntKind.i64 (k : Int))).toNat = k := by simp only [intOf]; omega
   rw [e1, e2]
   omega
  ·obtain rfl : k = ns.length := by omega
   rw [List.take_length] at hmk
   go_wp2_with fail
   exact Go.Great.bodyPost_end0 rfl rfl ⟨rfl, hmk, hd⟩
theorem pAdd_any (tb m1 m2 : Nat) (p t : Int) (ns : List ByteArray) (g c : Nat) (I Q : List OpV) (w : World) (h : TabAt w tb m1 m2 I Q) (hlen : ns.length ≤ 100) (hs : ∀ j s, ns[j]? = some s → w.cell? ⟨g, j, none⟩ = some (.string s)) :
  Calls Tryz.prog 54 #[.pointer (some ⟨tb, 0, none⟩), .int .i64 p, .int .i64 t, .slice (some ⟨g, 0, none⟩) ns.length c] w fun e w' => e = .returned (.tuple #[]) ∧ TabAt w' tb m1 m2 (if preB t then I else addO p t ns I) (if preB t then addO p t ns Q else Q) ∧ Mods [m1, m2] w w' := by
 have t1 := h.tb1
 have t2 := h.tb2
 have ne := h.ne
 cases hp : preB t
 ·refine (add_map tb m1 m2 p t ns g c I w h.c0 h.c1 (by unfold mOf; rw [hp]; exact h.mi) hlen hs).mono fun e w' ⟨e1, e2, e3⟩ => ⟨e1, ?_, e3.mono (by unfold mOf; rw [hp]; simp)⟩
  unfold mOf at e2 e3
  rw [hp] at e2 e3
  exact ⟨e3.cell h.c0 (by simpa using t1), e3.cell h.c1 (by simpa using t1), ne, e2, h.mq.mods e3 (by simpa using ne.symm)⟩
 ·refine (add_map tb m1 m2 p t ns g c Q w h.c0 h.c1 (by unfold mOf; rw [hp]; exact h.mq) hlen hs).mono fun e w' ⟨e1, e2, e3⟩ => ⟨e1, ?_, e3.mono (by unfold mOf; rw [hp]; simp)⟩
  unfold mOf at e2 e3
  rw [hp] at e2 e3
  exact ⟨e3.cell h.c0 (by simpa using t2), e3.cell h.c1 (by simpa using t2), ne, h.mi.mods e3 (by simpa using ne), e2⟩
def initI : List OpV := [⟨1200, 1, ⟨#[58, 45]⟩⟩, ⟨1100, 2, ⟨#[59]⟩⟩, ⟨1050, 2, ⟨#[45, 62]⟩⟩, ⟨1000, 2, ⟨#[44]⟩⟩, ⟨700, 1, ⟨#[61]⟩⟩, ⟨700, 1, ⟨#[92, 61]⟩⟩, ⟨700, 1, ⟨#[61, 61]⟩⟩, ⟨700, 1, ⟨#[92, 61, 61]⟩⟩, ⟨700, 1, ⟨#[64, 60]⟩⟩, ⟨700, 1, ⟨#[64, 62]⟩⟩, ⟨700, 1, ⟨#[64, 61, 60]⟩⟩, ⟨700, 1, ⟨#[64, 62, 61]⟩⟩, ⟨700, 1, ⟨#[105, 115]⟩⟩, ⟨700, 1, ⟨#[61, 58, 61]⟩⟩, ⟨700, 1, ⟨#[61, 92, 61]⟩⟩, ⟨700, 1, ⟨#[60]⟩⟩, ⟨700, 1, ⟨#[62]⟩⟩, ⟨700, 1, ⟨#[61, 60]⟩⟩, ⟨700, 1, ⟨#[62, 61]⟩⟩, ⟨700, 1, ⟨#[61, 46, 46]⟩⟩, ⟨500, 3, ⟨#[43]⟩⟩, ⟨500, 3, ⟨#[45]⟩⟩, ⟨400, 3, ⟨#[42]⟩⟩, ⟨400, 3, ⟨#[47]⟩⟩, ⟨400, 3, ⟨#[47, 47]⟩⟩, ⟨400, 3, ⟨#[109, 111, 100]⟩⟩, ⟨400, 3, ⟨#[114, 101, 109]⟩⟩, ⟨200, 2, ⟨#[94]⟩⟩]
def initQ : List OpV := [⟨1200, 5, ⟨#[58, 45]⟩⟩, ⟨900, 4, ⟨#[92, 43]⟩⟩, ⟨200, 4, ⟨#[45]⟩⟩]
def initL : List OpV := [⟨1200, 1, ⟨#[58, 45]⟩⟩, ⟨1200, 5, ⟨#[58, 45]⟩⟩, ⟨1100, 2, ⟨#[59]⟩⟩, ⟨1050, 2, ⟨#[45, 62]⟩⟩, ⟨1000, 2, ⟨#[44]⟩⟩, ⟨900, 4, ⟨#[92, 43]⟩⟩, ⟨700, 1, ⟨#[61]⟩⟩, ⟨700, 1, ⟨#[92, 61]⟩⟩, ⟨700, 1, ⟨#[61, 61]⟩⟩, ⟨700, 1, ⟨#[92, 61, 61]⟩⟩, ⟨700, 1, ⟨#[64, 60]⟩⟩, ⟨700, 1, ⟨#[64, 62]⟩⟩, ⟨700, 1, ⟨#[64, 61, 60]⟩⟩, ⟨700, 1, ⟨#[64, 62, 61]⟩⟩, ⟨700, 1, ⟨#[105, 115]⟩⟩, ⟨700, 1, ⟨#[61, 58, 61]⟩⟩, ⟨700, 1, ⟨#[61, 92, 61]⟩⟩, ⟨700, 1, ⟨#[60]⟩⟩, ⟨700, 1, ⟨#[62]⟩⟩, ⟨700, 1, ⟨#[61, 60]⟩⟩, ⟨700, 1, ⟨#[62, 61]⟩⟩, ⟨700, 1, ⟨#[61, 46, 46]⟩⟩, ⟨500, 3, ⟨#[43]⟩⟩, ⟨500, 3, ⟨#[45]⟩⟩, ⟨400, 3, ⟨#[42]⟩⟩, ⟨400, 3, ⟨#[47]⟩⟩, ⟨400, 3, ⟨#[47, 47]⟩⟩, ⟨400, 3, ⟨#[109, 111, 100]⟩⟩, ⟨400, 3, ⟨#[114, 101, 109]⟩⟩, ⟨200, 2, ⟨#[94]⟩⟩, ⟨200, 4, ⟨#[45]⟩⟩]
theorem names_box (w : World) (ty : TypeId) (ns : List ByteArray) : ∀ j s, ns[j]? = some s → (w.alloc (.cells (ns.map Value.string).toArray ty)).cell? ⟨w.heap.size, j, none⟩ = some (.string s) := by
 intro j s hj
 rw [(Blk.new w ty _).cell]
 simp [hj]
set_option maxRecDepth 100000 in
set_option maxHeartbeats 3200000 in
theorem pNew_any (w : World) :
  Calls Tryz.prog 32 #[] w fun e w' => ∃ tb m1 m2, e = .returned (.pointer (some ⟨tb, 0, none⟩)) ∧ w.heap.size ≤ tb ∧ w.heap.size ≤ m1 ∧ w.heap.size ≤ m2 ∧ TabAt w' tb m1 m2 initI initQ ∧ Ext w w' := by
 have hmm := @run_makeMap Tryz.prog
 go_enter Tryz.func32, Tryz.ntmps32
 go_upto_region 2 with fail
 refine wp_abs (fun W => TabAt W (w.heap.size + 2) w.heap.size (w.heap.size + 1) [] [] ∧ Mods [w.heap.size, w.heap.size + 1] w W) ⟨?_, ?_⟩ ?_
 ·have b0 := (Ext.refl w)
  refine ⟨?_, ?_, by omega, ?_, ?_⟩
  ·have := (Blk.new ((w.alloc (.map #[] 0)).alloc (.map #[] 0)) 97 #[Value.map (some w.heap.size), Value.map (some (w.heap.size + 1))]).cell 0
   simpa using this
  ·have := (Blk.new ((w.alloc (.map #[] 0)).alloc (.map #[] 0)) 97 #[Value.map (some w.heap.size), Value.map (some (w.heap.size + 1))]).cell 1
   simpa using this
  ·exact ((MapAt.new Value.string w).ext (ext_box _ _)).ext (ext_box _ _)
  ·have := (MapAt.new Value.string (w.alloc (.map #[] 0))).ext (ext_box _ (Obj.cells #[Value.map (some w.heap.size), Value.map (some (w.heap.size + 1))] 97))
   simpa [opsP] using this
 ·exact Mods.alloc (Mods.alloc (Mods.alloc (Mods.refl _ _) _) _) _
 rintro w0 ⟨hT, hM⟩
 have hb0 := fun ty => names_box w0 ty [⟨#[58, 45]⟩]
 go_upto_region 3 with (go_at_call 54; refine (pAdd_any _ _ _ 1200 1 [⟨#[58, 45]⟩] _ _ _ _ _ (hT.ext (ext_box w0 _)) (by decide) (hb0 _)).mono ?_; rintro e w1 ⟨rfl, hT2, hM2⟩; replace hM := (hM.alloc _).trans hM2; clear hb0)
 replace hT : TabAt w1 (w.heap.size + 2) w.heap.size (w.heap.size + 1) [⟨1200, 1, ⟨#[58, 45]⟩⟩] [] := by have h := hT2; exact h
 clear hT2 hM2
 have hb1 := fun ty => names_box w1 ty [⟨#[58, 45]⟩]
 go_upto_region 4 with (go_at_call 54; refine (pAdd_any _ _ _ 1200 5 [⟨#[58, 45]⟩] _ _ _ _ _ (hT.ext (ext_box w1 _)) (by decide) (hb1 _)).mono ?_; rintro e w2 ⟨rfl, hT2, hM2⟩; replace hM := (hM.alloc _).trans hM2; clear hb1)
 replace hT : TabAt w2 (w.heap.size + 2) w.heap.size (w.heap.size + 1) [⟨1200, 1, ⟨#[58, 45]⟩⟩] [⟨1200, 5, ⟨#[58, 45]⟩⟩] := by have h := hT2; exact h
 clear hT2 hM2
 have hb2 := fun ty => names_box w2 ty [⟨#[59]⟩]
 go_upto_region 5 with (go_at_call 54; refine (pAdd_any _ _ _ 1100 2 [⟨#[59]⟩] _ _ _ _ _ (hT.ext (ext_box w2 _)) (by decide) (hb2 _)).mono ?_; rintro e w3 ⟨rfl, hT2, hM2⟩; replace hM := (hM.alloc _).trans hM2; clear hb2)
 replace hT : TabAt w3 (w.heap.size + 2) w.heap.size (w.heap.size + 1) [⟨1200, 1, ⟨#[58, 45]⟩⟩, ⟨1100, 2, ⟨#[59]⟩⟩] [⟨1200, 5, ⟨#[58, 45]⟩⟩] := by have h := hT2; exact h
 clear hT2 hM2
 have hb3 := fun ty => names_box w3 ty [⟨#[45, 62]⟩]
 go_upto_region 6 with (go_at_call 54; refine (pAdd_any _ _ _ 1050 2 [⟨#[45, 62]⟩] _ _ _ _ _ (hT.ext (ext_box w3 _)) (by decide) (hb3 _)).mono ?_; rintro e w4 ⟨rfl, hT2, hM2⟩; replace hM := (hM.alloc _).trans hM2; clear hb3)
 replace hT : TabAt w4 (w.heap.size + 2) w.heap.size (w.heap.size + 1) [⟨1200, 1, ⟨#[58, 45]⟩⟩, ⟨1100, 2, ⟨#[59]⟩⟩, ⟨1050, 2, ⟨#[45, 62]⟩⟩] [⟨1200, 5, ⟨#[58, 45]⟩⟩] := by have h := hT2; exact h
 clear hT2 hM2
 have hb4 := fun ty => names_box w4 ty [⟨#[44]⟩]
 go_upto_region 7 with (go_at_call 54; refine (pAdd_any _ _ _ 1000 2 [⟨#[44]⟩] _ _ _ _ _ (hT.ext (ext_box w4 _)) (by decide) (hb4 _)).mono ?_; rintro e w5 ⟨rfl, hT2, hM2⟩; replace hM := (hM.alloc _).trans hM2; clear hb4)
 replace hT : TabAt w5 (w.heap.size + 2) w.heap.size (w.heap.size + 1) [⟨1200, 1, ⟨#[58, 45]⟩⟩, ⟨1100, 2, ⟨#[59]⟩⟩, ⟨1050, 2, ⟨#[45, 62]⟩⟩, ⟨1000, 2, ⟨#[44]⟩⟩] [⟨1200, 5, ⟨#[58, 45]⟩⟩] := by have h := hT2; exact h
 clear hT2 hM2
 have hb5 := fun ty => names_box w5 ty [⟨#[92, 43]⟩]
 go_upto_region 8 with (go_at_call 54; refine (pAdd_any _ _ _ 900 4 [⟨#[92, 43]⟩] _ _ _ _ _ (hT.ext (ext_box w5 _)) (by decide) (hb5 _)).mono ?_; rintro e w6 ⟨rfl, hT2, hM2⟩; replace hM := (hM.alloc _).trans hM2; clear hb5)
 replace hT : TabAt w6 (w.heap.size + 2) w.heap.size (w.heap.size + 1) [⟨1200, 1, ⟨#[58, 45]⟩⟩, ⟨1100, 2, ⟨#[59]⟩⟩, ⟨1050, 2, ⟨#[45, 62]⟩⟩, ⟨1000, 2, ⟨#[44]⟩⟩] [⟨1200, 5, ⟨#[58, 45]⟩⟩, ⟨900, 4, ⟨#[92, 43]⟩⟩] := by have h := hT2; exact h
 clear hT2 hM2
 have hb6 := fun ty => names_box w6 ty [⟨#[61]⟩, ⟨#[92, 61]⟩, ⟨#[61, 61]⟩, ⟨#[92, 61, 61]⟩, ⟨#[64, 60]⟩, ⟨#[64, 62]⟩, ⟨#[64, 61, 60]⟩, ⟨#[64, 62, 61]⟩, ⟨#[105, 115]⟩, ⟨#[61, 58, 61]⟩, ⟨#[61, 92, 61]⟩, ⟨#[60]⟩, ⟨#[62]⟩, ⟨#[61, 60]⟩, ⟨#[62, 61]⟩, ⟨#[61, 46, 46]⟩]
 go_upto_region 9 with (go_at_call 54; refine (pAdd_any _ _ _ 700 1 [⟨#[61]⟩, ⟨#[92, 61]⟩, ⟨#[61, 61]⟩, ⟨#[92, 61, 61]⟩, ⟨#[64, 60]⟩, ⟨#[64, 62]⟩, ⟨#[64, 61, 60]⟩, ⟨#[64, 62, 61]⟩, ⟨#[105, 115]⟩, ⟨#[61, 58, 61]⟩, ⟨#[61, 92, 61]⟩, ⟨#[60]⟩, ⟨#[62]⟩, ⟨#[61, 60]⟩, ⟨#[62, 61]⟩, ⟨#[61, 46, 46]⟩] _ _ _ _ _ (hT.ext (ext_box w6 _)) (by decide) (hb6 _)).mono ?_; rintro e w7 ⟨rfl, hT2, hM2⟩; replace hM := (hM.alloc _).trans hM2; clear hb6)
 replace hT : TabAt w7 (w.heap.size + 2) w.heap.size (w.heap.size + 1) [⟨1200, 1, ⟨#[58, 45]⟩⟩, ⟨1100, 2, ⟨#[59]⟩⟩, ⟨1050, 2, ⟨#[45, 62]⟩⟩, ⟨1000, 2, ⟨#[44]⟩⟩, ⟨700, 1, ⟨#[61]⟩⟩, ⟨700, 1, ⟨#[92, 61]⟩⟩, ⟨700, 1, ⟨#[61, 61]⟩⟩, ⟨700, 1, ⟨#[92, 61, 61]⟩⟩, ⟨700, 1, ⟨#[64, 60]⟩⟩, ⟨700, 1, ⟨#[64, 62]⟩⟩, ⟨700, 1, ⟨#[64, 61, 60]⟩⟩, ⟨700, 1, ⟨#[64, 62, 61]⟩⟩, ⟨700, 1, ⟨#[105, 115]⟩⟩, ⟨700, 1, ⟨#[61, 58, 61]⟩⟩, ⟨700, 1, ⟨#[61, 92, 61]⟩⟩, ⟨700, 1, ⟨#[60]⟩⟩, ⟨700, 1, ⟨#[62]⟩⟩, ⟨700, 1, ⟨#[61, 60]⟩⟩, ⟨700, 1, ⟨#[62, 61]⟩⟩, ⟨700, 1, ⟨#[61, 46, 46]⟩⟩] [⟨1200, 5, ⟨#[58, 45]⟩⟩, ⟨900, 4, ⟨#[92, 43]⟩⟩] := by have h := hT2; exact h
 clear hT2 hM2
 have hb7 := fun ty => names_box w7 ty [⟨#[43]⟩, ⟨#[45]⟩]
 go_upto_region 10 with (go_at_call 54; refine (pAdd_any _ _ _ 500 3 [⟨#[43]⟩, ⟨#[45]⟩] _ _ _ _ _ (hT.ext (ext_box w7 _)) (by decide) (hb7 _)).mono ?_; rintro e w8 ⟨rfl, hT2, hM2⟩; replace hM := (hM.alloc _).trans hM2; clear hb7)
 replace hT : TabAt w8 (w.heap.size + 2) w.heap.size (w.heap.size + 1) [⟨1200, 1, ⟨#[58, 45]⟩⟩, ⟨1100, 2, ⟨#[59]⟩⟩, ⟨1050, 2, ⟨#[45, 62]⟩⟩, ⟨1000, 2, ⟨#[44]⟩⟩, ⟨700, 1, ⟨#[61]⟩⟩, ⟨700, 1, ⟨#[92, 61]⟩⟩, ⟨700, 1, ⟨#[61, 61]⟩⟩, ⟨700, 1, ⟨#[92, 61, 61]⟩⟩, ⟨700, 1, ⟨#[64, 60]⟩⟩, ⟨700, 1, ⟨#[64, 62]⟩⟩, ⟨700, 1, ⟨#[64, 61, 60]⟩⟩, ⟨700, 1, ⟨#[64, 62, 61]⟩⟩, ⟨700, 1, ⟨#[105, 115]⟩⟩, ⟨700, 1, ⟨#[61, 58, 61]⟩⟩, ⟨700, 1, ⟨#[61, 92, 61]⟩⟩, ⟨700, 1, ⟨#[60]⟩⟩, ⟨700, 1, ⟨#[62]⟩⟩, ⟨700, 1, ⟨#[61, 60]⟩⟩, ⟨700, 1, ⟨#[62, 61]⟩⟩, ⟨700, 1, ⟨#[61, 46, 46]⟩⟩, ⟨500, 3, ⟨#[43]⟩⟩, ⟨500, 3, ⟨#[45]⟩⟩] [⟨1200, 5, ⟨#[58, 45]⟩⟩, ⟨900, 4, ⟨#[92, 43]⟩⟩] := by have h := hT2; exact h
 clear hT2 hM2
 have hb8 := fun ty => names_box w8 ty [⟨#[42]⟩, ⟨#[47]⟩, ⟨#[47, 47]⟩, ⟨#[109, 111, 100]⟩, ⟨#[114, 101, 109]⟩]
 go_upto_region 11 with (go_at_call 54; refine (pAdd_any _ _ _ 400 3 [⟨#[42]⟩, ⟨#[47]⟩, ⟨#[47, 47]⟩, ⟨#[109, 111, 100]⟩, ⟨#[114, 101, 109]⟩] _ _ _ _ _ (hT.ext (ext_box w8 _)) (by decide) (hb8 _)).mono ?_; rintro e w9 ⟨rfl, hT2, hM2⟩; replace hM := (hM.alloc _).trans hM2; clear hb8)
 replace hT : TabAt w9 (w.heap.size + 2) w.heap.size (w.heap.size + 1) [⟨1200, 1, ⟨#[58, 45]⟩⟩, ⟨1100, 2, ⟨#[59]⟩⟩, ⟨1050, 2, ⟨#[45, 62]⟩⟩, ⟨1000, 2, ⟨#[44]⟩⟩, ⟨700, 1, ⟨#[61]⟩⟩, ⟨700, 1, ⟨#[92, 61]⟩⟩, ⟨700, 1, ⟨#[61, 61]⟩⟩, ⟨700, 1, ⟨#[92, 61, 61]⟩⟩, ⟨700, 1, ⟨#[64, 60]⟩⟩, ⟨700, 1, ⟨#[64, 62]⟩⟩, ⟨700, 1, ⟨#[64, 61, 60]⟩⟩, ⟨700, 1, ⟨#[64, 62, 61]⟩⟩, ⟨700, 1, ⟨#[105, 115]⟩⟩, ⟨700, 1, ⟨#[61, 58, 61]⟩⟩, ⟨700, 1, ⟨#[61, 92, 61]⟩⟩, ⟨700, 1, ⟨#[60]⟩⟩, ⟨700, 1, ⟨#[62]⟩⟩, ⟨700, 1, ⟨#[61, 60]⟩⟩, ⟨700, 1, ⟨#[62, 61]⟩⟩, ⟨700, 1, ⟨#[61, 46, 46]⟩⟩, ⟨500, 3, ⟨#[43]⟩⟩, ⟨500, 3, ⟨#[45]⟩⟩, ⟨400, 3, ⟨#[42]⟩⟩, ⟨400, 3, ⟨#[47]⟩⟩, ⟨400, 3, ⟨#[47, 47]⟩⟩, ⟨400, 3, ⟨#[109, 111, 100]⟩⟩, ⟨400, 3, ⟨#[114, 101, 109]⟩⟩] [⟨1200, 5, ⟨#[58, 45]⟩⟩, ⟨900, 4, ⟨#[92, 43]⟩⟩] := by have h := hT2; exact h
 clear hT2 hM2
 have hb9 := fun ty => names_box w9 ty [⟨#[94]⟩]
 go_upto_region 12 with (go_at_call 54; refine (pAdd_any _ _ _ 200 2 [⟨#[94]⟩] _ _ _ _ _ (hT.ext (ext_box w9 _)) (by decide) (hb9 _)).mono ?_; rintro e w10 ⟨rfl, hT2, hM2⟩; replace hM := (hM.alloc _).trans hM2; clear hb9)
 replace hT : TabAt w10 (w.heap.size + 2) w.heap.size (w.heap.size + 1) [⟨1200, 1, ⟨#[58, 45]⟩⟩, ⟨1100, 2, ⟨#[59]⟩⟩, ⟨1050, 2, ⟨#[45, 62]⟩⟩, ⟨1000, 2, ⟨#[44]⟩⟩, ⟨700, 1, ⟨#[61]⟩⟩, ⟨700, 1, ⟨#[92, 61]⟩⟩, ⟨700, 1, ⟨#[61, 61]⟩⟩, ⟨700, 1, ⟨#[92, 61, 61]⟩⟩, ⟨700, 1, ⟨#[64, 60]⟩⟩, ⟨700, 1, ⟨#[64, 62]⟩⟩, ⟨700, 1, ⟨#[64, 61, 60]⟩⟩, ⟨700, 1, ⟨#[64, 62, 61]⟩⟩, ⟨700, 1, ⟨#[105, 115]⟩⟩, ⟨700, 1, ⟨#[61, 58, 61]⟩⟩, ⟨700, 1, ⟨#[61, 92, 61]⟩⟩, ⟨700, 1, ⟨#[60]⟩⟩, ⟨700, 1, ⟨#[62]⟩⟩, ⟨700, 1, ⟨#[61, 60]⟩⟩, ⟨700, 1, ⟨#[62, 61]⟩⟩, ⟨700, 1, ⟨#[61, 46, 46]⟩⟩, ⟨500, 3, ⟨#[43]⟩⟩, ⟨500, 3, ⟨#[45]⟩⟩, ⟨400, 3, ⟨#[42]⟩⟩, ⟨400, 3, ⟨#[47]⟩⟩, ⟨400, 3, ⟨#[47, 47]⟩⟩, ⟨400, 3, ⟨#[109, 111, 100]⟩⟩, ⟨400, 3, ⟨#[114, 101, 109]⟩⟩, ⟨200, 2, ⟨#[94]⟩⟩] [⟨1200, 5, ⟨#[58, 45]⟩⟩, ⟨900, 4, ⟨#[92, 43]⟩⟩] := by have h := hT2; exact h
 clear hT2 hM2
 have hb10 := fun ty => names_box w10 ty [⟨#[45]⟩]
 go_wp2_with (go_at_call 54; refine (pAdd_any _ _ _ 200 4 [⟨#[45]⟩] _ _ _ _ _ (hT.ext (ext_box w10 _)) (by decide) (hb10 _)).mono ?_; rintro e w11 ⟨rfl, hT2, hM2⟩; replace hM := (hM.alloc _).trans hM2; clear hb10)
 replace hT : TabAt w11 (w.heap.size + 2) w.heap.size (w.heap.size + 1) [⟨1200, 1, ⟨#[58, 45]⟩⟩, ⟨1100, 2, ⟨#[59]⟩⟩, ⟨1050, 2, ⟨#[45, 62]⟩⟩, ⟨1000, 2, ⟨#[44]⟩⟩, ⟨700, 1, ⟨#[61]⟩⟩, ⟨700, 1, ⟨#[92, 61]⟩⟩, ⟨700, 1, ⟨#[61, 61]⟩⟩, ⟨700, 1, ⟨#[92, 61, 61]⟩⟩, ⟨700, 1, ⟨#[64, 60]⟩⟩, ⟨700, 1, ⟨#[64, 62]⟩⟩, ⟨700, 1, ⟨#[64, 61, 60]⟩⟩, ⟨700, 1, ⟨#[64, 62, 61]⟩⟩, ⟨700, 1, ⟨#[105, 115]⟩⟩, ⟨700, 1, ⟨#[61, 58, 61]⟩⟩, ⟨700, 1, ⟨#[61, 92, 61]⟩⟩, ⟨700, 1, ⟨#[60]⟩⟩, ⟨700, 1, ⟨#[62]⟩⟩, ⟨700, 1, ⟨#[61, 60]⟩⟩, ⟨700, 1, ⟨#[62, 61]⟩⟩, ⟨700, 1, ⟨#[61, 46, 46]⟩⟩, ⟨500, 3, ⟨#[43]⟩⟩, ⟨500, 3, ⟨#[45]⟩⟩, ⟨400, 3, ⟨#[42]⟩⟩, ⟨400, 3, ⟨#[47]⟩⟩, ⟨400, 3, ⟨#[47, 47]⟩⟩, ⟨400, 3, ⟨#[109, 111, 100]⟩⟩, ⟨400, 3, ⟨#[114, 101, 109]⟩⟩, ⟨200, 2, ⟨#[94]⟩⟩] [⟨1200, 5, ⟨#[58, 45]⟩⟩, ⟨900, 4, ⟨#[92, 43]⟩⟩, ⟨200, 4, ⟨#[45]⟩⟩] := by have h := hT2; exact h
 clear hT2 hM2
 go_ret
 exact ⟨_, _, _, rfl, by omega, by omega, by omega, hT, hM.toExt (by simp)⟩
end Go.Proofs.YtgcdhffeacdegaaGreatDoor
