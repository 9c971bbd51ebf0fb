/- Layer 9 (oper): maps.Values of a table's map. -/
import Derived.Test.YtckkbghmiomfiaaDoorOper10
import Derived.Test.YtckkbghmiomfiaaDoorIter
import Derived.RangeFuncNested
import Derived.RangeFuncStops
import Derived.RangeFuncBound
import Derived.RangeFuncCalls
import Derived.RangeFuncLeaves
import Derived.Shelf.Abstract
import Derived.Shelf.RegionOpen
import Derived.WalkKit
import Derived.OwnWalkIn
import Derived.TacticsInMore
import Derived.LoopNIn
import Derived.LoopIn
namespace Go.Proofs.YtckkbghmiomfiaaDoor
open Go.RowKit Go.El Go.Shelf

set_option maxRecDepth 100000 in
set_option maxHeartbeats 1000000 in
theorem values1_in (F : Fence) (n : Nat) (hF : F.fn 53) (hro : F.round = none) (hn : 1 ≤ n) (l Bm m : Nat) (L : List OpV) (J Jx : List OpV → World → Prop)
    (hY : ∀ pre x W, J pre W → pre.length < L.length → YieldAt F (n - 1) Tryd.prog l #[opVal x] W fun e W' => (e = .returned (.bool true) ∧ J (pre ++ [x]) W' ∧ KeepsWalks W W') ∨ (e = .returned (.bool false) ∧ Jx (pre ++ [x]) W'))
    (W : World) (hJ : AbidesFrom W.heap.size J) (hm : W.cell? ⟨Bm, 0, none⟩ = some (.map (some m))) (hown : MapAt Value.string W m (opsP L)) (h0 : J [] W) :
    CallsIn F n Tryd.prog 53 #[.func (.yield l) #[] #[], .pointer (some ⟨Bm, 0, none⟩)] W fun e W' => (∃ v, e = .returned v) ∧ ((∃ xs : List OpV, xs.Perm L ∧ J xs W') ∨ ∃ pre, True ∧ Jx pre W') := by
  refine callsIn_of_wp Tryd.func53 rfl hF ?_ hro
  simp only [Tryd.ntmps53, List.size_toArray, List.length_cons, List.length_nil, Nat.reduceAdd, Nat.reduceSub, Array.replicate_succ, Array.replicate_zero, List.push_toArray, List.append_toArray, List.nil_append, List.cons_append]
  gi_wp2_with (first
    | (gi_at_range; refine wpListIn_range_at _ rfl _ 50 rfl 9 32 Tryd.underlying50 (m := m) rfl hown ?_; intro w0 hrg0 hg0 hs0)
    | gi_in)
  go_frame
  gi_loopw [7] (fun _ wr => ∃ ds rest : List OpV, MapIt Value.string wr m W.heap.size (opsP L) (opsP rest) ∧ (ds ++ rest).Perm L ∧ J ds wr)
    (fun _ wr => wr.rangeLeft m W.heap.size)
  case atStart =>
    exact ⟨[], L, hrg0, by simp, hJ [] W w0 none h0 hg0 (fun r e => by cases e)⟩
  case round =>
    obtain ⟨ds, rest, hrg, hpm, hJs⟩ := hrel
    have hlen := hpm.length_eq
    simp only [List.length_append] at hlen
    gi_wp2_with (first
      | (gi_at_next; refine wpListIn_next_at _ rfl _ rfl rfl hrg ?_ ?_)
      | gi_in)
    · -- nothing is left
      intro hr
      obtain rfl : rest = [] := by simpa [opsP] using hr
      gi_wp2
      exact Go.Great.bodyPost_end0 rfl rfl ⟨⟨_, rfl⟩, .inl ⟨ds, by simpa using hpm, hJs⟩⟩
    · intro r1 k v r2 w2 hr hit hg2 hs2 hen
      obtain ⟨l1, ⟨p, t, s⟩, l2, rfl, rfl, hkv, rfl⟩ : ∃ (l1 : List OpV) (o : OpV) (l2 : List OpV), rest = l1 ++ o :: l2 ∧ r1 = opsP l1 ∧ (k, v) = (o.s, opVal o) ∧ r2 = opsP l2 := by
        unfold opsP at hr
        obtain ⟨a, b, h1, h2, h3⟩ := List.map_eq_append_iff.1 hr
        obtain ⟨o, c, h4, h5, h6⟩ := List.map_eq_cons_iff.1 h3
        exact ⟨a, o, c, by rw [h1, h4], h2.symm, h5.symm, h6.symm⟩
      have hJ2 : J ds w2 := hJ ds wr w2 (some W.heap.size) hJs hg2 (fun r e => by cases e; exact ⟨Nat.le_refl _, hrg.iter_walk⟩)
      injection hkv with hk1 hk2
      subst hk1 hk2
      simp only [List.length_append, List.length_cons] at hlen
      have HJ2 := Lib.hid hJ2
      have HP := Lib.hid hpm
      have HR := Lib.hid hr
      clear hs2 hpm hJ2 hJs hr
      simp only [opVal_eq] at hen ⊢
      have hJ3 : J ds (w2.alloc (.cells #[.int .i64 p, .int .i64 t, .string k] 32)) := hJ ds w2 _ none HJ2.out (World.grownBy_alloc _ _ none) (fun r e => by cases e)
      have hit3 : MapIt Value.string (w2.alloc (.cells #[.int .i64 p, .int .i64 t, .string k] 32)) m W.heap.size (opsP L) (opsP l1 ++ opsP l2) := hit.of_walks (KeepsWalks.alloc _ _)
      obtain ⟨fn, tmps, assign, body, hy, hR⟩ := hY ds ⟨p, t, k⟩ _ hJ3 (by omega)
      have HIT := Lib.hid hit3
      clear HJ2 hJ3 hit3
      simp only [opVal_eq] at hy
      gi_wp2
      refine hR.mono ?_
      rintro e W3 (⟨rfl, hJ4, hk3⟩ | ⟨rfl, hJx⟩)
      case inr =>
        gi_wp2
        exact bodyPost_ret (results_none rfl _ _ _) rfl ⟨⟨_, rfl⟩, .inr ⟨_, trivial, hJx⟩⟩
      have hit4 := HIT.out.of_walks hk3
      gi_wp2
      have hit5 : MapIt Value.string W3 m W.heap.size (opsP L) (opsP (l1 ++ l2)) := by
        have e : opsP (l1 ++ l2) = opsP l1 ++ opsP l2 := by simp [opsP]
        rw [e]
        exact hit4
      refine ⟨⟨ds ++ [⟨p, t, k⟩], l1 ++ l2, hit5, ?_, hJ4⟩, ?_⟩
      · refine List.Perm.trans ?_ HP.out
        rw [List.append_assoc]
        exact List.Perm.append_left _ (by simpa using (List.perm_middle (l₁ := l1) (a := (⟨p, t, k⟩ : OpV)) (l₂ := l2)).symm)
      · rw [hit5.left_eq, hrg.left_eq]
        simp [opsP]

/-- maps.Values(m) hands back an iterator over m's values. -/
theorem values_stops (F : Fence) (n : Nat) (hF : F.fn 53) (hro : F.round = none) (hn : 1 ≤ n) (Bm m : Nat) (L : List OpV) (w : World) (hBm : Bm < w.heap.size)
    (hm : w.cell? ⟨Bm, 0, none⟩ = some (.map (some m))) (hown : MapAt Value.string w m (opsP L)) :
    SeqStops F n Tryd.prog 53 #[.pointer (some ⟨Bm, 0, none⟩)] opVal (fun xs => xs.Perm L) (fun _ => True) L.length w := fun l J Jx W hW hJ hJx hY h0 => by
  exact values1_in F n hF hro hn l Bm m L J Jx hY W hJ ((hW.cell (p := ⟨Bm, 0, none⟩) hBm).trans hm) (hown.ext hW) h0

set_option maxHeartbeats 400000 in
theorem values_any (m : Nat) (w : World) :
    Calls Tryd.prog 33 #[.map (some m)] w fun e w' => e = .returned (.func (.func 53) #[] #[.pointer (some ⟨w.heap.size, 0, none⟩)]) ∧ w' = w.alloc (.cells #[.map (some m)] 50) := by
  go_enter Tryd.func33, Tryd.ntmps33
  go_wp2_with fail
  go_ret
  exact ⟨rfl, rfl⟩

end Go.Proofs.YtckkbghmiomfiaaDoor
