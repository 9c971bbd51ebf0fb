/- Layer 17, the program: the walks of arity, Base. -/
import Derived.Test.YtmnnhdegoapfcaaGreatDoorP35
namespace Go.El
open Go.RowKit
theorem base_take {gs : List (Int × Tm)} {j : Nat} {g : Int × Tm} (n : Int) (h : gs[j]? = some g) : (gs.take (j + 1)).foldl (fun n g => max n (arF g)) n = max ((gs.take j).foldl (fun n g => max n (arF g)) n) (arF g) := by
 obtain ⟨hj, he⟩ := List.getElem?_eq_some_iff.1 h
 rw [List.take_succ_eq_append_getElem hj, List.foldl_append, he]
 rfl
end Go.El
namespace Go.Proofs.YtmnnhdegoapfcaaGreatDoor
open Go.RowKit Go.El
set_option maxRecDepth 100000 in
set_option maxHeartbeats 1000000 in
theorem mArity (k : Int) (t : Tm) (At : Option Addr) (ct : Nat) (w : World) :
  Calls Tryz.prog 66 #[goalV (k, t) At ct] w fun e w' => e = .returned (.int .i64 (arF (k, t))) ∧ Ext w w' := by
 unfold goalV
 simp only
 have hx := ext_box w (.cells #[.int .i64 k, .int .i64 t.k, .int .i64 t.n, .string t.s, .slice At t.l.length ct] 42)
 have hB := (Blk.new w 42 #[.int .i64 k, .int .i64 t.k, .int .i64 t.n, .string t.s, .slice At t.l.length ct]).cell
 have HX := Lib.hid hx
 clear hx
 by_cases h1 : k = 1
 ·subst h1
  have HR : Hid (arF (1, t) = t.l.length) := Lib.hid rfl
  go_enter Tryz.func66, Tryz.ntmps66
  go_wp2_with fail
  go_ret
  exact ⟨by rw [HR.out]; rfl, HX.out⟩
 ·by_cases h3 : k = 3 ∨ k = 4
  ·have HR : Hid (arF (k, t) = 2) := Lib.hid (by unfold arF; rw [if_neg h1, if_pos h3])
   rcases h3 with h3 | h3
   all_goals
    subst h3
    go_enter Tryz.func66, Tryz.ntmps66
    go_wp2_with fail
    go_ret
    exact ⟨by rw [HR.out]; rfl, HX.out⟩
  ·have HR : Hid (arF (k, t) = 0) := Lib.hid (by unfold arF; rw [if_neg h1, if_neg h3])
   have q1 : (k == 1) = false := by simpa using h1
   have q3 : (k == 3) = false := by simpa using fun e => h3 (.inl e)
   have q4 : (k == 4) = false := by simpa using fun e => h3 (.inr e)
   go_enter Tryz.func66, Tryz.ntmps66
   go_wp2_with fail
   go_ret
   exact ⟨by rw [HR.out]; rfl, HX.out⟩
theorem PlPost.any {c : Cls} {w : World} {e : Ending} {w' : World} (h : PlPost c w e w') : ∃ b sA sn sc lv lA ln lc, e = .returned (.tuple #[.agg #[.bool b, .slice sA sn sc, .int .i64 lv, .slice lA ln lc], .int .i64 (planE c)]) ∧ Ext w w' := by
 rcases h with ⟨_, h⟩ | ⟨h0, sA, sc, lA, lc, rfl, _, _, _, _, x⟩
 ·exact ⟨false, none, 0, 0, 0, none, 0, 0, h.1, h.2⟩
 ·exact ⟨_, _, _, _, _, _, _, _, by rw [h0], x⟩
set_option maxRecDepth 100000 in
set_option maxHeartbeats 4000000 in
theorem mBase (c : Cls) (hA : Option Addr) (hc : Nat) (gA : Option Addr) (gc : Nat) (D : Nat → Prop) (w : World) (h : ClIn D w c hA hc gA gc) (hz : ClSz c) :
  Calls Tryz.prog 26 #[.agg (clC c hA hc gA gc)] w fun e w' => e = .returned (.int .i64 (baseF c)) ∧ Ext w w' := by
 have H := Lib.hid h
 have HO := fun W (x : Ext w W) => Lib.hid ((pOf c hA hc gA gc D W (h.ext x) hz).mono (fun e w' h => h.any))
 have HB0 := Blk.new w 34 (clC c hA hc gA gc)
 have HX0 := ext_box w (.cells (clC c hA hc gA gc) 34)
 have hll := hz.l
 clear h hz
 unfold clC at *
 have hbf : baseF c = if planE c ≠ 0 ∧ planE c ≠ 62 then 0 else c.gs.foldl (fun n g => max n (arF g)) c.h.l.length := rfl
 by_cases hb : planE c ≠ 0 ∧ planE c ≠ 62
 ·rw [if_pos hb] at hbf
  have q0 : (planE c == 0) = false := by simpa using hb.1
  have q1 : (planE c == 62) = false := by simpa using hb.2
  have HBF := Lib.hid hbf
  have n0 : (planE c != 0) = true := by simpa using hb.1
  have n1 : (planE c != 62) = true := by simpa using hb.2
  clear hbf hb
  generalize planE c = pe at *
  go_enter Tryz.func26, Tryz.ntmps26
  go_upto_region 1 with fail
  refine wp_abs (fun V => Hid (Blk V w.heap.size 34 #[.int .i64 c.h.k, .int .i64 c.h.n, .string c.h.s, .slice hA c.h.l.length hc, .slice gA c.gs.length gc, .int .i64 c.vars]) ∧ Hid (Ext w V)) ⟨HB0, HX0⟩ ?_
  clear HB0 HX0
  rintro V ⟨HB, HX⟩
  have x9 := HB.out.cell
  have HO1 := HO V HX.out
  clear HO
  go_wp2_with (go_at_call 42; refine HO1.out.mono ?_; rintro e W1 ⟨bb, sA, sn, sc, lv, lA, ln, lc, rfl, x1⟩; have X1 := Lib.hid (HX.out.trans x1); have B1 := Lib.hid (HB.out.ext x1); clear x1)
  go_ret
  exact ⟨by rw [HBF.out]; rfl, X1.out.alloc _⟩
 ·rw [if_neg hb] at hbf
  have HBF := Lib.hid hbf
  have hpe : planE c = 0 ∨ planE c = 62 := by
   rcases Decidable.em (planE c = 0) with h | h
   ·exact .inl h
   ·exact .inr (Decidable.byContradiction fun h2 => hb ⟨h, h2⟩)
  clear hbf hb
  generalize planE c = pe at *
  rcases hpe with hpe | hpe
  all_goals
   subst hpe
   go_enter Tryz.func26, Tryz.ntmps26
   go_upto_region 1 with fail
   refine wp_abs (fun V => Hid (Blk V w.heap.size 34 #[.int .i64 c.h.k, .int .i64 c.h.n, .string c.h.s, .slice hA c.h.l.length hc, .slice gA c.gs.length gc, .int .i64 c.vars]) ∧ Hid (Ext w V)) ⟨HB0, HX0⟩ ?_
   clear HB0 HX0
   rintro V ⟨HB, HX⟩
   have x9 := HB.out.cell
   have HO1 := HO V HX.out
   clear HO
   go_upto_region 4 with (go_at_call 42; refine HO1.out.mono ?_; rintro e W1 ⟨bb, sA, sn, sc, lv, lA, ln, lc, rfl, x1⟩; have X1 := Lib.hid (HX.out.trans x1); have B1 := Lib.hid (HB.out.ext x1); clear x1)
   refine wp_abs (fun V => Hid (Blk V w.heap.size 34 #[.int .i64 c.h.k, .int .i64 c.h.n, .string c.h.s, .slice hA c.h.l.length hc, .slice gA c.gs.length gc, .int .i64 c.vars]) ∧ Hid (Ext w V)) ⟨B1.out.alloc _, X1.out.alloc _⟩ ?_
   clear x9 HO1 HB HX B1 X1
   rintro V2 ⟨HB, HX⟩
   have x9 := HB.out.cell
   go_upto_region 6 with fail
   go_loopw [5, 26] (fun nv iv wr => ∃ (j : Nat) (n : Int), j ≤ c.gs.length ∧ iv = .int .i64 j ∧ nv = .int .i64 n ∧ Hid (n = (c.gs.take j).foldl (fun n g => max n (arF g)) c.h.l.length) ∧ Hid (Ext w wr)) (fun _ iv _ => c.gs.length - (intOf iv).toNat)
   case atStart => exact ⟨0, _, Nat.zero_le _, rfl, rfl, Lib.hid rfl, HX⟩
   case round =>
    clear HB HX x9
    obtain ⟨j, n, hj, rfl, rfl, HN, HX⟩ := hrel
    by_cases hlt : j < c.gs.length
    ·have ho : c.gs[j]? = some c.gs[j] := List.getElem?_eq_getElem hlt
     generalize c.gs[j] = g at ho
     have HTK := Lib.hid (base_take c.h.l.length ho)
     obtain ⟨kg, t⟩ := g
     obtain ⟨gb, off, A', c', rfl, _, _, q0, q1, q2, q3, q4⟩ := (H.out.gs.ext HX.out).at_ j kg t ho
     clear ho
     go_upto_region 8 with fail
     refine wp_abs (fun W => Hid (Ext wr W) ∧ Hid (Blk W wr.heap.size 42 #[.int .i64 kg, .int .i64 t.k, .int .i64 t.n, .string t.s, .slice A' t.l.length c'])) ⟨ext_box _ _, Blk.new _ _ _⟩ ?_
     rintro W ⟨HE, HU⟩
     have u9 := HU.out.cell
     have HA := Lib.hid (mArity kg t A' c' W)
     unfold goalV at HA
     simp only at HA
     obtain ⟨ar, har⟩ : ∃ ar, ar = arF (kg, t) := ⟨_, rfl⟩
     rw [← har] at HA HTK
     clear q0 q1 q2 q3 q4 har
     go_wp2_with (go_at_call 66; refine HA.out.mono ?_; rintro e W5 ⟨rfl, x5⟩; have X5 := Lib.hid (HX.out.trans (HE.out.trans x5)); clear x5)
     go_roundw
     case rel => exact ⟨j + 1, _, hlt, by go_num, rfl, Lib.hid (by rw [HTK.out, ← HN.out]), X5⟩
     case measure => simp [intOf]; omega
    ·obtain rfl : j = c.gs.length := by omega
     rw [List.take_length] at HN
     go_wp2_with fail
     go_ret
     exact ⟨by rw [HBF.out, ← HN.out]; rfl, HX.out⟩
end Go.Proofs.YtmnnhdegoapfcaaGreatDoor

/- Layer 17, the program: a new maker. -/
namespace Go.El
open Go.RowKit
theorem find_set {α : Type} [DecidableEq α] (k n : α) (v : Value) : ∀ ps : List (α × Value), findP n (setP k v ps) = if k = n then some v else findP n ps
 | [] => by
  simp only [setP, findP]
 | p :: ps => by
  have ih := find_set k n v ps
  simp only [setP]
  by_cases h : p.1 = k
  ·rw [if_pos h]
   by_cases h2 : k = n
   ·simp [findP, h2]
   ·simp [findP, h, h2]
  ·rw [if_neg h]
   by_cases h2 : k = n
   ·have h3 : ¬ p.1 = n := fun e => h (e.trans h2.symm)
    simp only [findP]
    rw [if_neg h3, ih, if_pos h2, if_pos h2]
   ·simp only [findP]
    rw [ih]
    simp [h2]
theorem slot_take {S : List Int} (hn : S.Pairwise (· ≠ ·)) {j : Nat} {x : Int} (hj : S[j]? = some x) (n : Int) : slotN (S.take (j + 1)) n = if x = n then some (-(j : Int) - 1) else slotN (S.take j) n := by
 obtain ⟨h1, h2⟩ := List.getElem?_eq_some_iff.1 hj
 unfold slotN
 rw [List.take_succ_eq_append_getElem h1, List.findIdx?_append, h2]
 by_cases hx : x = n
 ·have hno : (S.take j).findIdx? (fun x => decide (x = n)) = none := by
   rw [List.findIdx?_eq_none_iff]
   intro y hy
   obtain ⟨i, hi⟩ := List.mem_iff_getElem?.1 hy
   rw [List.getElem?_take] at hi
   split at hi
   ·next hij =>
    obtain ⟨hi1, hi2⟩ := List.getElem?_eq_some_iff.1 hi
    have := List.pairwise_iff_getElem.1 hn i j hi1 h1 hij
    rw [hi2, h2, hx] at this
    exact decide_eq_false this
   ·cases hi
  rw [hno, if_pos hx]
  simp [hx, List.length_take]
  omega
 ·rw [if_neg hx]
  have : [x].findIdx? (fun x => decide (x = n)) = none := by simp [List.findIdx?_cons, hx]
  rw [this]
  cases (S.take j).findIdx? (fun x => decide (x = n)) <;> rfl
theorem SlotsIn.step {ps : List (Int × Value)} {S : List Int} (hn : S.Pairwise (· ≠ ·)) {j : Nat} {x : Int} (hj : S[j]? = some x) (h : SlotsIn ps (S.take j)) : SlotsIn (setP x (.int .i64 (-(j : Int) - 1)) ps) (S.take (j + 1)) := by
 intro n
 rw [find_set, slot_take hn hj, h n]
 split <;> rfl
theorem slots_nodup (c : Cls) : (planF c).slots.Pairwise (· ≠ ·) := by
 have h4 : NoTwo ((gathF c).1.filter perm) := List.Pairwise.filter _ (noTwo_gath c)
 have h1 : (slotsF c).Perm ((gathF c).1.filter perm) := by
  have := sort_perm ((gathF c).1.filter perm) []
  rw [List.nil_append] at this
  exact this
 have h3 : NoTwo (slotsF c) := (h1.symm.pairwise h4 (fun hab => hab.symm))
 rw [slots_plan]
 exact List.pairwise_map.2 h3
end Go.El
namespace Go.Proofs.YtmnnhdegoapfcaaGreatDoor
open Go.RowKit Go.El
structure MkPre (f : MF) (lo : Nat) (w : World) (n0 : Int) (j : Nat) : Prop where
 blk : Blk w f.mb 89 (mkA f ⟨n0, [], []⟩ (.slice none 0 0))
 slots : ∃ ps, MapAt (Value.int .i64) w f.sm ps ∧ SlotsIn ps (f.p.slots.take j)
 regs : MapAt (Value.int .i64) w f.rm (rgP [])
 src : El.Src w f.A f.p.slots.length 1 (f.p.slots.map (Value.int .i64))
 live : El.Src w f.L f.p.live.length 1 (f.p.live.map (Value.int .i64))
 sa : ∀ a, f.A = some a → a.block < lo
 la : ∀ a, f.L = some a → a.block < lo
 l1 : lo ≤ f.mb
 l2 : lo ≤ f.sm
 l3 : lo ≤ f.rm
 pm : f.mb ≠ f.rm
 ps : f.mb ≠ f.sm
 pr : f.sm ≠ f.rm
theorem MkPre.ext {f : MF} {lo : Nat} {w w' : World} {n0 : Int} {j : Nat} (h : MkPre f lo w n0 j) (x : Ext w w') : MkPre f lo w' n0 j := by
 obtain ⟨ps, h1, h2⟩ := h.slots
 exact ⟨h.blk.ext x, ⟨ps, h1.ext x, h2⟩, h.regs.ext x, h.src.ext x, h.live.ext x, h.sa, h.la, h.l1, h.l2, h.l3, h.pm, h.ps, h.pr⟩
theorem MkPre.step {f : MF} {lo : Nat} {w w' : World} {n0 : Int} {j : Nat} (h : MkPre f lo w n0 j) {ps : List (Int × Value)} (hm : MapAt (Value.int .i64) w' f.sm ps) (hs : SlotsIn ps (f.p.slots.take (j + 1))) (hd : Mods [f.sm] w w') : MkPre f lo w' n0 (j + 1) :=
 have := h.l2
 ⟨h.blk.mods hd (by simp; exact h.ps), ⟨ps, hm, hs⟩, h.regs.mods hd (by simp; exact h.pr.symm), h.src.mods hd (fun a ha => by have := h.sa a ha; simp; omega), h.live.mods hd (fun a ha => by have := h.la a ha; simp; omega), h.sa, h.la, h.l1, h.l2, h.l3, h.pm, h.ps, h.pr⟩
theorem MkPre.done {f : MF} {lo : Nat} {w : World} {n0 : Int} {j : Nat} (h : MkPre f lo w n0 j) (hj : f.p.slots.length ≤ j) : MkAt f w ⟨n0, [], []⟩ (.slice none 0 0) := by
 obtain ⟨ps, h1, h2⟩ := h.slots
 have l1 := h.l1
 have l2 := h.l2
 have l3 := h.l3
 rw [List.take_of_length_le hj] at h2
 refine ⟨h.blk, World.ownsRow_nil _ _ _ _, ⟨ps, h1, h2⟩, h.regs, h.live, ⟨?_, by simp [Value.ownBlock], h1.lt⟩, fun a ha => ⟨?_, by simp [Value.ownBlock], ?_⟩, h.pm, by simp [Value.ownBlock], by simp [Value.ownBlock]⟩
 ·simp only [MF.S, List.mem_cons, List.not_mem_nil, or_false]
  intro e
  rcases e with e | e
  ·exact h.ps e.symm
  ·exact h.pr e
 ·have := h.la a ha
  simp only [MF.S, List.mem_cons, List.not_mem_nil, or_false]
  omega
 ·have := h.la a ha
  have := h.blk.lt
  omega
theorem MkPre.start {w : World} {sm rm lo : Nat} {p : PlanV} {A L : Option Addr} {cA cL : Nat} {n0 : Int} (h1 : MapAt (Value.int .i64) w sm []) (h2 : MapAt (Value.int .i64) w rm []) (hs : El.Src w A p.slots.length 1 (p.slots.map (Value.int .i64))) (hl : El.Src w L p.live.length 1 (p.live.map (Value.int .i64))) (sa : ∀ a, A = some a → a.block < lo) (la : ∀ a, L = some a → a.block < lo) (k1 : lo ≤ sm) (k2 : lo ≤ rm) (hne : sm ≠ rm) :
  MkPre ⟨w.heap.size, sm, rm, p, A, cA, L, cL⟩ lo (w.alloc (.cells #[.bool p.env, .slice A p.slots.length cA, .int .i64 p.level, .slice L p.live.length cL, .int .i64 n0, .map (some sm), .map (some rm), .slice none 0 0] 89)) n0 0 := by
 have x := ext_box w (.cells #[.bool p.env, .slice A p.slots.length cA, .int .i64 p.level, .slice L p.live.length cL, .int .i64 n0, .map (some sm), .map (some rm), .slice none 0 0] 89)
 have l1 := h1.lt
 have l2 := h2.lt
 refine ⟨Blk.new _ _ _, ⟨[], h1.ext x, fun n => ?_⟩, h2.ext x, hs.ext x, hl.ext x, sa, la, ?_, k1, k2, ?_, ?_, hne⟩
 ·simp [slotN, findP]
 ·show lo ≤ w.heap.size
  omega
 ·show w.heap.size ≠ rm
  omega
 ·show w.heap.size ≠ sm
  omega
end Go.Proofs.YtmnnhdegoapfcaaGreatDoor
