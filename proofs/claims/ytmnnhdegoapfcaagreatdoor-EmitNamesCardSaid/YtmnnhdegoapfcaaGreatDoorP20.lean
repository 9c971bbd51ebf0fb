/- Layer 17, plain: any clause's code is right, of the head's arity. No program in sight. -/
import Derived.Test.YtmnnhdegoapfcaaGreatDoorP19
namespace Go.El
theorem fstNo_zero : ∀ {l : List Int}, fstNo l = 0 → ∀ e ∈ l, e = 0
 | [], _, _, h => by cases h
 | a :: l, h, e, he => by
  simp only [fstNo] at h
  split at h
  ·next h0 =>
   rcases List.mem_cons.1 he with rfl | he
   ·exact h0
   ·exact fstNo_zero h e he
  ·next h0 => exact absurd h h0
structure Good (c : Cls) : Prop where
 h : okT c.h = true
 hk : c.h.l.length ≤ 16
 g : ∀ g ∈ c.gs, okT g.2 = true ∧ 1 ≤ g.1 ∧ g.1 ≤ 4
 s : (slotsF c).length ≤ 64
theorem chk_ok {t : Tm} (h : chkT t = 0) : okT t = true := (mayT_iff.1 (show mayT t = true by unfold mayT; simp [h])).1
theorem ok_len {t : Tm} (h : okT t = true) : t.l.length ≤ 16 ∧ t.s.size ≤ 64 := by
 obtain ⟨k, n, s, l⟩ := t
 simp only [okT, Bool.and_eq_true] at h
 obtain ⟨h, _⟩ := h
 unfold partK at h
 simp only [Tm.l, Tm.s]
 split at h
 ·have := of_decide_eq_true h; omega
 ·split at h
  ·have := of_decide_eq_true h; omega
  ·split at h
   ·have := of_decide_eq_true h; omega
   ·split at h
    ·have := of_decide_eq_true h; omega
    ·cases h
theorem good_of {c : Cls} (h : planE c = 0) : Good c := by
 unfold planE at h
 split at h
 ·next h0 => exact absurd h h0
 ·next h0 =>
  split at h
  ·cases h
  ·next hs =>
   have hm : mayC c = 0 := Decidable.byContradiction h0
   unfold mayC at hm
   split at hm
   ·next h1 => exact absurd hm h1
   ·next h1 =>
    have hz := fstNo_zero (Decidable.byContradiction h1)
    split at hm
    ·cases hm
    ·next h2 =>
     have hh := chk_ok (hz (chkT c.h) (by simp))
     refine ⟨hh, (ok_len hh).1, fun g hg => ⟨chk_ok (hz (chkT g.2) (List.mem_cons_of_mem _ (List.mem_map_of_mem (f := fun g : Int × Tm => chkT g.2) hg))), ?_⟩, by omega⟩
     have h3 : ¬ (c.gs.any fun g => decide (g.1 < 1) || decide (4 < g.1)) = true := fun e => h2 (.inl e)
     rw [List.any_eq_true] at h3
     have h5 : ¬ (g.1 < 1 ∨ 4 < g.1) := fun e => h3 ⟨g, hg, by simpa only [Bool.or_eq_true, decide_eq_true_eq] using e⟩
     omega
mutual
theorem vs_ge : ∀ (t : Tm) (acc : List Int), okT t = true → (∀ m ∈ acc, 0 ≤ m) → ∀ m ∈ vsT t acc, 0 ≤ m
 | .mk k n s l, acc, h, ha => by
  simp only [okT, Bool.and_eq_true] at h
  simp only [vsT]
  split
  ·next hk =>
   subst hk
   have hn := (part_var h.1).1
   intro m hm
   unfold addV at hm
   split at hm
   ·exact ha m hm
   ·rcases List.mem_append.1 hm with g | g
    ·exact ha m g
    ·simp at g
     omega
  ·exact vsL_ge l acc h.2 ha
theorem vsL_ge : ∀ (l : List Tm) (acc : List Int), okL l = true → (∀ m ∈ acc, 0 ≤ m) → ∀ m ∈ vsL l acc, 0 ≤ m
 | [], acc, _, ha => ha
 | a :: r, acc, h, ha => by
  simp only [okL, Bool.and_eq_true] at h
  exact vsL_ge r _ h.2 (vs_ge a acc h.1 ha)
end
theorem addV_sub {n m : Int} {l : List Int} (h : m ∈ l) : m ∈ addV n l := by
 unfold addV
 split
 ·exact h
 ·exact List.mem_append_left _ h
mutual
theorem vs_sub : ∀ (t : Tm) (acc : List Int), ∀ m ∈ acc, m ∈ vsT t acc
 | .mk k n s l, acc, m, h => by
  simp only [vsT]
  split
  ·exact addV_sub h
  ·exact vsL_sub l acc m h
theorem vsL_sub : ∀ (l : List Tm) (acc : List Int), ∀ m ∈ acc, m ∈ vsL l acc
 | [], _, _, h => h
 | a :: r, acc, m, h => by
  simp only [vsL]
  exact vsL_sub r _ m (vs_sub a acc m h)
end
mutual
theorem al_of : ∀ (t : Tm) (acc : List Int) (al : Int → Prop), okT t = true → (∀ n ∈ vsT t acc, al n) → alT al t
 | .mk k n s l, acc, al, hk, h => by
  simp only [okT, Bool.and_eq_true] at hk
  simp only [vsT] at h
  by_cases h1 : k = 1
  ·subst h1
   rw [if_pos rfl] at h
   have hl := (part_var hk.1).2.2.2
   obtain rfl := List.length_eq_zero_iff.1 hl
   exact ⟨fun _ => h n (addV_mem n acc), trivial⟩
  ·rw [if_neg h1] at h
   exact ⟨fun e => absurd e h1, alL_of l acc al hk.2 h⟩
theorem alL_of : ∀ (l : List Tm) (acc : List Int) (al : Int → Prop), okL l = true → (∀ n ∈ vsL l acc, al n) → alL al l
 | [], _, _, _, _ => trivial
 | a :: r, acc, al, hk, h => by
  simp only [okL, Bool.and_eq_true] at hk
  simp only [vsL] at h
  exact ⟨al_of a acc al hk.1 (fun n hn => h n (vsL_sub r _ n hn)), alL_of r _ al hk.2 h⟩
end
def cnt (gs : List (Int × Tm)) : Nat := (gs.filter fun g => decide (g.1 ≠ 2)).length
theorem gath_cnt : ∀ (gs : List (Int × Tm)) (L : List Spn) (k : Nat), (gs.foldl gathG (L, k)).2 = k + cnt gs
 | [], L, k => rfl
 | g :: r, L, k => by
  rw [List.foldl_cons]
  by_cases hg : g.1 = 2
  ·have : ∃ L1, gathG (L, k) g = (L1, k) := ⟨_, by unfold gathG; simp only; rw [if_pos hg]⟩
   obtain ⟨L1, h1⟩ := this
   rw [h1, gath_cnt r]
   simp [cnt, hg]
  ·have : ∃ L1, gathG (L, k) g = (L1, k + 1) := ⟨_, by unfold gathG; simp only; rw [if_neg hg]⟩
   obtain ⟨L1, h1⟩ := this
   rw [h1, gath_cnt r]
   simp [cnt, hg]
   omega
structure Plan (c : Cls) : Prop where
 good : Good c
 fit : Fit (gathF c).1 c.gs 0
 sps : Sps (gathF c).1 (gathF c).2
 less : Less (gathF c).1 (gathF c).2
 head : ∀ n ∈ vsT c.h [], ∃ x ∈ (gathF c).1, x.n = n ∧ x.a ≤ 0 ∧ 0 ≤ x.b
 cnt : (gathF c).2 = cnt c.gs
theorem plan_of {c : Cls} (h : planE c = 0) : Plan c := by
 have hg := good_of h
 have hv : ∀ t, okT t = true → ∀ n ∈ vsT t [], n ≠ -1 := fun t ht n hn => by
  have := vs_ge t [] ht (fun m hm => by cases hm) n hn
  omega
 have s0 : Sps [] 0 := ⟨by simp, fun x hx => (by cases hx), fun x hx => (by cases hx)⟩
 obtain ⟨n1, n2, n3⟩ := notes_sps (ns := vsT c.h []) s0 (hv c.h hg.h)
 have hl : Less (notesS 0 (vsT c.h []) []) 0 := fun x hx _ => by have := n1.ab x hx; omega
 obtain ⟨f1, f2, f3, f4, f5⟩ := gath_fit c.gs _ 0 n1 hl (fun g hg2 => hv g.2 (hg.g g hg2).1)
 refine ⟨hg, f1, f2, f4, fun n hn => ?_, ?_⟩
 ·obtain ⟨x, x1, x2, x3, x4⟩ := n3 n hn
  obtain ⟨y, y1, y2, y3, y4⟩ := f3 x x1
  exact ⟨y, y1, y2.trans x2, by simp only [Int.natCast_zero] at x3; omega, by simp only [Int.natCast_zero] at x4; omega⟩
 ·unfold gathF
  rw [gath_cnt]
  omega
def Ak (L : List Spn) (k : Nat) : Alv := ⟨fun n => n ≠ -1 ∧ ∃ x ∈ L, x.n = n ∧ x.a ≤ k ∧ k ≤ x.b, fun n => n ≠ -1 ∧ ∃ x ∈ L, x.n = n ∧ x.a ≤ k, fun _ ⟨h0, x, h1, h2, h3, _⟩ => ⟨h0, x, h1, h2, h3⟩⟩
structure Inv (c : Cls) (k : Nat) (m : Mk) (s : InSt) : Prop where
 core : Core (planF c).slots (Ak (gathF c).1 k) m s
 uni : s.uni = 0
 set_ : s.set = 0
 calls : s.calls = decide (0 < k)
 slots : s.slots = if (planF c).env then (if k = 0 then ((slotsF c).length : Int) else liveF (slotsF c) (k - 1)) else -1
 lev : 0 < (planF c).level → (∃ x ∈ (gathF c).1, x.n = -1 ∧ (k : Int) ≤ x.b) → s.known (-(planF c).level) = true
theorem Inv.code {c : Cls} {k : Nat} {m : Mk} {s : InSt} (h : Inv c k m s) (i : Ins) : Inv c k (m.add i) s := ⟨h.core.code i, h.uni, h.set_, h.calls, h.slots, h.lev⟩
theorem Inv.go {c : Cls} {k : Nat} {m m' : Mk} {s s' : InSt} (h : Inv c k m s) (g : Go1 (planF c).slots (Ak (gathF c).1 k) m m' s s') (hu : s'.uni = 0) (hs : s'.set = 0) : Inv c k m' s' :=
 ⟨g.core, hu, hs, g.mono.ca.trans h.calls, g.mono.sl.trans h.slots, fun h1 h2 => g.mono.known (h.lev h1 h2)⟩
theorem no_env {c : Cls} (hp : Plan c) (he : (planF c).env = false) : slotsF c = [] ∧ (planF c).level = 0 ∧ (gathF c).2 ≤ 1 ∧ ((gathF c).2 = 1 → (c.gs.getLast?.map (·.1)) ≠ some 2) := by
 have hl := lev_slot (l := slotsF c)
 unfold planF at he ⊢
 simp only [Bool.or_eq_false_iff, decide_eq_false_iff_not, Bool.and_eq_false_iff, beq_eq_false_iff_ne] at he ⊢
 obtain ⟨⟨h1, h2⟩, h3⟩ := he
 refine ⟨?_, by omega, by omega, fun e => ?_⟩
 ·cases hs : slotsF c with
  | nil => rfl
  | cons x l =>
   exfalso
   have hx : x ∈ slotsF c := by rw [hs]; simp
   obtain ⟨q1, q2⟩ := slots_mem.1 hx
   by_cases hn : x.n = -1
   ·exact h2 (hl.2.1 ⟨x, hx, hn⟩)
   ·unfold perm at q2
    simp only [hn, decide_false, Bool.false_or, Bool.not_eq_true', decide_eq_false_iff_not] at q2
    have h4 := hp.sps.ab x q1
    rcases hp.less x q1 hn with h5 | h5
    ·omega
    ·omega
 ·rcases h3 with h3 | h3
  ·exact absurd e h3
  ·exact h3
theorem lev_pos {c : Cls} (h : ∃ x ∈ (gathF c).1, x.n = -1) : 0 < (planF c).level := by
 obtain ⟨x, h1, h2⟩ := h
 exact (lev_slot (l := slotsF c)).2.1 ⟨x, slots_mem.2 ⟨h1, by simp [perm, h2]⟩, h2⟩
theorem lev_bd {c : Cls} (hg : Good c) (h : 0 < (planF c).level) : -64 ≤ -(planF c).level ∧ -(planF c).level ≤ 255 ∧ -(planF c).level ≠ 0 := by
 have h1 := (lev_slot (l := slotsF c)).2.2.2
 have h2 := hg.s
 have h3 : (planF c).level = levF (slotsF c) := rfl
 omega
theorem slot_live {c : Cls} (hp : Plan c) {k : Nat} {n v : Int} (hs : slotN (planF c).slots n = some v) (hx : ∃ x ∈ (gathF c).1, x.n = n ∧ (k : Int) < x.b) : -(liveF (slotsF c) k) ≤ v ∧ v < 0 := by
 obtain ⟨i, y, h1, h2, h3⟩ := slot_at (l := slotsF c) hs
 obtain ⟨x, x1, x2, x3⟩ := hx
 have hy := (slots_mem.1 (List.mem_of_getElem? h1)).1
 obtain rfl := uniq hp.sps.nd x1 hy (x2.trans h2.symm)
 have := live_lt (slots_desc c) h1 x3
 omega
theorem args_ok {s : InSt} {n : Nat} (h : ∀ j, 1 ≤ j → j ≤ n → s.x.getD j false = true) : s.args n = true := by
 unfold InSt.args
 rw [Int.toNat_natCast, List.all_eq_true]
 intro b hb
 obtain ⟨i, hi⟩ := List.mem_iff_getElem?.1 hb
 rw [List.getElem?_take] at hi
 split at hi
 ·next hlt =>
  rw [List.getElem?_drop] at hi
  have := h (1 + i) (by omega) (by omega)
  rw [List.getD_eq_getElem?_getD, hi] at this
  exact this
 ·cases hi
theorem call_inv {c : Cls} (hp : Plan c) {k : Nat} {m : Mk} {s : InSt} (h : Inv c k m s) (he : (planF c).env = true) : 0 ≤ s.slots ∧ liveF (slotsF c) k ≤ s.slots ∧
  Inv c (k + 1) m { (s.clearX.clearY (liveF (slotsF c) k + 1).toNat) with slots := liveF (slotsF c) k, calls := true } := by
 have hb := live_bd (slotsF c) k
 have hsl : 0 ≤ s.slots ∧ liveF (slotsF c) k ≤ s.slots := by
  rw [h.slots, he]
  simp only [if_true]
  split
  ·omega
  ·have h1 := live_down (slots_desc c) (show k - 1 ≤ k by omega)
   have h2 := live_bd (slotsF c) (k - 1)
   omega
 have hgood := hp.good.s
 have hy : ∀ v : Int, v < 0 → -(liveF (slotsF c) k) ≤ v → s.known v = true → ({ (s.clearX.clearY (liveF (slotsF c) k + 1).toNat) with slots := liveF (slotsF c) k, calls := true } : InSt).known v = true := by
  intro v h1 h2 h3
  unfold InSt.known at h3 ⊢
  rw [if_neg (by omega)] at h3 ⊢
  rw [if_neg (by omega)] at h3
  simp only
  rw [if_neg (by omega)]
  unfold InSt.clearY InSt.clearX
  simp only
  rw [List.getD_eq_getElem?_getD, List.getElem?_append_left (by rw [List.length_take, h.core.ly]; omega), List.getElem?_take, if_pos (by omega), ← List.getD_eq_getElem?_getD]
  exact h3
 refine ⟨hsl.1, hsl.2, ⟨?_, h.core.ly ▸ ?_, h.core.en, fun n v hf ha => ?_, fun n v hf => ?_, fun n v hs ha => ?_, h.core.nx⟩, h.uni, h.set_, by simp, ?_, fun h1 h2 => ?_⟩
 ·unfold InSt.clearY InSt.clearX
  simp [h.core.lx]
 ·unfold InSt.clearY InSt.clearX
  simp only [List.length_append, List.length_map, List.length_take, List.length_drop]
  omega
 ·obtain ⟨r1, r2, r3, ⟨r4, z, z1, z2, z3⟩, r5, r6⟩ := h.core.rg n v hf
  obtain ⟨a0, x, x1, x2, x3, x4⟩ := ha
  obtain rfl := uniq hp.sps.nd x1 z1 (x2.trans z2.symm)
  by_cases hv : v < 0
  ·obtain ⟨q1, q2⟩ := slot_live hp (k := k) (r5 hv) ⟨x, x1, x2, by omega⟩
   exact hy v hv q1 (h.core.kn n v hf ⟨a0, x, x1, x2, z3, by omega⟩)
  ·exfalso
   have hno := slot_no (l := slotsF c) (r6 (by omega))
   have hpm : perm x = false := by
    cases hq : perm x with
    | false => rfl
    | true => exact absurd x2 (hno x (slots_mem.2 ⟨x1, hq⟩))
   unfold perm at hpm
   simp only [Bool.or_eq_false_iff, decide_eq_false_iff_not, Bool.not_eq_false', decide_eq_true_eq] at hpm
   omega
 ·obtain ⟨r1, r2, r3, ⟨r4, z, z1, z2, z3⟩, r5, r6⟩ := h.core.rg n v hf
  exact ⟨r1, r2, r3, ⟨r4, z, z1, z2, by omega⟩, r5, r6⟩
 ·obtain ⟨a0, x, x1, x2, x3, x4⟩ := ha
  exact (slot_live hp (k := k) hs ⟨x, x1, x2, by omega⟩).1
 ·rw [he]
  simp
 ·obtain ⟨x, x1, x2, x3⟩ := h2
  have hsn := (lev_slot (l := slotsF c)).1 h1
  obtain ⟨q1, q2⟩ := slot_live hp (k := k) hsn ⟨x, x1, x2, by omega⟩
  exact hy _ q2 q1 (h.lev h1 ⟨x, x1, x2, by omega⟩)
end Go.El

/- Layer 17, plain: any clause's code is right: its goals, and all of it. No program in sight. -/
namespace Go.El
theorem go_putR {S : List Int} {al : Alv} (hS : S.length ≤ 64) : ∀ (l : List Tm) (a : Int) (m : Mk) (s : InSt), okL l = true → alL al l → 1 ≤ a → a + l.length ≤ 256 → (putR S l a m).full = false → Core S al m s → s.uni = 0 → s.set = 0 →
  ∃ s', Go1 S al m (putR S l a m) s s' ∧ s'.uni = 0 ∧ s'.set = 0 ∧ ∀ j : Nat, a ≤ j → (j : Int) < a + l.length → s'.x.getD j false = true
 | [], a, m, s, _, _, _, _, _, hc, hu, hs => ⟨s, .refl hc, hu, hs, fun j h1 h2 => by simp at h2; omega⟩
 | t :: r, a, m, s, hok, hal, ha, hr, hf, hc, hu, hs => by
  simp only [okL, Bool.and_eq_true] at hok
  simp only [List.length_cons] at hr
  simp only [putR] at hf ⊢
  have hf1 := (ex_putR S r (a + 1) (putT S t a m)).full hf
  obtain ⟨s1, g1, g2, g3, g4⟩ := go_putT hS t a m s hok.1 hal.1 ⟨ha, by omega⟩ hf1 hc hu hs
  obtain ⟨s2, k1, k2, k3, k4⟩ := go_putR hS r (a + 1) _ s1 hok.2 hal.2 (by omega) (by omega) hf g1.core g2 g3
  refine ⟨s2, g1.trans k1, k2, k3, fun j h1 h2 => ?_⟩
  simp only [List.length_cons] at h2
  by_cases e : (j : Int) = a
  ·have : a.toNat = j := by omega
   rw [this] at g4
   exact k1.mono.x _ g4
  ·exact k4 j (by omega) (by omega)
theorem step_here {s : InSt} {i : Ins} (he : s.ended = false) (hu : s.uni = 0) (hs : s.set = 0) (ho : i.op = 27) : s.step i = s.learn i.v := by
 unfold InSt.step
 rw [he, if_neg (by decide), if_neg (by omega), if_neg (by omega), if_neg (by omega), if_neg (by omega), if_neg (by omega), if_neg (by omega), if_neg (by omega), if_pos ho]
theorem step_cut {s : InSt} {i : Ins} (he : s.ended = false) (hu : s.uni = 0) (hs : s.set = 0) (ho : i.op = 29) : s.step i = (decide (i.v < 0) && s.known i.v, s) := by
 unfold InSt.step
 rw [he, if_neg (by decide), if_neg (by omega), if_neg (by omega), if_neg (by omega), if_neg (by omega), if_neg (by omega), if_neg (by omega), if_neg (by omega), if_neg (by omega), if_pos ho]
theorem step_neck {s : InSt} {i : Ins} (he : s.ended = false) (hu : s.uni = 0) (hs : s.set = 0) (ho : i.op = 28) : s.step i = (!s.calls, s) := by
 unfold InSt.step
 rw [he, if_neg (by decide), if_neg (by omega), if_neg (by omega), if_neg (by omega), if_neg (by omega), if_neg (by omega), if_neg (by omega), if_neg (by omega), if_neg (by omega), if_neg (by omega), if_pos ho]
theorem step_level {s : InSt} {i : Ins} (he : s.ended = false) (hu : s.uni = 0) (hs : s.set = 0) (ho : i.op = 26) : s.step i = if i.v < 0 then s.learn i.v else (false, s) := by
 unfold InSt.step
 rw [he, if_neg (by decide), if_neg (by omega), if_neg (by omega), if_neg (by omega), if_neg (by omega), if_neg (by omega), if_neg (by omega), if_pos ho]
theorem step_env {s : InSt} {i : Ins} (he : s.ended = false) (hu : s.uni = 0) (hs : s.set = 0) (ho : i.op = 19 ∨ i.op = 20) : s.step i = s.env i := by
 unfold InSt.step
 rw [he, if_neg (by decide), if_neg (by omega), if_neg (by omega), if_neg (by omega), if_neg (by omega), if_neg (by omega), if_pos (by omega)]
theorem step_flow {s : InSt} {i : Ins} (he : s.ended = false) (hu : s.uni = 0) (hs : s.set = 0) (ho : 21 ≤ i.op ∧ i.op ≤ 25) : s.step i = s.flow i := by
 unfold InSt.step
 rw [he, if_neg (by decide), if_neg (by omega), if_neg (by omega), if_neg (by omega), if_neg (by omega), if_neg (by omega), if_neg (by omega), if_neg (by omega), if_neg (by omega), if_neg (by omega), if_neg (by omega)]
variable {c : Cls}
theorem slots_le (hp : Plan c) : (planF c).slots.length ≤ 64 := by
 have : (planF c).slots = (slotsF c).map Spn.n := rfl
 rw [this, List.length_map]
 exact hp.good.s
def arN (g : Int × Tm) : Nat := if g.1 = 1 then g.2.l.length else 2
theorem go_args (hp : Plan c) {k : Nat} {g : Int × Tm} (hg : okT g.2 = true) (hk : 1 ≤ g.1 ∧ g.1 ≤ 4 ∧ g.1 ≠ 2) (h3 : g.1 = 3 → ∃ x ∈ (gathF c).1, x.n = -1 ∧ (k : Int) ≤ x.b) (hv : ∀ n ∈ vsT g.2 [], ∃ x ∈ (gathF c).1, x.n = n ∧ x.a ≤ k ∧ k ≤ x.b) {m : Mk} {s : InSt} (hf : (argsF (planF c) m g).full = false) (h : Inv c k m s) :
  ∃ s', Go1 (planF c).slots (Ak (gathF c).1 k) m (argsF (planF c) m g) s s' ∧ s'.uni = 0 ∧ s'.set = 0 ∧ ∀ j : Nat, 1 ≤ j → j ≤ arN g → s'.x.getD j false = true := by
 have hS := slots_le hp
 have hal : alT (Ak (gathF c).1 k) g.2 := al_of g.2 [] _ hg (fun n hn => ⟨by have := vs_ge g.2 [] hg (fun m hm => by cases hm) n hn; omega, hv n hn⟩)
 unfold argsF at hf ⊢
 unfold arN
 by_cases h4 : g.1 = 4
 ·rw [if_pos h4] at hf ⊢
  rw [if_neg (by omega)]
  have hf1 := (show Ex (putT (planF c).slots g.2 1 m) _ from Ex.add rfl).full hf
  obtain ⟨s1, g1, g2, g3, g4⟩ := go_putT hS g.2 1 m s hg hal ⟨by omega, by omega⟩ hf1 h.core h.uni h.set_
  have hst := step_here (i := ⟨27, ⟨#[]⟩, 0, 2, 0⟩) g1.core.en g2 g3 rfl
  obtain ⟨l1, l2, l3, l4, l5, l6, l7, l8, l9⟩ := learn_ok g1.core (v := 2) ⟨by omega, by omega, by omega⟩ (fun h => by omega)
  refine ⟨_, g1.trans (.one rfl (may_27 ⟨by omega, by omega, by omega⟩) (by rw [hst]; exact l1) (by rw [hst]) ((g1.core.mono l2 l4 l5 l6).code _) l2), l7.trans g2, l8.trans g3, fun j j1 j2 => ?_⟩
  rcases (show j = 1 ∨ j = 2 by omega) with rfl | rfl
  ·exact l2.x 1 g4
  ·unfold InSt.known at l3
   rw [if_pos (by omega)] at l3
   exact l3
 ·rw [if_neg h4] at hf ⊢
  by_cases h33 : g.1 = 3
  ·rw [if_pos h33] at hf ⊢
   rw [if_neg (by omega)]
   have hf1 := (show Ex (putT (planF c).slots g.2 1 m) _ from Ex.add rfl).full hf
   obtain ⟨s1, g1, g2, g3, g4⟩ := go_putT hS g.2 1 m s hg hal ⟨by omega, by omega⟩ hf1 h.core h.uni h.set_
   obtain ⟨x, x1, x2, x3⟩ := h3 h33
   have hl := lev_pos ⟨x, x1, x2⟩
   have hkn := g1.mono.known (h.lev hl ⟨x, x1, x2, x3⟩)
   have hbd := lev_bd hp.good hl
   obtain ⟨c1, c2, c3⟩ := core_x g1.core (a := 2) ⟨by omega, by omega⟩
   have hst : s1.step ⟨11, ⟨#[]⟩, 0, -(planF c).level, 2⟩ = (true, { s1 with x := s1.x.set (2 : Int).toNat true }) := by
    rw [step_put g1.core.en g2 g3 ⟨by simp, by simp⟩]
    unfold InSt.store
    simp [hkn]
   refine ⟨_, g1.trans (.one rfl (may_11 hbd ⟨by omega, by omega⟩) (by rw [hst]) (by rw [hst]) (c1.code _) c2), g2, g3, fun j j1 j2 => ?_⟩
   rcases (show j = 1 ∨ j = 2 by omega) with rfl | rfl
   ·exact c2.x 1 g4
   ·exact c3
  ·rw [if_neg h33] at hf ⊢
   rw [if_pos (by omega)]
   have hlen := (ok_len hg).1
   have hok : okL g.2.l = true := by
    obtain ⟨g1, ⟨k, n, b, l⟩⟩ := g
    simp only [okT, Bool.and_eq_true] at hg
    exact hg.2
   obtain ⟨s1, g1, g2, g3, g4⟩ := go_putR hS g.2.l 1 m s hok (al_kids hal) (by omega) (by omega) hf h.core h.uni h.set_
   exact ⟨s1, g1, g2, g3, fun j j1 j2 => g4 j (by omega) (by omega)⟩
theorem go_end {s : InSt} {e : Bool} {i : Ins} {n : Nat} (hl : s.ended = false) (hu : s.uni = 0) (hs : s.set = 0) (hsl : if e then 0 ≤ s.slots else s.slots < 0) (hi : insMay i = true) (ho : (i.op = 22 ∧ i.n = n) ∨ (i.op = 24 ∧ n = 2) ∨ (i.op = 25 ∧ n = 0)) (hx : ∀ j : Nat, 1 ≤ j → j ≤ n → s.x.getD j false = true) :
  ∃ s', s.run ((if e then [⟨20, ⟨#[]⟩, 0, 0, 0⟩] else []) ++ [i]) = some s' ∧ s'.ended = true := by
 have key : ∀ t : InSt, t.ended = false → t.uni = 0 → t.set = 0 → t.slots < 0 → (∀ j : Nat, 1 ≤ j → j ≤ n → t.x.getD j false = true) → ∃ s', t.run [i] = some s' ∧ s'.ended = true := by
  intro t t1 t2 t3 t4 t5
  have ha := args_ok t5
  have hst : t.step i = (true, { t with ended := true }) := by
   rw [step_flow t1 t2 t3 (by omega)]
   unfold InSt.flow
   rcases ho with ⟨h1, h2⟩ | ⟨h1, h2⟩ | ⟨h1, h2⟩
   ·rw [if_neg (by omega), if_neg (by omega), if_pos h1]
    unfold InSt.end_
    rw [h2, ha]
    simp [t4]
   ·rw [if_neg (by omega), if_neg (by omega), if_neg (by omega), if_pos h1]
    unfold InSt.end_
    rw [h2] at ha
    rw [show ((2 : Nat) : Int) = 2 from rfl] at ha
    rw [ha]
    simp [t4]
   ·rw [if_neg (by omega), if_neg (by omega), if_neg (by omega), if_neg (by omega), if_pos h1]
    unfold InSt.end_
    rw [h2] at ha
    rw [show ((0 : Nat) : Int) = 0 from rfl] at ha
    rw [ha]
    simp [t4]
  exact ⟨_, by rw [run_one hi (by rw [hst]), hst], rfl⟩
 cases e with
 | false => exact key s hl hu hs (by simpa using hsl) hx
 | true =>
  have hsl2 : 0 ≤ s.slots := by simpa using hsl
  have hst : s.step ⟨20, ⟨#[]⟩, 0, 0, 0⟩ = (true, { (s.clearY 0) with slots := -1 }) := by
   rw [step_env hl hu hs (.inr rfl)]
   unfold InSt.env
   simp [hsl2]
  obtain ⟨s', k1, k2⟩ := key { (s.clearY 0) with slots := -1 } hl hu hs (show (-1 : Int) < 0 by decide) hx
  refine ⟨s', ?_, k2⟩
  simp only [if_true]
  rw [run_app, run_one may_20 (by rw [hst]), hst]
  exact k1
theorem full_add {m : Mk} {i : Ins} (h : (m.add i).full = false) : m.full = false := by
 unfold Mk.full at h ⊢
 rw [Bool.or_eq_false_iff] at h ⊢
 have h2 : (m.add i).out.length = m.out.length + 1 := by simp [Mk.add]
 rw [h2] at h
 have h3 := of_decide_eq_false h.2
 exact ⟨h.1, decide_eq_false (by omega)⟩
theorem leave_out (p : PlanV) (m : Mk) : (leaveF p m).out = m.out ++ (if p.env then [⟨20, ⟨#[]⟩, 0, 0, 0⟩] else []) := by
 unfold leaveF
 cases p.env <;> simp [Mk.add]
theorem inv_slots (_hp : Plan c) {k : Nat} {m : Mk} {s : InSt} (h : Inv c k m s) : if (planF c).env then 0 ≤ s.slots else s.slots < 0 := by
 rw [h.slots]
 have := live_bd (slotsF c) (k - 1)
 cases (planF c).env
 ·simp
 ·simp only [if_true]
  split <;> omega
theorem cnt_cons (g : Int × Tm) (r : List (Int × Tm)) : cnt (g :: r) = (if g.1 = 2 then 0 else 1) + cnt r := by
 unfold cnt
 by_cases h : g.1 = 2
 ·simp [h]
 ·simp [h]
  omega
theorem cnt_zero : ∀ {r : List (Int × Tm)}, cnt r = 0 → r ≠ [] → (r.getLast?.map (·.1)) = some 2
 | [], _, h => absurd rfl h
 | [g], h, _ => by
  rw [cnt_cons] at h
  have : g.1 = 2 := by
   by_cases e : g.1 = 2
   ·exact e
   ·rw [if_neg e] at h; omega
  simp [this]
 | g :: g2 :: r, h, _ => by
  rw [cnt_cons] at h
  have := cnt_zero (r := g2 :: r) (by omega) (by simp)
  simpa using this
theorem live_get {k : Nat} (h : k < (gathF c).2) : (planF c).live.getD k 0 = liveF (slotsF c) k := by
 have : (planF c).live = (List.range (gathF c).2).map fun i => liveF (slotsF c) i := rfl
 rw [this, List.getD_eq_getElem?_getD, List.getElem?_map, List.getElem?_range h]
 rfl
theorem ex_goals (p : PlanV) : ∀ (gs : List (Int × Tm)) (k : Nat) (last : Bool) (m : Mk), m.next ≤ (goalsF p gs k last m).next ∧ ∃ d, (goalsF p gs k last m).out = m.out ++ d := by
 intro gs
 induction gs with
 | nil =>
  intro k last m
  simp only [goalsF]
  cases last
  ·obtain ⟨h0, d, h1, _⟩ := ex_leave p m
   exact ⟨h0, d ++ [⟨25, ⟨#[]⟩, 0, 0, 0⟩], by simp only [Bool.false_eq_true, if_false, Mk.add]; rw [h1, List.append_assoc]⟩
  ·exact ⟨Int.le_refl _, [], by simp⟩
 | cons g r ih =>
  intro k last m
  simp only [goalsF]
  split
  ·obtain ⟨h0, d, h1⟩ := ih (k + 1) r.isEmpty (callF p m g (if r.isEmpty then -1 else p.live.getD k 0))
   have hc : ∀ lv : Int, m.next ≤ (callF p m g lv).next ∧ ∃ d, (callF p m g lv).out = m.out ++ d := by
    intro lv
    obtain ⟨a0, da, a1, _⟩ := ex_args p m g
    obtain ⟨b0, db, b1, _⟩ := (ex_args p m g).trans (ex_leave p (argsF p m g))
    unfold callF
    simp only
    split
    ·split
     ·exact ⟨a0, da ++ [_], by simp only [Mk.add]; rw [a1, List.append_assoc]⟩
     ·exact ⟨a0, da ++ [_], by simp only [Mk.add]; rw [a1, List.append_assoc]⟩
    ·split
     ·exact ⟨b0, db ++ [_], by simp only [Mk.add]; rw [b1, List.append_assoc]⟩
     ·exact ⟨b0, db ++ [_], by simp only [Mk.add]; rw [b1, List.append_assoc]⟩
   obtain ⟨c0, dc, c1⟩ := hc (if r.isEmpty then -1 else p.live.getD k 0)
   exact ⟨Int.le_trans c0 h0, dc ++ d, by rw [h1, c1, List.append_assoc]⟩
  ·split
   ·obtain ⟨h0, d, h1⟩ := ih k last (m.add ⟨28, ⟨#[]⟩, 0, 0, 0⟩)
    exact ⟨h0, [⟨28, ⟨#[]⟩, 0, 0, 0⟩] ++ d, by rw [h1]; simp [Mk.add]⟩
   ·obtain ⟨h0, d, h1⟩ := ih k last (m.add ⟨29, ⟨#[]⟩, 0, -p.level, 0⟩)
    exact ⟨h0, [⟨29, ⟨#[]⟩, 0, -p.level, 0⟩] ++ d, by rw [h1]; simp [Mk.add]⟩
theorem go_goals (hp : Plan c) : ∀ (gs : List (Int × Tm)) (k : Nat) (m : Mk) (s : InSt), (∃ pre, c.gs = pre ++ gs) → (gathF c).2 = k + cnt gs → Fit (gathF c).1 gs k → (goalsF (planF c) gs k false m).full = false → Inv c k m s →
  ∃ d s', (goalsF (planF c) gs k false m).out = m.out ++ d ∧ s.run d = some s' ∧ s'.ended = true
 | [], k, m, s, _, _, _, _, h => by
  obtain ⟨s', h1, h2⟩ := go_end (s := s) (e := (planF c).env) (i := ⟨25, ⟨#[]⟩, 0, 0, 0⟩) (n := 0) h.core.en h.uni h.set_ (inv_slots hp h) may_25 (.inr (.inr ⟨rfl, rfl⟩)) (fun j h1 h2 => by omega)
  refine ⟨_, s', ?_, h1, h2⟩
  simp only [goalsF, Bool.false_eq_true, if_false, Mk.add]
  rw [leave_out, List.append_assoc]
 | g :: r, k, m, s, hpre, hcnt, hfit, hf, h => by
  obtain ⟨pre, hpre⟩ := hpre
  have hgm : g ∈ c.gs := by rw [hpre]; simp
  obtain ⟨go, gk1, gk2⟩ := hp.good.g g hgm
  obtain ⟨f1, f2, f3⟩ := hfit
  rw [cnt_cons] at hcnt
  simp only [goalsF] at hf ⊢
  by_cases hg : g.1 = 2
  ·rw [if_neg (fun e => e hg)] at hf ⊢
   rw [if_pos hg] at hcnt f3
   by_cases hk : k = 0
   ·rw [if_pos hk] at hf ⊢
    have hst := step_neck (i := ⟨28, ⟨#[]⟩, 0, 0, 0⟩) h.core.en h.uni h.set_ rfl
    have hca : s.calls = false := by rw [h.calls, hk]; rfl
    obtain ⟨d, s', g1, g2, g3⟩ := go_goals hp r k _ s ⟨pre ++ [g], by rw [hpre]; simp⟩ (by omega) f3 hf (h.code ⟨28, ⟨#[]⟩, 0, 0, 0⟩)
    refine ⟨[⟨28, ⟨#[]⟩, 0, 0, 0⟩] ++ d, s', by rw [g1]; simp [Mk.add], ?_, g3⟩
    rw [run_app, run_one may_28 (by rw [hst, hca]; rfl), hst]
    exact g2
   ·rw [if_neg hk] at hf ⊢
    obtain ⟨x, x1, x2, x3⟩ := f1 (.inr ⟨hg, by omega⟩)
    have hl := lev_pos ⟨x, x1, x2⟩
    have hkn := h.lev hl ⟨x, x1, x2, x3⟩
    have hst := step_cut (i := ⟨29, ⟨#[]⟩, 0, -(planF c).level, 0⟩) h.core.en h.uni h.set_ rfl
    obtain ⟨d, s', g1, g2, g3⟩ := go_goals hp r k _ s ⟨pre ++ [g], by rw [hpre]; simp⟩ (by omega) f3 hf (h.code ⟨29, ⟨#[]⟩, 0, -(planF c).level, 0⟩)
    refine ⟨[⟨29, ⟨#[]⟩, 0, -(planF c).level, 0⟩] ++ d, s', by rw [g1]; simp [Mk.add], ?_, g3⟩
    rw [run_app, run_one (may_29 (lev_bd hp.good hl)) (by rw [hst]; simp only; rw [hkn]; simp; omega), hst]
    exact g2
  ·rw [if_pos hg] at hf ⊢
   rw [if_neg hg] at hcnt f3
   cases r with
   | nil =>
    simp only [List.isEmpty_nil, if_true, goalsF] at hf ⊢
    unfold callF at hf ⊢
    simp only at hf ⊢
    rw [if_neg (by decide)] at hf ⊢
    have hfa : (argsF (planF c) m g).full = false := by
     by_cases h1 : g.1 = 1
     ·rw [if_pos h1] at hf
      exact (show Ex (argsF (planF c) m g) (leaveF (planF c) (argsF (planF c) m g)) from ex_leave _ _).full (full_add hf)
     ·rw [if_neg h1] at hf
      exact (show Ex (argsF (planF c) m g) (leaveF (planF c) (argsF (planF c) m g)) from ex_leave _ _).full (full_add hf)
    obtain ⟨s1, a1, a2, a3, a4⟩ := go_args hp go ⟨gk1, gk2, hg⟩ (fun e => f1 (.inl e)) (f2 hg) hfa h
    have hi1 := h.go a1 a2 a3
    obtain ⟨da, d1, d2, _, _⟩ := a1
    by_cases h1 : g.1 = 1
    ·rw [if_pos h1] at hf ⊢
     have har : arN g = g.2.l.length := by unfold arN; rw [if_pos h1]
     rw [har] at a4
     obtain ⟨s', e1, e2⟩ := go_end (s := s1) (e := (planF c).env) (i := ⟨22, g.2.s, g.2.l.length, 0, 0⟩) (n := g.2.l.length) hi1.core.en a2 a3 (inv_slots hp hi1) (may_22 (ok_len go).2 ⟨by omega, by have := (ok_len go).1; omega⟩) (.inl ⟨rfl, rfl⟩) a4
     refine ⟨da ++ ((if (planF c).env then [⟨20, ⟨#[]⟩, 0, 0, 0⟩] else []) ++ [⟨22, g.2.s, g.2.l.length, 0, 0⟩]), s', ?_, ?_, e2⟩
     ·simp only [Mk.add]
      rw [leave_out, d1]
      simp
     ·rw [run_app, d2]
      exact e1
    ·rw [if_neg h1] at hf ⊢
     have har : arN g = 2 := by unfold arN; rw [if_neg h1]
     rw [har] at a4
     obtain ⟨s', e1, e2⟩ := go_end (s := s1) (e := (planF c).env) (i := ⟨24, ⟨#[]⟩, 0, 0, 0⟩) (n := 2) hi1.core.en a2 a3 (inv_slots hp hi1) may_24 (.inr (.inl ⟨rfl, rfl⟩)) a4
     refine ⟨da ++ ((if (planF c).env then [⟨20, ⟨#[]⟩, 0, 0, 0⟩] else []) ++ [⟨24, ⟨#[]⟩, 0, 0, 0⟩]), s', ?_, ?_, e2⟩
     ·simp only [Mk.add]
      rw [leave_out, d1]
      simp
     ·rw [run_app, d2]
      exact e1
   | cons g2 r =>
    have hkK : k < (gathF c).2 := by omega
    simp only [List.isEmpty_cons, Bool.false_eq_true, if_false] at hf ⊢
    rw [live_get hkK] at hf ⊢
    have hlv := live_bd (slotsF c) k
    have henv : (planF c).env = true := by
     cases he : (planF c).env with
     | true => rfl
     | false =>
      exfalso
      obtain ⟨_, _, n3, n4⟩ := no_env hp he
      have hz : cnt (g2 :: r) = 0 := by omega
      have h1 : (gathF c).2 = 1 := by omega
      apply n4 h1
      have := cnt_zero hz (by simp)
      rw [hpre]
      simpa using this
    have hf2 : (callF (planF c) m g (liveF (slotsF c) k)).full = false := by
     obtain ⟨_, d, q2⟩ := ex_goals (planF c) (g2 :: r) (k + 1) false (callF (planF c) m g (liveF (slotsF c) k))
     have q0 := (ex_goals (planF c) (g2 :: r) (k + 1) false (callF (planF c) m g (liveF (slotsF c) k))).1
     unfold Mk.full at hf ⊢
     simp only [Bool.or_eq_false_iff, decide_eq_false_iff_not] at hf ⊢
     rw [q2, List.length_append] at hf
     omega
    -- the call itself
    have hcall : ∃ i, callF (planF c) m g (liveF (slotsF c) k) = (argsF (planF c) m g).add i ∧ insMay i = true ∧ (i.op = 21 ∧ i.n = arN g ∨ i.op = 23 ∧ arN g = 2) ∧ i.a = liveF (slotsF c) k := by
     have hs64 := hp.good.s
     unfold callF arN
     simp only
     rw [if_pos hlv.1]
     by_cases h1 : g.1 = 1
     ·rw [if_pos h1, if_pos h1]
      exact ⟨_, rfl, may_21 ⟨hlv.1, by omega⟩ (ok_len go).2 ⟨by omega, by have := (ok_len go).1; omega⟩, .inl ⟨rfl, rfl⟩, rfl⟩
     ·rw [if_neg h1, if_neg h1]
      exact ⟨_, rfl, may_23 ⟨hlv.1, by omega⟩, .inr ⟨rfl, rfl⟩, rfl⟩
    obtain ⟨i, ci, hmay, hop, hia⟩ := hcall
    rw [ci] at hf hf2 ⊢
    have hfa : (argsF (planF c) m g).full = false := by
     exact full_add hf2
    obtain ⟨s1, a1, a2, a3, a4⟩ := go_args hp go ⟨gk1, gk2, hg⟩ (fun e => f1 (.inl e)) (f2 hg) hfa h
    have hi1 := h.go a1 a2 a3
    obtain ⟨da, d1, d2, _, _⟩ := a1
    obtain ⟨q1, q2, q3⟩ := call_inv hp hi1 henv
    have hargs := args_ok a4
    have hst : s1.step i = (true, { (s1.clearX.clearY (liveF (slotsF c) k + 1).toNat) with slots := liveF (slotsF c) k, calls := true }) := by
     rw [step_flow hi1.core.en a2 a3 (by omega)]
     unfold InSt.flow
     rcases hop with ⟨o1, o2⟩ | ⟨o1, o2⟩
     ·rw [if_pos o1]
      unfold InSt.call
      rw [o2, hia, hargs]
      simp [q1, q2]
     ·rw [if_neg (by omega), if_pos o1]
      unfold InSt.call
      rw [o2] at hargs
      rw [show ((2 : Nat) : Int) = 2 from rfl] at hargs
      rw [hia, hargs]
      simp [q1, q2]
    obtain ⟨d, s', g1, g2', g3⟩ := go_goals hp (g2 :: r) (k + 1) ((argsF (planF c) m g).add i) _ ⟨pre ++ [g], by rw [hpre]; simp⟩ (by omega) f3 hf (q3.code i)
    refine ⟨da ++ ([i] ++ d), s', ?_, ?_, g3⟩
    ·rw [g1]
     simp only [Mk.add]
     rw [d1]
     simp
    ·rw [run_app, d2]
     show s1.run ([i] ++ d) = some s'
     rw [run_app, run_one hmay (by rw [hst]), hst]
     exact g2'
end Go.El
