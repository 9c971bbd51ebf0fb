/- Layer 17, plain: a piece of code that a maker adds may stand where it stands. No program in sight. -/
import Derived.Test.YtmnnhdegoapfcaaGreatDoorP11
import Derived.Test.YtmnnhdegoapfcaaGreatDoorP17
namespace Go.El
theorem run_app : ∀ (l d : List Ins) (s : InSt), s.run (l ++ d) = (s.run l).bind fun t => t.run d
 | [], _, _ => rfl
 | i :: r, d, s => by
  simp only [List.cons_append, InSt.run]
  split
  ·exact run_app r d _
  ·rfl
theorem run_one {s : InSt} {i : Ins} (h1 : insMay i = true) (h2 : (s.step i).1 = true) : s.run [i] = some (s.step i).2 := by
 simp [InSt.run, h1, h2]
theorem step_low {s : InSt} {i : Ins} (he : s.ended = false) (hu : s.uni = 0) (hs : s.set = 0) (ho : i.op ≤ 5) : s.step i = s.get i := by
 unfold InSt.step
 rw [he, if_neg (by decide), if_neg (by omega), if_neg (by omega), if_neg (by omega), if_pos ho]
theorem step_uni {s : InSt} {i : Ins} (he : s.ended = false) (ho : 6 ≤ i.op ∧ i.op ≤ 9) : s.step i = s.rowU i := by
 unfold InSt.step
 rw [he, if_neg (by decide), if_pos ho]
theorem step_set {s : InSt} {i : Ins} (he : s.ended = false) (ho : 15 ≤ i.op ∧ i.op ≤ 18) : s.step i = s.rowS i := by
 unfold InSt.step
 rw [he, if_neg (by decide), if_neg (by omega), if_pos ho]
theorem step_put {s : InSt} {i : Ins} (he : s.ended = false) (hu : s.uni = 0) (hs : s.set = 0) (ho : 10 ≤ i.op ∧ i.op ≤ 14) : s.step i = s.store i := by
 unfold InSt.step
 rw [he, if_neg (by decide), if_neg (by omega), if_neg (by omega), if_neg (by omega), if_neg (by omega), if_pos (by omega)]
theorem getD_set {l : List Bool} {j : Nat} (hj : j < l.length) (k : Nat) : (l.set j true).getD k false = if k = j then true else l.getD k false := by
 simp only [List.getD_eq_getElem?_getD, List.getElem?_set]
 by_cases h : j = k
 ·subst h
  simp [hj]
 ·rw [if_neg h, if_neg (fun e => h e.symm)]
structure Mono (s s' : InSt) : Prop where
 x : ∀ j, s.x.getD j false = true → s'.x.getD j false = true
 y : ∀ j, s.y.getD j false = true → s'.y.getD j false = true
 sl : s'.slots = s.slots
 ca : s'.calls = s.calls
theorem Mono.refl (s : InSt) : Mono s s := ⟨fun _ h => h, fun _ h => h, rfl, rfl⟩
theorem Mono.trans {a b c : InSt} (h : Mono a b) (g : Mono b c) : Mono a c := ⟨fun j k => g.x j (h.x j k), fun j k => g.y j (h.y j k), g.sl.trans h.sl, g.ca.trans h.ca⟩
theorem Mono.known {s s' : InSt} (h : Mono s s') {v : Int} (hv : s.known v = true) : s'.known v = true := by
 unfold InSt.known at hv ⊢
 split at hv
 ·next h0 => rw [if_pos h0]; exact h.x _ hv
 ·next h0 =>
  rw [if_neg h0]
  split at hv
  ·cases hv
  ·next h1 => rw [h.sl, if_neg h1]; exact h.y _ hv
structure Alv where
 al : Int → Prop
 me : Int → Prop
 am : ∀ n, al n → me n
instance : CoeFun Alv (fun _ => Int → Prop) := ⟨Alv.al⟩
instance : Coe Alv (Int → Prop) := ⟨Alv.al⟩
structure Core (S : List Int) (al : Alv) (m : Mk) (s : InSt) : Prop where
 lx : s.x.length = 256
 ly : s.y.length = 65
 en : s.ended = false
 kn : ∀ n v, findR n m.regs = some v → al n → s.known v = true
 rg : ∀ n v, findR n m.regs = some v → -64 ≤ v ∧ v ≠ 0 ∧ v ≤ m.next ∧ al.me n ∧ (v < 0 → slotN S n = some v) ∧ (0 < v → slotN S n = none)
 sl : ∀ n v, slotN S n = some v → al n → -s.slots ≤ v
 nx : 0 ≤ m.next
theorem slotN_range {S : List Int} (hS : S.length ≤ 64) {n v : Int} (h : slotN S n = some v) : -64 ≤ v ∧ v < 0 := by
 unfold slotN at h
 cases hi : S.findIdx? (fun x => decide (x = n)) with
 | none => rw [hi] at h; cases h
 | some i =>
  rw [hi] at h
  injection h with h
  have h2 : -(i : Int) - 1 = v := h
  have := (List.findIdx?_eq_some_iff_getElem.1 hi).1
  omega
theorem findR_app (n : Int) : ∀ (l : List (Int × Int)) (p : Int × Int), findR n (l ++ [p]) = match findR n l with
  | some v => some v
  | none => if p.1 = n then some p.2 else none
 | [], p => by simp [findR]
 | q :: l, p => by
  simp only [List.cons_append, findR]
  split
  ·rfl
  ·exact findR_app n l p
theorem Core.mono {S : List Int} {al : Alv} {m : Mk} {s s' : InSt} (h : Core S al m s) (g : Mono s s') (lx : s'.x.length = 256) (ly : s'.y.length = 65) (en : s'.ended = false) : Core S al m s' :=
 ⟨lx, ly, en, fun n v hf ha => g.known (h.kn n v hf ha), h.rg, fun n v hs ha => by rw [g.sl]; exact h.sl n v hs ha, h.nx⟩
theorem Core.code {S : List Int} {al : Alv} {m : Mk} {s : InSt} (h : Core S al m s) (i : Ins) : Core S al (m.add i) s := ⟨h.lx, h.ly, h.en, h.kn, h.rg, h.sl, h.nx⟩
theorem learn_ok {S : List Int} {al : Alv} {m : Mk} {s : InSt} (h : Core S al m s) {v : Int} (h1 : -64 ≤ v ∧ v ≤ 255 ∧ v ≠ 0) (h2 : v < 0 → -s.slots ≤ v) :
  (s.learn v).1 = true ∧ Mono s (s.learn v).2 ∧ (s.learn v).2.known v = true ∧ (s.learn v).2.x.length = 256 ∧ (s.learn v).2.y.length = 65 ∧ (s.learn v).2.ended = false ∧ (s.learn v).2.uni = s.uni ∧ (s.learn v).2.set = s.set ∧ (s.learn v).2.put = s.put := by
 unfold InSt.learn
 by_cases h0 : 0 < v
 ·rw [if_pos h0]
  have hj : v.toNat < s.x.length := by rw [h.lx]; omega
  refine ⟨rfl, ⟨fun j hj2 => ?_, fun j hj => hj, rfl, rfl⟩, ?_, by simp [h.lx], h.ly, h.en, rfl, rfl, rfl⟩
  ·simp only
   rw [getD_set hj]
   split
   ·rfl
   ·exact hj2
  ·unfold InSt.known
   rw [if_pos h0]
   simp only
   rw [getD_set hj, if_pos rfl]
 ·have hs := h2 (by omega)
  rw [if_neg h0, if_neg (by omega)]
  have hj : (-v).toNat < s.y.length := by rw [h.ly]; omega
  refine ⟨rfl, ⟨fun j hj => hj, fun j hj2 => ?_, rfl, rfl⟩, ?_, h.lx, by simp [h.ly], h.en, rfl, rfl, rfl⟩
  ·simp only
   rw [getD_set hj]
   split
   ·rfl
   ·exact hj2
  ·unfold InSt.known
   rw [if_neg h0]
   simp only
   rw [if_neg (by omega), getD_set hj, if_pos rfl]
def vstep (s : InSt) (fi : Bool) (v : Int) : Bool × InSt := if fi then s.learn v else (s.known v, s)
structure Vok (S : List Int) (al : Alv) (m' : Mk) (s : InSt) (r : Bool × InSt) : Prop where
 ok : r.1 = true
 core : Core S al m' r.2
 mono : Mono s r.2
 uni : r.2.uni = s.uni
 set_ : r.2.set = s.set
 put : r.2.put = s.put
theorem pick_ok {S : List Int} {al : Alv} {m : Mk} {s : InSt} (hS : S.length ≤ 64) (h : Core S al m s) {n : Int} (ha : al n) (hf : (m.pick S n).2.2.next ≤ 255) :
  (-64 ≤ (m.pick S n).1 ∧ (m.pick S n).1 ≤ 255 ∧ (m.pick S n).1 ≠ 0) ∧ Vok S al (m.pick S n).2.2 s (vstep s (m.pick S n).2.1 (m.pick S n).1) := by
 unfold Mk.pick at hf ⊢
 cases hr : findR n m.regs with
 | some v =>
  simp only [hr] at hf ⊢
  obtain ⟨r1, r2, r3, _⟩ := h.rg n v hr
  exact ⟨⟨r1, by omega, r2⟩, ⟨h.kn n v hr ha, h, .refl s, rfl, rfl, rfl⟩⟩
 | none =>
  simp only [hr] at hf ⊢
  have key : ∀ (v : Int) (m1 : Mk), m1.regs = m.regs ++ [(n, v)] → m.next ≤ m1.next → v ≤ m1.next → (-64 ≤ v ∧ v ≤ 255 ∧ v ≠ 0) → (v < 0 → -s.slots ≤ v) → (v < 0 → slotN S n = some v) → (0 < v → slotN S n = none) → Vok S al m1 s (vstep s true v) := by
   intro v m1 hm hn hvn hv hsl hs1 hs2
   obtain ⟨l1, l2, l3, l4, l5, l6, l7, l8, l9⟩ := learn_ok h hv hsl
   refine ⟨l1, ⟨l4, l5, l6, fun n' v' hf ha' => ?_, fun n' v' hf => ?_, fun n' v' hs ha' => ?_, by have := h.nx; omega⟩, l2, l7, l8, l9⟩
   ·rw [hm, findR_app] at hf
    cases hq : findR n' m.regs with
    | some u =>
     rw [hq] at hf
     injection hf with hf
     subst hf
     exact l2.known (h.kn n' u hq ha')
    | none =>
     rw [hq] at hf
     simp only at hf
     split at hf
     ·injection hf with hf
      subst hf
      exact l3
     ·cases hf
   ·rw [hm, findR_app] at hf
    cases hq : findR n' m.regs with
    | some u =>
     rw [hq] at hf
     injection hf with hf
     subst hf
     obtain ⟨r1, r2, r3, r4⟩ := h.rg n' u hq
     exact ⟨r1, r2, by omega, r4⟩
    | none =>
     rw [hq] at hf
     simp only at hf
     split at hf
     ·next hnn =>
      injection hf with hf
      have hnn : n = n' := hnn
      have hf : v = v' := hf
      subst hf hnn
      exact ⟨hv.1, hv.2.2, hvn, al.am _ ha, hs1, hs2⟩
     ·cases hf
   ·show -(s.learn v).2.slots ≤ v'
    rw [l2.sl]
    exact h.sl n' v' hs ha'
  cases hs : slotN S n with
  | some v =>
   simp only [hs] at hf ⊢
   have hr := slotN_range hS hs
   have hv : -64 ≤ v ∧ v ≤ 255 ∧ v ≠ 0 := ⟨hr.1, by omega, by omega⟩
   exact ⟨hv, key v _ rfl (Int.le_refl _) (by have := h.nx; show v ≤ m.next; omega) hv (fun _ => h.sl n v hs ha) (fun _ => hs) (fun h => by omega)⟩
  | none =>
   simp only [hs] at hf ⊢
   have hn0 := h.nx
   simp only [Mk.take] at hf ⊢
   have hv : -64 ≤ m.next + 1 ∧ m.next + 1 ≤ 255 ∧ m.next + 1 ≠ 0 := ⟨by omega, hf, by omega⟩
   exact ⟨hv, key _ _ rfl (by show m.next ≤ m.next + 1; omega) (by show m.next + 1 ≤ m.next + 1; omega) hv (fun h => by omega) (fun h => by omega) (fun _ => hs)⟩
end Go.El

/- Layer 17, plain: heads' arguments and calls' arguments are right code. No program in sight. -/
namespace Go.El
theorem part_comp {n : Int} {s : ByteArray} {m : Nat} (h : partK 4 n s m = true) : n = 0 ∧ s.size ≤ 64 ∧ 1 ≤ m ∧ m ≤ 16 := by
 simpa [partK] using h
theorem part_atom {n : Int} {s : ByteArray} {m : Nat} (h : partK 3 n s m = true) : n = 0 ∧ s.size ≤ 64 ∧ m = 0 := by
 simpa [partK] using h
theorem part_int {n : Int} {s : ByteArray} {m : Nat} (h : partK 2 n s m = true) : -9007199254740991 ≤ n ∧ n ≤ 9007199254740991 ∧ s.size = 0 ∧ m = 0 := by
 simpa [partK] using h
def Go1 (S : List Int) (al : Alv) (m m' : Mk) (s s' : InSt) : Prop := ∃ d, m'.out = m.out ++ d ∧ s.run d = some s' ∧ Core S al m' s' ∧ Mono s s'
theorem Go1.core {S : List Int} {al : Alv} {m m' : Mk} {s s' : InSt} (h : Go1 S al m m' s s') : Core S al m' s' := by
 obtain ⟨_, _, _, h, _⟩ := h
 exact h
theorem Go1.mono {S : List Int} {al : Alv} {m m' : Mk} {s s' : InSt} (h : Go1 S al m m' s s') : Mono s s' := by
 obtain ⟨_, _, _, _, h⟩ := h
 exact h
theorem Go1.refl {S : List Int} {al : Alv} {m : Mk} {s : InSt} (h : Core S al m s) : Go1 S al m m s s := ⟨[], by simp, rfl, h, .refl s⟩
theorem Go1.trans {S : List Int} {al : Alv} {a b c : Mk} {s t u : InSt} (h : Go1 S al a b s t) (g : Go1 S al b c t u) : Go1 S al a c s u := by
 obtain ⟨d, h1, h2, _, h4⟩ := h
 obtain ⟨e, g1, g2, g3, g4⟩ := g
 exact ⟨d ++ e, by rw [g1, h1, List.append_assoc], by rw [run_app, h2]; exact g2, g3, h4.trans g4⟩
theorem Go1.one {S : List Int} {al : Alv} {m m' : Mk} {s s' : InSt} {i : Ins} (ho : m'.out = m.out ++ [i]) (h1 : insMay i = true) (h2 : (s.step i).1 = true) (h3 : (s.step i).2 = s') (hc : Core S al m' s') (hm : Mono s s') : Go1 S al m m' s s' :=
 ⟨[i], ho, by rw [run_one h1 h2, h3], hc, hm⟩
mutual
def alT (al : Int → Prop) : Tm → Prop
 | .mk k n _ l => (k = 1 → al n) ∧ alL al l
def alL (al : Int → Prop) : List Tm → Prop
 | [] => True
 | a :: r => alT al a ∧ alL al r
end
theorem alL_mem {al : Int → Prop} : ∀ {l : List Tm} {t : Tm}, alL al l → t ∈ l → alT al t
 | [], _, _, h => by cases h
 | a :: r, t, h, hm => by
  rcases List.mem_cons.1 hm with rfl | hm
  ·exact h.1
  ·exact alL_mem h.2 hm
theorem okL_mem : ∀ {l : List Tm} {t : Tm}, okL l = true → t ∈ l → okT t = true
 | [], _, _, h => by cases h
 | a :: r, t, h, hm => by
  simp only [okL, Bool.and_eq_true] at h
  rcases List.mem_cons.1 hm with rfl | hm
  ·exact h.1
  ·exact okL_mem h.2 hm
variable {S : List Int} {al : Alv}
theorem simple_cases {t : Tm} (hk : okT t = true) :
  (t.k = 4 ∧ t.s.size ≤ 64 ∧ 1 ≤ t.l.length ∧ t.l.length ≤ 16 ∧ okL t.l = true ∧ ∀ (m : Mk) o a, m.simple S t o a = none) ∨
  (t.k = 1 ∧ ∀ (m : Mk) o a, m.simple S t o a = some ((m.pick S t.n).2.2.add ⟨if (m.pick S t.n).2.1 then o else o + 1, ⟨#[]⟩, 0, (m.pick S t.n).1, a⟩)) ∨
  (t.k = 3 ∧ t.s.size ≤ 64 ∧ ∀ (m : Mk) o a, m.simple S t o a = some (m.add ⟨o + 2, t.s, 0, 0, a⟩)) ∨
  (t.k = 2 ∧ (-9007199254740991 ≤ t.n ∧ t.n ≤ 9007199254740991) ∧ ∀ (m : Mk) o a, m.simple S t o a = some (m.add ⟨o + 3, ⟨#[]⟩, t.n, 0, a⟩)) := by
 obtain ⟨k, n, s, l⟩ := t
 simp only [okT, Bool.and_eq_true] at hk
 obtain ⟨hp, hl⟩ := hk
 by_cases h1 : k = 1
 ·subst h1
  exact .inr (.inl ⟨rfl, fun m o a => by unfold Mk.simple; rw [if_pos (show (Tm.mk 1 n s l).k = 1 from rfl)]⟩)
 by_cases h3 : k = 3
 ·subst h3
  exact .inr (.inr (.inl ⟨rfl, (part_atom hp).2.1, fun m o a => by unfold Mk.simple; rw [if_neg (show ¬ (Tm.mk 3 n s l).k = 1 from (by decide : ¬ (3 : Int) = 1)), if_pos (show (Tm.mk 3 n s l).k = 3 from rfl)]⟩))
 by_cases h2 : k = 2
 ·subst h2
  obtain ⟨q1, q2, _⟩ := part_int hp
  exact .inr (.inr (.inr ⟨rfl, ⟨q1, q2⟩, fun m o a => by unfold Mk.simple; rw [if_neg (show ¬ (Tm.mk 2 n s l).k = 1 from (by decide : ¬ (2 : Int) = 1)), if_neg (show ¬ (Tm.mk 2 n s l).k = 3 from (by decide : ¬ (2 : Int) = 3)), if_pos (show (Tm.mk 2 n s l).k = 2 from rfl)]⟩))
 by_cases h4 : k = 4
 ·subst h4
  obtain ⟨_, q1, q2, q3⟩ := part_comp hp
  exact .inl ⟨rfl, q1, q2, q3, hl, fun m o a => by unfold Mk.simple; rw [if_neg (show ¬ (Tm.mk 4 n s l).k = 1 from (by decide : ¬ (4 : Int) = 1)), if_neg (show ¬ (Tm.mk 4 n s l).k = 3 from (by decide : ¬ (4 : Int) = 3)), if_neg (show ¬ (Tm.mk 4 n s l).k = 2 from (by decide : ¬ (4 : Int) = 2))]⟩
 ·exfalso
  simp [partK, h1, h2, h3, h4] at hp
theorem al_var {al : Int → Prop} {t : Tm} (h : alT al t) (hk : t.k = 1) : al t.n := by
 obtain ⟨k, n, s, l⟩ := t
 exact h.1 hk
theorem al_kids {al : Int → Prop} {t : Tm} (h : alT al t) : alL al t.l := by
 obtain ⟨k, n, s, l⟩ := t
 exact h.2
theorem nx_of_full {m : Mk} (h : m.full = false) : m.next ≤ 255 := by
 unfold Mk.full at h
 simp only [Bool.or_eq_false_iff, decide_eq_false_iff_not] at h
 omega
theorem next_add (m : Mk) (i : Ins) : (m.add i).next = m.next := rfl
theorem rowV_uni (s : InSt) (fi : Bool) (v : Int) : s.rowV ⟨if fi then 6 else 7, ⟨#[]⟩, 0, v, 0⟩ = vstep s fi v := by
 cases fi <;> rfl
theorem rowV_set (s : InSt) (fi : Bool) (v : Int) : s.rowV ⟨if fi then 15 else 16, ⟨#[]⟩, 0, v, 0⟩ = vstep s fi v := by
 cases fi <;> rfl
theorem may_var {o : Int} (ho : o = 6 ∨ o = 15) (fi : Bool) {v : Int} (hv : -64 ≤ v ∧ v ≤ 255 ∧ v ≠ 0) : insMay ⟨if fi then o else o + 1, ⟨#[]⟩, 0, v, 0⟩ = true := by
 rcases ho with rfl | rfl <;> cases fi
 ·exact may_7 hv
 ·exact may_6 hv
 ·exact may_16 hv
 ·exact may_15 hv
theorem may_vara {o : Int} (ho : o = 1 ∨ o = 10) (fi : Bool) {v a : Int} (hv : -64 ≤ v ∧ v ≤ 255 ∧ v ≠ 0) (ha : 1 ≤ a ∧ a ≤ 255) : insMay ⟨if fi then o else o + 1, ⟨#[]⟩, 0, v, a⟩ = true := by
 rcases ho with rfl | rfl <;> cases fi
 ·exact may_2 hv ha
 ·exact may_1 hv ha
 ·exact may_11 hv ha
 ·exact may_10 hv ha
structure Wait (al : Int → Prop) (s : InSt) (x : Tm × Int) : Prop where
 r : 1 ≤ x.2 ∧ x.2 ≤ 255
 kn : s.x.getD x.2.toNat false = true
 ok : okT x.1 = true
 al : alT al x.1
 k : x.1.k = 4
theorem Wait.mono {al : Int → Prop} {s s' : InSt} {x : Tm × Int} (h : Wait al s x) (g : Mono s s') : Wait al s' x := ⟨h.r, g.x _ h.kn, h.ok, h.al, h.k⟩
theorem rowU_eq {s : InSt} {i : Ins} {u : Nat} (hu : s.uni = (u : Int) + 1) : s.rowU i = ({ s with uni := (u : Int) } : InSt).rowV i := by
 unfold InSt.rowU
 rw [if_neg (by omega)]
 have : s.uni - 1 = (u : Int) := by omega
 rw [this]
theorem core_uni {m : Mk} {s : InSt} (h : Core S al m s) (u : Int) : Core S al m { s with uni := u } := h.mono ⟨fun _ h => h, fun _ h => h, rfl, rfl⟩ h.lx h.ly h.en
theorem mono_uni (s : InSt) (u : Int) : Mono s { s with uni := u } := ⟨fun _ h => h, fun _ h => h, rfl, rfl⟩
theorem go_uniS (hS : S.length ≤ 64) : ∀ (l : List Tm) (m : Mk) (s : InSt), okL l = true → alL al l → (m.uniS S l).1.next ≤ 255 → Core S al m s → s.uni = l.length → s.set = 0 →
  ∃ s', Go1 S al m (m.uniS S l).1 s s' ∧ s'.uni = 0 ∧ s'.set = 0 ∧ ∀ x ∈ (m.uniS S l).2, Wait al s' x
 | [], m, s, _, _, _, hc, hu, hs => ⟨s, .refl hc, by simpa using hu, hs, fun x hx => by cases hx⟩
 | t :: r, m, s, hok, hal, hn, hc, hu, hs => by
  simp only [okL, Bool.and_eq_true] at hok
  have hu1 : s.uni = (r.length : Int) + 1 := by rw [hu]; simp
  have hc0 := core_uni hc (r.length : Int)
  have hm0 := mono_uni s (r.length : Int)
  simp only [Mk.uniS] at hn ⊢
  rcases simple_cases (S := S) hok.1 with ⟨k4, q1, q2, q3, q4, hsi⟩ | ⟨k1, hsi⟩ | ⟨k3, q1, hsi⟩ | ⟨k2, q1, hsi⟩
  ·simp only [hsi] at hn ⊢
   have hnn := (ex_uniS S r (m.take.add ⟨6, ⟨#[]⟩, 0, m.next + 1, 0⟩)).1
   simp only [next_add, Mk.take] at hnn
   have h0 := hc.nx
   have hv : -64 ≤ m.next + 1 ∧ m.next + 1 ≤ 255 ∧ m.next + 1 ≠ 0 := ⟨by omega, by simp only [Mk.take] at hn; omega, by omega⟩
   obtain ⟨l1, l2, l3, l4, l5, l6, l7, l8, l9⟩ := learn_ok hc0 hv (fun h => by omega)
   have hcn : Core S al (m.take.add ⟨6, ⟨#[]⟩, 0, m.next + 1, 0⟩) (({ s with uni := (r.length : Int) } : InSt).learn (m.next + 1)).2 :=
    ⟨l4, l5, l6, fun n v hf ha => l2.known (hc0.kn n v hf ha), fun n v hf => by obtain ⟨r1, r2, r3, r4⟩ := hc0.rg n v hf; exact ⟨r1, r2, by simp only [next_add, Mk.take]; omega, r4⟩, fun n v hs ha => by rw [l2.sl]; exact hc0.sl n v hs ha, by simp only [next_add, Mk.take]; omega⟩
   have hst : s.step ⟨6, ⟨#[]⟩, 0, m.next + 1, 0⟩ = ({ s with uni := (r.length : Int) } : InSt).learn (m.next + 1) := by
    rw [step_uni hc.en ⟨by simp, by simp⟩, rowU_eq hu1]
    rfl
   have g1 : Go1 S al m (m.take.add ⟨6, ⟨#[]⟩, 0, m.next + 1, 0⟩) s (({ s with uni := (r.length : Int) } : InSt).learn (m.next + 1)).2 :=
    .one rfl (may_6 hv) (by rw [hst]; exact l1) (by rw [hst]) hcn (hm0.trans l2)
   obtain ⟨s', g2, g3, g4, g5⟩ := go_uniS hS r _ _ hok.2 hal.2 hn hcn (by rw [l7]) (by rw [l8]; exact hs)
   refine ⟨s', g1.trans g2, g3, g4, fun x hx => ?_⟩
   rcases List.mem_cons.1 hx with rfl | hx
   ·refine ⟨⟨by simp only; omega, by simp only; exact hv.2.1⟩, ?_, hok.1, hal.1, k4⟩
    have h3 := l3
    unfold InSt.known at h3
    rw [if_pos (by omega)] at h3
    exact g2.mono.x _ h3
   ·exact g5 x hx
  ·simp only [hsi] at hn ⊢
   have hnn := (ex_uniS S r ((m.pick S t.n).2.2.add ⟨if (m.pick S t.n).2.1 then 6 else 6 + 1, ⟨#[]⟩, 0, (m.pick S t.n).1, 0⟩)).1
   simp only [next_add] at hnn
   obtain ⟨hv, vk⟩ := pick_ok hS hc0 (al_var hal.1 k1) (by omega)
   have hst : s.step ⟨if (m.pick S t.n).2.1 then 6 else 6 + 1, ⟨#[]⟩, 0, (m.pick S t.n).1, 0⟩ = vstep ({ s with uni := (r.length : Int) } : InSt) (m.pick S t.n).2.1 (m.pick S t.n).1 := by
    rw [step_uni hc.en (by cases (m.pick S t.n).2.1 <;> simp), rowU_eq hu1]
    exact rowV_uni _ _ _
   have g1 := Go1.one (S := S) (al := al) (m := m) (m' := (m.pick S t.n).2.2.add ⟨if (m.pick S t.n).2.1 then 6 else 6 + 1, ⟨#[]⟩, 0, (m.pick S t.n).1, 0⟩) (s := s) (by simp only [Mk.add]; rw [pick_out]) (may_var (.inl rfl) _ hv) (by rw [hst]; exact vk.ok) rfl (by rw [hst]; exact vk.core.code _) (by rw [hst]; exact hm0.trans vk.mono)
   rw [hst] at g1
   obtain ⟨s', g2, g3, g4, g5⟩ := go_uniS hS r _ _ hok.2 hal.2 hn g1.core (by rw [vk.uni]) (by rw [vk.set_]; exact hs)
   exact ⟨s', g1.trans g2, g3, g4, g5⟩
  ·simp only [hsi] at hn ⊢
   have hst : s.step ⟨6 + 2, t.s, 0, 0, 0⟩ = (true, { s with uni := (r.length : Int) }) := by
    rw [step_uni hc.en ⟨by simp, by simp⟩, rowU_eq hu1]
    rfl
   have g1 : Go1 S al m (m.add ⟨6 + 2, t.s, 0, 0, 0⟩) s { s with uni := (r.length : Int) } := .one rfl (may_8 q1) (by rw [hst]) (by rw [hst]) (hc0.code _) hm0
   obtain ⟨s', g2, g3, g4, g5⟩ := go_uniS hS r _ _ hok.2 hal.2 hn g1.core rfl hs
   exact ⟨s', g1.trans g2, g3, g4, g5⟩
  ·simp only [hsi] at hn ⊢
   have hst : s.step ⟨6 + 3, ⟨#[]⟩, t.n, 0, 0⟩ = (true, { s with uni := (r.length : Int) }) := by
    rw [step_uni hc.en ⟨by simp, by simp⟩, rowU_eq hu1]
    rfl
   have g1 : Go1 S al m (m.add ⟨6 + 3, ⟨#[]⟩, t.n, 0, 0⟩) s { s with uni := (r.length : Int) } := .one rfl (may_9 q1) (by rw [hst]) (by rw [hst]) (hc0.code _) hm0
   obtain ⟨s', g2, g3, g4, g5⟩ := go_uniS hS r _ _ hok.2 hal.2 hn g1.core rfl hs
   exact ⟨s', g1.trans g2, g3, g4, g5⟩
theorem go_queue (hS : S.length ≤ 64) : ∀ (f : Nat) (m : Mk) (q : List (Tm × Int)) (s : InSt), (m.queue S f q).full = false → Core S al m s → s.uni = 0 → s.set = 0 → (∀ x ∈ q, Wait al s x) →
  ∃ s', Go1 S al m (m.queue S f q) s s' ∧ s'.uni = 0 ∧ s'.set = 0
 | 0, m, _, s, _, hc, hu, hs, _ => ⟨s, .refl hc, hu, hs⟩
 | _ + 1, m, [], s, _, hc, hu, hs, _ => ⟨s, .refl hc, hu, hs⟩
 | f + 1, m, x :: q, s, hf, hc, hu, hs, hw => by
  simp only [Mk.queue] at hf ⊢
  by_cases hm : m.full = true
  ·rw [if_pos hm]
   exact ⟨s, .refl hc, hu, hs⟩
  ·rw [if_neg hm] at hf ⊢
   have hx := hw x (by simp)
   have hfs := (ex_queue S f (m.struc S x).1 (q ++ (m.struc S x).2)).full hf
   rcases simple_cases (S := S) hx.ok with ⟨k4, q1, q2, q3, q4, _⟩ | ⟨k1, _⟩ | ⟨k1, _⟩ | ⟨k1, _⟩
   ·have hst : s.step ⟨5, x.1.s, x.1.l.length, 0, x.2⟩ = (true, { s with uni := (x.1.l.length : Int) }) := by
     rw [step_low hc.en hu hs (by simp)]
     unfold InSt.get
     simp only
     rw [if_neg (by decide), if_neg (by decide), if_pos trivial, hx.kn]
    have g1 : Go1 S al m (m.add ⟨5, x.1.s, x.1.l.length, 0, x.2⟩) s { s with uni := (x.1.l.length : Int) } := .one rfl (may_5 hx.r q1 (by omega)) (by rw [hst]) (by rw [hst]) ((core_uni hc _).code _) (mono_uni s _)
    obtain ⟨s1, g2, g3, g4, g5⟩ := go_uniS hS x.1.l _ _ q4 (al_kids hx.al) (nx_of_full hfs) g1.core rfl hs
    have g6 := g1.trans g2
    obtain ⟨s', g7, g8, g9⟩ := go_queue hS f _ _ s1 hf g6.core g3 g4 (fun y hy => by
     rcases List.mem_append.1 hy with h | h
     ·exact (hw y (List.mem_cons_of_mem _ h)).mono g6.mono
     ·exact g5 y h)
    exact ⟨s', g6.trans g7, g8, g9⟩
   all_goals
    have := hx.k
    omega
theorem go_get (hS : S.length ≤ 64) {m : Mk} {t : Tm} {a : Int} {s : InSt} (hok : okT t = true) (hal : alT al t) (ha : 1 ≤ a ∧ a ≤ 255) (hf : (m.get S t a).full = false) (hc : Core S al m s) (hu : s.uni = 0) (hs : s.set = 0) (hx : s.x.getD a.toNat false = true) :
  ∃ s', Go1 S al m (m.get S t a) s s' ∧ s'.uni = 0 ∧ s'.set = 0 := by
 unfold Mk.get at hf ⊢
 rcases simple_cases (S := S) hok with ⟨k4, q1, q2, q3, q4, hsi⟩ | ⟨k1, hsi⟩ | ⟨k3, q1, hsi⟩ | ⟨k2, q1, hsi⟩
 ·simp only [hsi] at hf ⊢
  exact go_queue hS _ m _ s hf hc hu hs (fun x hm => by
   simp at hm
   subst hm
   exact ⟨ha, hx, hok, hal, k4⟩)
 ·simp only [hsi] at hf ⊢
  have hn := nx_of_full hf
  simp only [next_add] at hn
  obtain ⟨hv, vk⟩ := pick_ok hS hc (al_var hal k1) hn
  have hst : s.step ⟨if (m.pick S t.n).2.1 then 1 else 1 + 1, ⟨#[]⟩, 0, (m.pick S t.n).1, a⟩ = vstep s (m.pick S t.n).2.1 (m.pick S t.n).1 := by
   rw [step_low hc.en hu hs (by cases (m.pick S t.n).2.1 <;> simp)]
   unfold InSt.get vstep
   simp only [hx]
   cases (m.pick S t.n).2.1 <;> simp
  have g1 := Go1.one (S := S) (al := al) (m := m) (m' := (m.pick S t.n).2.2.add ⟨if (m.pick S t.n).2.1 then 1 else 1 + 1, ⟨#[]⟩, 0, (m.pick S t.n).1, a⟩) (s := s) (by simp only [Mk.add]; rw [pick_out]) (may_vara (.inl rfl) _ hv ha) (by rw [hst]; exact vk.ok) rfl (by rw [hst]; exact vk.core.code _) (by rw [hst]; exact vk.mono)
  rw [hst] at g1
  exact ⟨_, g1, by rw [vk.uni, hu], by rw [vk.set_, hs]⟩
 ·simp only [hsi] at hf ⊢
  have hst : s.step ⟨1 + 2, t.s, 0, 0, a⟩ = (true, s) := by
   rw [step_low hc.en hu hs (by simp)]
   unfold InSt.get
   simp only
   rw [if_neg (by decide), if_neg (by decide), if_neg (by decide), hx]
  exact ⟨s, .one rfl (may_3 ha q1) (by rw [hst]) (by rw [hst]) (hc.code _) (.refl s), hu, hs⟩
 ·simp only [hsi] at hf ⊢
  have hst : s.step ⟨1 + 3, ⟨#[]⟩, t.n, 0, a⟩ = (true, s) := by
   rw [step_low hc.en hu hs (by simp)]
   unfold InSt.get
   simp only
   rw [if_neg (by decide), if_neg (by decide), if_neg (by decide), hx]
  exact ⟨s, .one rfl (may_4 ha q1) (by rw [hst]) (by rw [hst]) (hc.code _) (.refl s), hu, hs⟩
end Go.El
