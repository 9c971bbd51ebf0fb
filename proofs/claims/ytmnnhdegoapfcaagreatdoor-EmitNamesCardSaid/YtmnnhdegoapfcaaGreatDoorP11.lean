/- Layer 17, plain: code calls what the clause's goals call, in order, and cuts as often as it has cuts. No program in sight. -/
import Derived.Test.YtmnnhdegoapfcaaGreatDoorP10
import Derived.Test.YtmnnhdegoapfcaaGreatDoorP09
namespace Go.El
def isCall (i : Ins) : Bool := i.op == 21 || i.op == 22 || i.op == 23 || i.op == 24 || i.op == 28 || i.op == 29
def forG (g : Int × Tm) (i : Ins) : Bool :=
 if g.1 = 2 then i.op == 28 || i.op == 29
 else if g.1 = 1 then (i.op == 21 || i.op == 22) && decide (i.s = g.2.s) && decide (i.n = g.2.l.length)
 else i.op == 23 || i.op == 24
def matchG : List (Int × Tm) → List Ins → Bool
 | [], [] => true
 | g :: gs, i :: l => isCall i && forG g i && matchG gs l
 | _, _ => false
def Ex (m m' : Mk) : Prop := m.next ≤ m'.next ∧ ∃ d, m'.out = m.out ++ d ∧ d.filter isCall = []
theorem Ex.refl (m : Mk) : Ex m m := ⟨Int.le_refl _, [], by simp, rfl⟩
theorem Ex.trans {a b c : Mk} (h : Ex a b) (g : Ex b c) : Ex a c := by
 obtain ⟨h0, d, h1, h2⟩ := h
 obtain ⟨g0, e, g1, g2⟩ := g
 exact ⟨Int.le_trans h0 g0, d ++ e, by rw [g1, h1, List.append_assoc], by rw [List.filter_append, h2, g2]; rfl⟩
theorem Ex.add {m : Mk} {i : Ins} (h : isCall i = false) : Ex m (m.add i) := ⟨Int.le_refl _, [i], rfl, by simp [h]⟩
theorem Ex.out {a b b' : Mk} (h : Ex a b) (hb : b'.out = b.out) (hn : b.next ≤ b'.next) : Ex a b' := by
 obtain ⟨h0, d, h1, h2⟩ := h
 exact ⟨Int.le_trans h0 hn, d, by rw [hb, h1], h2⟩
theorem Ex.full {a b : Mk} (h : Ex a b) (hb : b.full = false) : a.full = false := by
 obtain ⟨h0, d, h1, _⟩ := h
 unfold Mk.full at hb ⊢
 simp only [Bool.or_eq_false_iff, decide_eq_false_iff_not] at hb ⊢
 rw [h1, List.length_append] at hb
 omega
theorem pick_out (S : List Int) (m : Mk) (n : Int) : (m.pick S n).2.2.out = m.out := by
 unfold Mk.pick
 split
 ·rfl
 ·split <;> rfl
theorem pick_next (S : List Int) (m : Mk) (n : Int) : m.next ≤ (m.pick S n).2.2.next := by
 unfold Mk.pick
 split
 ·exact Int.le_refl _
 ·split
  ·exact Int.le_refl _
  ·simp only [Mk.take]; omega
theorem take_next (m : Mk) : m.next ≤ m.take.next := by simp only [Mk.take]; omega
theorem ex_simple {S : List Int} {m m' : Mk} {t : Tm} {o a : Int} (ho : o = 1 ∨ o = 6 ∨ o = 10 ∨ o = 15) (h : m.simple S t o a = some m') : Ex m m' := by
 unfold Mk.simple at h
 split at h
 ·injection h with h
  subst h
  refine Ex.trans ((Ex.refl m).out (pick_out S m t.n) (pick_next S m t.n)) (.add ?_)
  rcases ho with rfl | rfl | rfl | rfl <;> (simp only [isCall]; split <;> rfl)
 ·split at h
  ·injection h with h
   subst h
   refine .add ?_
   rcases ho with rfl | rfl | rfl | rfl <;> rfl
  ·split at h
   ·injection h with h
    subst h
    refine .add ?_
    rcases ho with rfl | rfl | rfl | rfl <;> rfl
   ·cases h
theorem ex_uniS (S : List Int) : ∀ (l : List Tm) (m : Mk), Ex m (m.uniS S l).1
 | [], m => .refl m
 | t :: r, m => by
  simp only [Mk.uniS]
  cases h : m.simple S t 6 0 with
  | some m' => exact (ex_simple (by simp) h).trans (ex_uniS S r m')
  | none => exact Ex.trans (Ex.trans (show Ex m m.take from (Ex.refl m).out rfl (take_next m)) (.add (m := m.take) rfl)) (ex_uniS S r _)
theorem ex_queue (S : List Int) : ∀ (f : Nat) (m : Mk) (q : List (Tm × Int)), Ex m (m.queue S f q)
 | 0, m, _ => .refl m
 | _ + 1, m, [] => .refl m
 | f + 1, m, x :: q => by
  simp only [Mk.queue]
  split
  ·exact .refl m
  ·exact Ex.trans (Ex.trans (Ex.add rfl) (ex_uniS S x.1.l _)) (ex_queue S f _ _)
theorem ex_get (S : List Int) (m : Mk) (t : Tm) (a : Int) : Ex m (m.get S t a) := by
 unfold Mk.get
 cases h : m.simple S t 1 a with
 | some m' => exact ex_simple (by simp) h
 | none => exact ex_queue S _ m _
theorem ex_setS (S : List Int) : ∀ (l : List (Tm × Int)) (m : Mk), Ex m (setS S m l)
 | [], m => .refl m
 | x :: r, m => by
  simp only [setS]
  cases h : m.simple S x.1 15 0 with
  | some m' => exact (ex_simple (by simp) h).trans (ex_setS S r _)
  | none => exact Ex.trans (Ex.add rfl) (ex_setS S r _)
mutual
theorem ex_putT (S : List Int) : ∀ (t : Tm) (a : Int) (m : Mk), Ex m (putT S t a m)
 | .mk k n s l, a, m => by
  simp only [putT]
  cases h : m.simple S (.mk k n s l) 10 a with
  | some m' => exact ex_simple (by simp) h
  | none =>
   simp only
   split
   ·exact .refl m
   ·exact Ex.trans (Ex.trans (ex_putL S l m) (Ex.add rfl)) (ex_setS S _ _)
theorem ex_putL (S : List Int) : ∀ (l : List Tm) (m : Mk), Ex m (putL S l m).1
 | [], m => .refl m
 | t :: r, m => by
  simp only [putL]
  split
  ·exact Ex.trans (Ex.trans (show Ex m m.take from (Ex.refl m).out rfl (take_next m)) (ex_putT S t _ m.take)) (ex_putL S r _)
  ·exact ex_putL S r m
end
theorem ex_putR (S : List Int) : ∀ (l : List Tm) (a : Int) (m : Mk), Ex m (putR S l a m)
 | [], _, m => .refl m
 | t :: r, a, m => by
  simp only [putR]
  exact (ex_putT S t a m).trans (ex_putR S r _ _)
theorem ex_head (S : List Int) : ∀ (l : List Tm) (a : Int) (m : Mk), Ex m (headF S l a m)
 | [], _, m => .refl m
 | t :: r, a, m => by
  simp only [headF]
  exact (ex_get S m t a).trans (ex_head S r _ _)
theorem ex_args (p : PlanV) (m : Mk) (g : Int × Tm) : Ex m (argsF p m g) := by
 unfold argsF
 split
 ·exact (ex_putT _ _ _ _).trans (Ex.add rfl)
 ·split
  ·exact (ex_putT _ _ _ _).trans (Ex.add rfl)
  ·exact ex_putR _ _ _ _
theorem ex_leave (p : PlanV) (m : Mk) : Ex m (leaveF p m) := by
 unfold leaveF
 split
 ·exact Ex.add rfl
 ·exact .refl m
theorem call_one (p : PlanV) (m : Mk) (g : Int × Tm) (live : Int) (hg : g.1 ≠ 2) : ∃ d i, (callF p m g live).out = m.out ++ d ++ [i] ∧ d.filter isCall = [] ∧ isCall i = true ∧ forG g i = true := by
 unfold callF
 obtain ⟨_, d, h1, h2⟩ := ex_args p m g
 obtain ⟨_, e, h3, h4⟩ := (ex_args p m g).trans (ex_leave p (argsF p m g))
 simp only
 split
 ·split
  ·next hk => exact ⟨d, _, by simp only [Mk.add]; rw [h1], h2, rfl, by simp [forG, hk]⟩
  ·next hk => exact ⟨d, _, by simp only [Mk.add]; rw [h1], h2, rfl, by simp [forG, hk, hg]⟩
 ·split
  ·next hk => exact ⟨e, _, by simp only [Mk.add]; rw [h3], h4, rfl, by simp [forG, hk]⟩
  ·next hk => exact ⟨e, _, by simp only [Mk.add]; rw [h3], h4, rfl, by simp [forG, hk, hg]⟩
theorem calls_goals (p : PlanV) : ∀ (gs : List (Int × Tm)) (k : Nat) (last : Bool) (m : Mk), ∃ d, (goalsF p gs k last m).out = m.out ++ d ∧ matchG gs (d.filter isCall) = true
 | [], k, last, m => by
  simp only [goalsF]
  cases last
  ·obtain ⟨_, d, h1, h2⟩ := (ex_leave p m).trans (Ex.add (m := leaveF p m) (i := ⟨25, ⟨#[]⟩, 0, 0, 0⟩) rfl)
   exact ⟨d, h1, by rw [h2]; rfl⟩
  ·exact ⟨[], by simp, rfl⟩
 | g :: r, k, last, m => by
  simp only [goalsF]
  by_cases hg : g.1 ≠ 2
  ·rw [if_pos hg]
   obtain ⟨d, i, h1, h2, h3, h4⟩ := call_one p m g (if r.isEmpty then -1 else p.live.getD k 0) hg
   obtain ⟨e, g1, g2⟩ := calls_goals p r (k + 1) r.isEmpty (callF p m g (if r.isEmpty then -1 else p.live.getD k 0))
   refine ⟨d ++ [i] ++ e, by rw [g1, h1]; simp, ?_⟩
   rw [List.filter_append, List.filter_append, h2]
   simp [h3, matchG, h4, g2]
  ·have hg2 : g.1 = 2 := Decidable.byContradiction hg
   rw [if_neg hg]
   split
   ·obtain ⟨e, g1, g2⟩ := calls_goals p r k last (m.add ⟨28, ⟨#[]⟩, 0, 0, 0⟩)
    refine ⟨[⟨28, ⟨#[]⟩, 0, 0, 0⟩] ++ e, by rw [g1]; simp [Mk.add], ?_⟩
    simp [isCall, matchG, forG, hg2, g2]
   ·obtain ⟨e, g1, g2⟩ := calls_goals p r k last (m.add ⟨29, ⟨#[]⟩, 0, -p.level, 0⟩)
    refine ⟨[⟨29, ⟨#[]⟩, 0, -p.level, 0⟩] ++ e, by rw [g1]; simp [Mk.add], ?_⟩
    simp [isCall, matchG, forG, hg2, g2]
theorem ex_start (c : Cls) : (startF c).out.filter isCall = [] := by
 unfold startF
 simp only
 split <;> split <;> rfl
theorem comp_calls {c : Cls} (h : (compF c).2 = 0) : matchG c.gs ((compF c).1.filter isCall) = true := by
 unfold compF at h ⊢
 split at h
 ·next h1 => exact absurd h h1
 ·next h1 =>
  rw [if_neg h1]
  split at h
  ·cases h
  ·next h2 =>
   rw [if_neg h2]
   simp only
   unfold makeF
   obtain ⟨d, g1, g2⟩ := calls_goals (planF c) c.gs 0 false (headF (planF c).slots c.h.l 1 (startF c))
   obtain ⟨_, e, g3, g4⟩ := ex_head (planF c).slots c.h.l 1 (startF c)
   rw [g1, g3, List.filter_append, List.filter_append, ex_start, g4]
   exact g2
end Go.El

/- Layer 14, plain: clauses out of terms (the document's answer); names of variables do not matter. No program in sight. -/
namespace Go.El
def comB : ByteArray := ⟨#[44]⟩
def truB : ByteArray := ⟨#[116, 114, 117, 101]⟩
def nckB : ByteArray := ⟨#[58, 45]⟩
def cutB : ByteArray := ⟨#[33]⟩
def semB : ByteArray := ⟨#[59]⟩
def ifB : ByteArray := ⟨#[45, 62]⟩
def notB : ByteArray := ⟨#[92, 43]⟩
def tm0 : Tm := .mk 0 0 ⟨#[]⟩ []
def isC (t : Tm) (s : ByteArray) (n : Int) : Bool := decide (t.k = 4) && (decide (t.s = s) && decide ((t.l.length : Int) = n))
def flatN : Nat → Tm → List Tm
 | 0, _ => []
 | N + 1, t => if isC t comB 2 = true then flatN N (t.l.getD 0 tm0) ++ flatN N (t.l.getD 1 tm0) else if t.k = 3 ∧ t.s = truB then [] else [t]
def goalK (t : Tm) : Int := if t.k = 1 then 4 else if t.k = 3 ∧ t.s = cutB then 2 else if isC t semB 2 = true ∨ isC t ifB 2 = true ∨ isC t notB 1 = true then 3 else 1
def bodyF (t : Tm) : Option (List (Int × Tm)) :=
 if chkT t ≠ 0 then none else if 64 < (flatN (szT t) t).length then none
 else if ((flatN (szT t) t).any fun x => decide (x.k = 2)) = true then none
 else some ((flatN (szT t) t).map fun x => (goalK x, x))
def headT (u : Tm) : Tm := if isC u nckB 2 = true then u.l.getD 0 tm0 else u
def bodyT (u : Tm) : Tm := if isC u nckB 2 = true then u.l.getD 1 tm0 else .mk 3 0 truB []
def fromF (bi : ByteArray → Int → Bool) (t : Tm) : Option Cls :=
 if chkT t ≠ 0 then none
 else if 64 < (flatN (szT (bodyT (rnT t []))) (bodyT (rnT t []))).length then none
 else if (headT (rnT t [])).k = 1 then none
 else if (headT (rnT t [])).k = 2 then none
 else if bi (headT (rnT t [])).s (headT (rnT t [])).l.length = true then none
 else (bodyF (bodyT (rnT t []))).map fun gs => ⟨headT (rnT t []), gs, (vsT t []).length⟩
theorem isC_iff {t : Tm} {s : ByteArray} {n : Int} : isC t s n = true ↔ t.k = 4 ∧ t.s = s ∧ (t.l.length : Int) = n := by
 unfold isC
 simp
theorem isC_get {t : Tm} {s : ByteArray} (h : isC t s 2 = true) : ∃ a b, t.l = [a, b] ∧ t.l.getD 0 tm0 = a ∧ t.l.getD 1 tm0 = b ∧ t.l[0]? = some a ∧ t.l[1]? = some b := by
 obtain ⟨_, _, h2⟩ := isC_iff.1 h
 match hl : t.l with
 | [] => rw [hl] at h2; simp at h2
 | [a] => rw [hl] at h2; simp at h2
 | [a, b] => exact ⟨a, b, rfl, rfl, rfl, rfl, rfl⟩
 | a :: b :: c :: r => rw [hl] at h2; simp at h2; omega
theorem may_chk {t : Tm} : mayT t = true ↔ chkT t = 0 := by
 unfold mayT
 simp
theorem flat_may : ∀ (N : Nat) (t : Tm), mayT t = true → ∀ u ∈ flatN N t, mayT u = true
 | 0, t, _, u, hu => by simp [flatN] at hu
 | N + 1, t, h, u, hu => by
  simp only [flatN] at hu
  split at hu
  ·next hc =>
   obtain ⟨a, b, hl, e1, e2, g1, g2⟩ := isC_get hc
   rw [e1, e2] at hu
   rcases List.mem_append.1 hu with hu | hu
   ·exact flat_may N a (mayT_get h g1) u hu
   ·exact flat_may N b (mayT_get h g2) u hu
  ·split at hu
   ·simp at hu
   ·simp at hu
    subst hu
    exact h
theorem chk_true : chkT (.mk 3 0 truB []) = 0 := by decide +kernel
theorem may_true : mayT (.mk 3 0 truB []) = true := may_chk.2 chk_true
theorem head_may {u : Tm} (h : mayT u = true) : mayT (headT u) = true := by
 unfold headT
 split
 ·next hc =>
  obtain ⟨a, b, hl, e1, e2, g1, g2⟩ := isC_get hc
  rw [e1]
  exact mayT_get h g1
 ·exact h
theorem body_may {u : Tm} (h : mayT u = true) : mayT (bodyT u) = true := by
 unfold bodyT
 split
 ·next hc =>
  obtain ⟨a, b, hl, e1, e2, g1, g2⟩ := isC_get hc
  rw [e2]
  exact mayT_get h g2
 ·exact may_true
theorem goalK_in (t : Tm) : 1 ≤ goalK t ∧ goalK t ≤ 4 := by
 unfold goalK
 split
 ·omega
 ·split
  ·omega
  ·split <;> omega
theorem fstNo_all : ∀ {l : List Int}, (∀ e ∈ l, e = 0) → fstNo l = 0
 | [], _ => rfl
 | e :: l, h => by
  have he := h e (by simp)
  subst he
  simp only [fstNo, if_true]
  exact fstNo_all (fun x hx => h x (List.mem_cons_of_mem _ hx))
theorem may_kind {t : Tm} (h : mayT t = true) (h1 : t.k ≠ 1) (h2 : t.k ≠ 2) : ¬ t.k < 3 := by
 obtain ⟨ho, _⟩ := mayT_iff.1 h
 obtain ⟨k, n, s, l⟩ := t
 simp only [okT, Bool.and_eq_true] at ho
 simp only [Tm.k] at h1 h2 ⊢
 have := ho.1
 unfold partK at this
 rw [if_neg h1, if_neg h2] at this
 by_cases h3 : k = 3
 ·omega
 ·rw [if_neg h3] at this
  by_cases h4 : k = 4
  ·omega
  ·rw [if_neg h4] at this
   cases this
theorem from_may {bi : ByteArray → Int → Bool} {t : Tm} {c : Cls} (h : fromF bi t = some c) : mayC c = 0 := by
 unfold fromF at h
 split at h
 ·cases h
 next h0 =>
 split at h
 ·cases h
 next h1 =>
 split at h
 ·cases h
 next h2 =>
 split at h
 ·cases h
 next h3 =>
 split at h
 ·cases h
 next h4 =>
 have hm : mayT t = true := may_chk.2 (by simpa using h0)
 have hu : mayT (rnT t []) = true := rnT_may hm (by simp)
 generalize rnT t [] = u at *
 unfold bodyF at h
 rw [if_neg h1] at h
 split at h
 ·cases h
 split at h
 ·cases h
 injection h with h
 subst h
 have hf := flat_may (szT (bodyT u)) (bodyT u) (body_may hu)
 generalize flatN (szT (bodyT u)) (bodyT u) = l at *
 have hz : fstNo (chkT (headT u) :: (l.map fun x => (goalK x, x)).map fun g => chkT g.2) = 0 := by
  refine fstNo_all (fun e he => ?_)
  rcases List.mem_cons.1 he with he | he
  ·rw [he]; exact may_chk.1 (head_may hu)
  ·simp only [List.map_map, List.mem_map, Function.comp_apply] at he
   obtain ⟨x, hx, rfl⟩ := he
   exact may_chk.1 (hf x hx)
 unfold mayC
 simp only
 rw [hz, if_neg (by simp), if_neg]
 rintro (h | h | h)
 ·simp only [List.any_map, List.any_eq_true, Function.comp_apply, Bool.or_eq_true, decide_eq_true_eq] at h
  obtain ⟨x, hx, h⟩ := h
  have := goalK_in x
  omega
 ·exact may_kind (head_may hu) h2 h3 h
 ·rw [List.length_map] at h
  omega
theorem from_names (bi : ByteArray → Int → Bool) {f : Int → Int} (hf : ∀ x y, f x = f y → x = y) {t : Tm} (h : chkT t = 0) (h2 : chkT (rpT f (rnT t [])) = 0) : fromF bi (rpT f (rnT t [])) = fromF bi t := by
 have e1 := names_same hf t
 have e2 : (vsT (rpT f (rnT t [])) []).length = (vsT t []).length := by
  have h1 := ((rp_pair f hf).1 (rnT t []) []).2
  simp only [List.map_nil] at h1
  have h3 := (rn_again _ t (Nat.le_refl _) []).2
  simp only [List.length_nil] at h3
  have h4 : rng 0 = [] := rfl
  rw [h4] at h3
  rw [h1, h3, List.length_map, rng_len]
 unfold fromF
 rw [e1, e2, h, h2]
mutual
theorem rp_size (f : Int → Int) : ∀ t : Tm, okT t = true → szT (rpT f t) = szT t ∧ dpT (rpT f t) = dpT t
 | .mk k n s l, h => by
  simp only [okT, Bool.and_eq_true] at h
  simp only [rpT]
  by_cases hk : k = 1
  ·subst hk
   have := (part_var h.1).2.2.2
   have hl : l = [] := List.eq_nil_of_length_eq_zero this
   subst hl
   simp [szT, szL, dpT, dpL]
  ·rw [if_neg hk]
   have := rpL_size f l h.2
   simp [szT, dpT, this.1, this.2.1]
theorem rpL_size (f : Int → Int) : ∀ l : List Tm, okL l = true → szL (rpL f l) = szL l ∧ dpL (rpL f l) = dpL l ∧ (rpL f l).length = l.length
 | [], _ => ⟨rfl, rfl, rfl⟩
 | a :: r, h => by
  simp only [okL, Bool.and_eq_true] at h
  have h1 := rp_size f a h.1
  have h2 := rpL_size f r h.2
  simp [rpL, szL, dpL, h1.1, h1.2, h2.1, h2.2.1, h2.2.2]
end
theorem addV_pref (n : Int) (l : List Int) : l <+: addV n l := by
 unfold addV
 split
 ·exact List.prefix_refl _
 ·exact List.prefix_append _ _
mutual
theorem vsT_pref : ∀ (t : Tm) (acc : List Int), acc <+: vsT t acc
 | .mk k n s l, acc => by
  simp only [vsT]
  split
  ·exact addV_pref _ _
  ·exact vsL_pref l acc
theorem vsL_pref : ∀ (l : List Tm) (acc : List Int), acc <+: vsL l acc
 | [], acc => List.prefix_refl _
 | a :: r, acc => by
  simp only [vsL]
  exact (vsT_pref a acc).trans (vsL_pref r _)
end
theorem rpL_len (f : Int → Int) : ∀ l : List Tm, (rpL f l).length = l.length
 | [] => rfl
 | a :: r => by simp [rpL, rpL_len f r]
mutual
theorem rp_ok (f : Int → Int) : ∀ (t : Tm) (acc V : List Int), okT t = true → vsT t acc <+: V → (∀ n ∈ V, 0 ≤ f n ∧ f n < 1073741824) → okT (rpT f t) = true
 | .mk k n s l, acc, V, h, hv, hf => by
  simp only [okT, Bool.and_eq_true] at h
  simp only [rpT]
  by_cases hk : k = 1
  ·subst hk
   simp only [vsT, if_true] at hv
   have := hf n (hv.subset (addV_mem n acc))
   simp only [if_true, okT, okL, Bool.and_true]
   unfold partK
   rw [if_pos rfl]
   exact decide_eq_true ⟨this.1, this.2, rfl, rfl⟩
  ·rw [if_neg hk]
   simp only [vsT, if_neg hk] at hv
   simp only [okT, Bool.and_eq_true]
   exact ⟨by rw [rpL_len]; exact h.1, rpL_ok f l acc V h.2 hv hf⟩
theorem rpL_ok (f : Int → Int) : ∀ (l : List Tm) (acc V : List Int), okL l = true → vsL l acc <+: V → (∀ n ∈ V, 0 ≤ f n ∧ f n < 1073741824) → okL (rpL f l) = true
 | [], _, _, _, _, _ => rfl
 | a :: r, acc, V, h, hv, hf => by
  simp only [okL, Bool.and_eq_true] at h
  simp only [vsL] at hv
  simp only [rpL, okL, Bool.and_eq_true]
  exact ⟨rp_ok f a acc V h.1 ((vsL_pref r (vsT a acc)).trans hv) hf, rpL_ok f r (vsT a acc) V h.2 hv hf⟩
end
theorem rp_chk {f : Int → Int} {t : Tm} (h : chkT t = 0) (hf : ∀ n, 0 ≤ n → n < 4096 → 0 ≤ f n ∧ f n < 1073741824) : chkT (rpT f (rnT t [])) = 0 := by
 have hm := may_chk.2 h
 have hu : mayT (rnT t []) = true := rnT_may hm (by simp)
 obtain ⟨h1, h2, h3⟩ := mayT_iff.1 hu
 obtain ⟨s1, s2⟩ := rp_size f (rnT t []) h1
 have hs := (mayT_iff.1 hm).2.2
 have hvl := (vsT_len t []).1
 have hv := (rn_again _ t (Nat.le_refl _) []).2
 simp only [List.length_nil] at hv hvl
 have hr0 : rng 0 = [] := rfl
 rw [hr0] at hv
 refine may_chk.1 (mayT_iff.2 ⟨rp_ok f _ [] _ h1 (List.prefix_refl _) (fun n hn => ?_), by rw [s2]; exact h2, by rw [s1]; exact h3⟩)
 rw [hv] at hn
 have := rng_mem.1 hn
 exact hf n this.1 (by omega)
end Go.El

/- Layer 6, the reference: the walk of Large. -/
namespace Go.El
mutual
def lgT : Tm → Nat → Nat → Option Nat
 | .mk _ _ s l, d, n => if 6000 < n + 1 + s.size / 16 ∨ 300 < d ∨ 100 < l.length then none else lgL l (d + 1) (n + 1 + s.size / 16)
def lgL : List Tm → Nat → Nat → Option Nat
 | [], _, n => some n
 | a :: r, d, n => (lgT a d n).bind (fun m => lgL r d m)
end
mutual
def fitT : Tm → Bool
 | .mk _ _ s l => decide (s.size ≤ 9223372036854775807) && fitL l
def fitL : List Tm → Bool
 | [] => true
 | t :: r => fitT t && fitL r
end
theorem fitL_get : ∀ {l : List Tm} {j : Nat} {t : Tm}, fitL l = true → l[j]? = some t → fitT t = true
 | [], j, t, _, h => by simp at h
 | a :: r, 0, t, ho, h => by
  simp at h
  subst h
  simp only [fitL, Bool.and_eq_true] at ho
  exact ho.1
 | a :: r, j + 1, t, ho, h => by
  simp only [fitL, Bool.and_eq_true] at ho
  exact fitL_get (l := r) (j := j) ho.2 (by simpa using h)
theorem fitL_of : ∀ {l : List Tm}, (∀ t ∈ l, fitT t = true) → fitL l = true
 | [], _ => rfl
 | t :: r, h => by
  simp only [fitL, Bool.and_eq_true]
  exact ⟨h t (by simp), fitL_of (fun u hu => h u (by simp [hu]))⟩
theorem lgL_take : ∀ {l : List Tm} {j : Nat} {u : Tm} (d n : Nat), l[j]? = some u → lgL (l.take (j + 1)) d n = (lgL (l.take j) d n).bind (fun m => lgT u d m)
 | [], j, u, d, n, h => by simp at h
 | a :: r, 0, u, d, n, h => by
  simp at h
  subst h
  simp [lgL]
 | a :: r, j + 1, u, d, n, h => by
  simp only [List.take_succ_cons, lgL]
  cases lgT a d n with
  | none => rfl
  | some m => exact lgL_take d m (by simpa using h)
theorem lgL_none : ∀ {l : List Tm} {j : Nat} {u : Tm} {d n m : Nat}, lgL (l.take j) d n = some m → l[j]? = some u → lgT u d m = none → lgL l d n = none
 | [], j, u, d, n, m, _, h, _ => by simp at h
 | a :: r, 0, u, d, n, m, h1, h, h2 => by
  simp at h
  simp [lgL] at h1
  subst h h1
  simp [lgL, h2]
 | a :: r, j + 1, u, d, n, m, h1, h, h2 => by
  simp only [List.take_succ_cons, lgL] at h1 ⊢
  cases ha : lgT a d n with
  | none => rfl
  | some k =>
   rw [ha] at h1
   exact lgL_none (l := r) (j := j) h1 (by simpa using h) h2
mutual
theorem lgT_le : ∀ {t : Tm} {d n m : Nat}, lgT t d n = some m → n + szT t ≤ m ∧ m ≤ 6000 ∧ fitT t = true
 | .mk k i s l, d, n, m, h => by
  simp only [lgT] at h
  split at h
  ·cases h
  ·rename_i hn
   have := lgL_le h
   simp only [szT, fitT, Bool.and_eq_true, decide_eq_true_eq]
   exact ⟨by omega, by omega, by omega, this.2.2⟩
theorem lgL_le : ∀ {l : List Tm} {d n m : Nat}, lgL l d n = some m → n + szL l ≤ m ∧ (n ≤ 6000 → m ≤ 6000) ∧ fitL l = true
 | [], d, n, m, h => by
  simp only [lgL, Option.some.injEq] at h
  simp only [szL, fitL]
  exact ⟨by omega, by omega, trivial⟩
 | a :: r, d, n, m, h => by
  simp only [lgL] at h
  cases ha : lgT a d n with
  | none => rw [ha] at h; cases h
  | some k =>
   rw [ha] at h
   have h1 := lgT_le ha
   have h2 := lgL_le (l := r) h
   simp only [szL, fitL, Bool.and_eq_true]
   exact ⟨by omega, by omega, h1.2.2, h2.2.2⟩
end
def bigT (t : Tm) : Bool := (lgT t 0 0).isNone
theorem bigT_no {t : Tm} (h : bigT t = false) : szT t ≤ 6000 := by
 unfold bigT at h
 cases h1 : lgT t 0 0 with
 | none => rw [h1] at h; cases h
 | some m =>
  have := lgT_le h1
  omega
end Go.El
namespace Go.Proofs.YtmnnhdegoapfcaaGreatDoor
open Go.RowKit Go.El
def LgPost (x : Option Nat) (g : Nat) (w : World) (e : Ending) (w' : World) : Prop :=
 (∃ m : Nat, x = some m ∧ e = .returned (.bool false) ∧ Blk w' g 3 #[.int .i64 m] ∧ Mods [g] w w') ∨ (x = none ∧ e = .returned (.bool true) ∧ (∃ m : Int, Blk w' g 3 #[.int .i64 m]) ∧ Mods [g] w w')
set_option maxRecDepth 100000 in
set_option maxHeartbeats 4000000 in
theorem large_any : ∀ (N : Nat) (t : Tm), szT t ≤ N → fitT t = true → ∀ (A : Option Addr) (c : Nat) (w : World) (g : Nat) (D : Nat → Prop) (d n : Nat), TmIn D w t A c → (∀ k, D k → k ≠ g) → Blk w g 3 #[.int .i64 n] → n ≤ 6000 → d ≤ 301 →
  Calls Tryz.prog 31 #[tmVal t A c, .int .i64 d, .pointer (some ⟨g, 0, none⟩)] w (LgPost (lgT t d n) g w)
 | 0, t, h => by
  have := szT_pos t
  omega
 | N + 1, .mk k i s l, hN => by
  intro hft A c w g D d n ht hD hB hn hd
  have IH := large_any N
  simp only [szT] at hN
  simp only [fitT, Bool.and_eq_true, decide_eq_true_eq] at hft
  obtain ⟨hsz, hfl⟩ := hft
  have hglt := hB.lt
  unfold tmVal
  simp only [Tm.k, Tm.n, Tm.s, Tm.l]
  have hlg : lgT (.mk k i s l) d n = if 6000 < n + 1 + s.size / 16 ∨ 300 < d ∨ 100 < l.length then none else lgL l (d + 1) (n + 1 + s.size / 16) := by simp only [lgT]
  rw [hlg]
  clear hlg
  generalize hX : (if 6000 < n + 1 + s.size / 16 ∨ 300 < d ∨ 100 < l.length then none else lgL l (d + 1) (n + 1 + s.size / 16)) = X
  have HX := Lib.hid hX
  have H := Lib.hid ht
  have HD := Lib.hid hD
  have HFL := Lib.hid hfl
  have hdv : ((s.size : Int) / 16) = ((s.size / 16 : Nat) : Int) := by omega
  have g0 : w.cell? ⟨g, 0, none⟩ = some (.int .i64 n) := hB.cell 0
  have gf := hB.frozen 0
  clear hX ht hD hfl
  generalize hq : s.size / 16 = q at *
  have hq2 : q ≤ 576460752303423487 := by omega
  clear hq
  have hw1 : IntKind.i64.wrap ((n : Int) + 1) = (n : Int) + 1 := IntWalk.i64_in _ (by omega)
  have hw3 : IntKind.i64.wrap ((d : Int) + 1) = (d : Int) + 1 := IntWalk.i64_in _ (by omega)
  obtain ⟨P, hP⟩ : ∃ P : Int, P = (n : Int) + 1 + (q : Int) := ⟨_, rfl⟩
  have hw2 : IntKind.i64.wrap ((n : Int) + 1 + (q : Int)) = P := by rw [IntWalk.i64_in _ (by omega), hP]
  have HP := Lib.hid hP
  clear hP
  go_enter Tryz.func31, Tryz.ntmps31
  go_upto_region 1 with fail
  refine wp_abs (fun V => Hid (Blk V g 3 #[.int .i64 n]) ∧ Hid (Blk V w.heap.size 30 #[.int .i64 k, .int .i64 i, .string s, .slice A l.length c]) ∧ Hid (Ext w V)) ⟨hB.alloc _, Blk.new w _ _, (Ext.refl w).alloc _⟩ ?_
  rintro V ⟨HB1, HT1, HX1⟩
  clear g0 gf hB
  have g0 : V.cell? ⟨g, 0, none⟩ = some (.int .i64 n) := HB1.out.cell 0
  have gf := HB1.out.frozen 0
  have x2 : V.cell? ⟨w.heap.size, 2, none⟩ = some (.string s) := HT1.out.cell 2
  go_region
  all_goals
   have hB2 : Blk (V.setCell ⟨g, 0, none⟩ (.int .i64 P)).drew g 3 #[.int .i64 P] := (HB1.out.set_ 0 (.int .i64 P)).drewN 1
   have hT2 : Blk (V.setCell ⟨g, 0, none⟩ (.int .i64 P)).drew w.heap.size 30 #[.int .i64 k, .int .i64 i, .string s, .slice A l.length c] := (HT1.out.far (p := ⟨g, 0, none⟩) (by simp; omega) (.int .i64 P)).drewN 1
   have hM2 : Mods [g] w (V.setCell ⟨g, 0, none⟩ (.int .i64 P)).drew := ((Mods.ext HX1.out).setCell (p := ⟨g, 0, none⟩) (.inl (by simp)) (.int .i64 P)).drew
   generalize (V.setCell ⟨g, 0, none⟩ (.int .i64 P)).drew = V2 at hB2 hT2 hM2 ⊢
   have HB2 := Lib.hid hB2
   have HT2 := Lib.hid hT2
   have HM2 := Lib.hid hM2
   clear hB2 hT2 hM2
   clear g0 gf x2 HB1 HT1 HX1 hw1 hw2 hdv
   have g0 : V2.cell? ⟨g, 0, none⟩ = some (.int .i64 P) := HB2.out.cell 0
   have y3 : V2.cell? ⟨w.heap.size, 3, none⟩ = some (.slice A l.length c) := HT2.out.cell 3
   have hP := HP.out
   by_cases c1 : 6000 < P
   ·have hx : X = none := by
     rw [← HX.out]
     exact if_pos (.inl (by omega))
    have HXX := Lib.hid hx
    clear hx hP
    go_wp2_with fail
    go_ret
    exact Or.inr ⟨HXX.out, rfl, ⟨_, HB2.out⟩, HM2.out⟩
   ·by_cases c2 : 300 < d
    ·have hx : X = none := by
      rw [← HX.out]
      exact if_pos (.inr (.inl c2))
     have HXX := Lib.hid hx
     have c3 : (300 : Int) < (d : Int) := by omega
     clear hx hP
     go_wp2_with fail
     go_ret
     exact Or.inr ⟨HXX.out, rfl, ⟨_, HB2.out⟩, HM2.out⟩
    ·have c3 : ¬ (300 : Int) < (d : Int) := by omega
     by_cases c4 : 100 < l.length
     ·have hx : X = none := by
       rw [← HX.out]
       exact if_pos (.inr (.inr c4))
      have HXX := Lib.hid hx
      have c5 : (100 : Int) < (l.length : Int) := by omega
      clear hx hP
      go_wp2_with fail
      go_ret
      exact Or.inr ⟨HXX.out, rfl, ⟨_, HB2.out⟩, HM2.out⟩
     ·have c5 : ¬ (100 : Int) < (l.length : Int) := by omega
      have hx : X = lgL l (d + 1) (n + 1 + q) := by
       rw [← HX.out]
       exact if_neg (by omega)
      have HXX := Lib.hid hx
      have hnq : n + 1 + q ≤ 6000 := by omega
      have hPn : P = ((n + 1 + q : Nat) : Int) := by omega
      rw [hPn] at HB2
      clear hx hP
      go_upto_region 5 with fail
      go_loopw [7] (fun ix wr => ∃ (j m : Nat), j ≤ l.length ∧ m ≤ 6000 ∧ ix = .int .i64 j ∧ Hid (lgL (l.take j) (d + 1) (n + 1 + q) = some m) ∧ Hid (Blk wr g 3 #[.int .i64 m]) ∧ Hid (Blk wr w.heap.size 30 #[.int .i64 k, .int .i64 i, .string s, .slice A l.length c]) ∧ Hid (Mods [g] w wr)) (fun ix _ => l.length - (intOf ix).toNat)
      case atStart => exact ⟨0, n + 1 + q, Nat.zero_le _, hnq, rfl, rfl, HB2, HT2, HM2⟩
      case round =>
       obtain ⟨j, m, hj, hm, rfl, HL, HBr, HTr, HMr⟩ := hrel
       have z3 : wr.cell? ⟨w.heap.size, 3, none⟩ = some (.slice A l.length c) := HTr.out.cell 3
       by_cases hlt : j < l.length
       ·have ho : l[j]? = some l[j] := List.getElem?_eq_getElem hlt
        have hsu := szL_get ho
        have hfu := fitL_get HFL.out ho
        have HTK := Lib.hid (lgL_take (d + 1) (n + 1 + q) ho)
        have HNO : Hid (lgT l[j] (d + 1) m = none → lgL l (d + 1) (n + 1 + q) = none) := fun h => lgL_none HL.out ho h
        generalize l[j] = u at *
        obtain ⟨bb, off, A', c', rfl, _, hu, q0, q1, q2, q3⟩ := (TmIn.mods (D' := D) HMr.out (fun k hk => by simpa using HD.out k hk) (fun _ h => h) H.out).child (j := j) ho
        have HC := Lib.hid (IH u (by omega) hfu A' c' wr g D (d + 1) m hu HD.out HBr.out hm (by omega))
        rw [show ((d + 1 : Nat) : Int) = (d : Int) + 1 by omega] at HC
        unfold tmVal at HC
        have hu3 : w.heap.size ≠ g := by omega
        clear ho hu
        cases hlu : lgT u (d + 1) m with
        | none =>
         rw [hlu] at HC
         have HC2 := Lib.hid (HC.out.mono (R' := fun e w' => e = .returned (.bool true) ∧ (∃ m : Int, Blk w' g 3 #[.int .i64 m]) ∧ Mods [g] wr w') (fun e w' h => by
          rcases h with ⟨m', h, _⟩ | ⟨_, h1, h2, h3⟩
          ·cases h
          ·exact ⟨h1, h2, h3⟩))
         have HNO2 := Lib.hid (HNO.out hlu)
         clear hlu HC HNO HTK
         go_wp2_with (go_at_call 31; refine HC2.out.mono ?_; rintro e W1 ⟨rfl, h1, h2⟩; have H1 := Lib.hid h1; have H2 := Lib.hid (HMr.out.trans h2); clear h1 h2)
         go_ret
         exact Or.inr ⟨by rw [HXX.out, HNO2.out], rfl, H1.out, H2.out⟩
        | some m2 =>
         rw [hlu] at HC
         have hm2 := (lgT_le hlu).2.1
         have HLU := Lib.hid hlu
         have HC2 := Lib.hid (HC.out.mono (R' := fun e w' => e = .returned (.bool false) ∧ Blk w' g 3 #[.int .i64 m2] ∧ Mods [g] wr w') (fun e w' h => by
          rcases h with ⟨m', h, h1, h2, h3⟩ | ⟨h, _⟩
          ·injection h with h
           subst h
           exact ⟨h1, h2, h3⟩
          ·cases h))
         clear hlu HC HNO
         go_wp2_with (go_at_call 31; refine HC2.out.mono ?_; rintro e W1 ⟨rfl, h1, h2⟩; have H1 := Lib.hid h1; have H2 := Lib.hid (HMr.out.trans h2); have HT3 := Lib.hid (HTr.out.mods h2 (by simp; omega)); clear h1 h2)
         go_roundw
         case rel => exact ⟨j + 1, m2, hlt, hm2, by go_num, Lib.hid (by rw [HTK.out, HL.out]; exact HLU.out), H1, HT3, H2⟩
         case measure => simp [intOf]; omega
       ·obtain rfl : j = l.length := by omega
        rw [List.take_length] at HL
        go_wp2_with fail
        go_ret
        exact Or.inl ⟨m, by rw [HXX.out, HL.out], rfl, HBr.out, HMr.out⟩
set_option maxRecDepth 100000 in
theorem refLarge_any (t : Tm) (A : Option Addr) (c : Nat) (w : World) (D : Nat → Prop) (ht : TmIn D w t A c) (hf : fitT t = true) :
  Calls Tryz.prog 11 #[tmVal t A c] w fun e w' => e = .returned (.bool (bigT t)) ∧ Ext w w' := by
 have hx := ext_box w (.cells #[.int .i64 t.k, .int .i64 t.n, .string t.s, .slice A t.l.length c] 30)
 have hb := Blk.new (w.alloc (.cells #[.int .i64 t.k, .int .i64 t.n, .string t.s, .slice A t.l.length c] 30)) 3 #[.int .i64 0]
 have HC := Lib.hid ((large_any (szT t) t (Nat.le_refl _) hf A c _ _ (fun k => k < w.heap.size) 0 0 ((ht.lt.ext hx).ext (ext_box _ (.cells #[.int .i64 0] 3))) (fun k hk => by rw [World.size_alloc]; omega) hb (by omega) (by omega)).mono (R' := fun e w' => e = .returned (.bool (bigT t)) ∧ Ext w w') (fun e w' h => by
  have key : ∀ {w'}, Mods [(w.alloc (.cells #[.int .i64 t.k, .int .i64 t.n, .string t.s, .slice A t.l.length c] 30)).heap.size] ((w.alloc (.cells #[.int .i64 t.k, .int .i64 t.n, .string t.s, .slice A t.l.length c] 30)).alloc (.cells #[.int .i64 0] 3)) w' → Ext w w' := fun {w'} hm => ext_mods (hx.trans (ext_box _ _)) hm (fun k hk => by
   rw [World.size_alloc] at hk
   simp at hk
   omega)
  unfold bigT
  rcases h with ⟨m, h1, h2, h3, h4⟩ | ⟨h1, h2, _, h4⟩
  ·rw [h1]
   exact ⟨h2, key h4⟩
  ·rw [h1]
   exact ⟨h2, key h4⟩))
 rw [World.size_alloc] at HC
 unfold tmVal at HC ⊢
 clear ht hf hb
 generalize bigT t = r at *
 go_enter Tryz.func11, Tryz.ntmps11
 go_wp2_with (go_at_call 31; refine HC.out.mono ?_; rintro e W1 ⟨rfl, h1⟩; have H1 := Lib.hid h1; clear h1)
 go_ret
 exact ⟨rfl, H1.out⟩
end Go.Proofs.YtmnnhdegoapfcaaGreatDoor
