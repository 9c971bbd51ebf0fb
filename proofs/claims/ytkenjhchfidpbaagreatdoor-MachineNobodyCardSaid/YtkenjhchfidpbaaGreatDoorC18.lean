/- What the evaluator's run of a region that draws tells: the states between its operations. -/
import Derived.Test.YtkenjhchfidpbaaGreatDoorC17
namespace Go.Ev

section
variable {C : Ctx} {cf : CallA} {cr : RoundA} {base : Nat} {ops : List Oper}

theorem drL_spec : ∀ (l : List Oper) (bs : List Nat) (i : Nat) (s : Dr) (ss : List Dr), drL C cf cr base ops l bs i s = some ss → ss[0]? = some s ∧ ss.length = l.length + 1 ∧
    ∀ m o b, l[m]? = some o → bs[m]? = some b → ∃ s1 s2, ss[m]? = some s1 ∧ ss[m + 1]? = some s2 ∧ drS C cf cr base ops o b (i + m) s1 = some s2
  | [], bs, i, s, ss, e => by
    have e' : some [s] = some ss := e
    injection e' with e'; subst e'
    exact ⟨rfl, rfl, by simp⟩
  | o :: l, bs, i, s, ss, e => by
    have e' : (ob bs.head? fun b => ob (drS C cf cr base ops o b i s) fun s' => ob (drL C cf cr base ops l bs.tail (Nat.add i 1) s') fun r => some (s :: r)) = some ss := e
    obtain ⟨b, h1, e'⟩ := ob_some e'
    obtain ⟨s', h2, e'⟩ := ob_some e'
    obtain ⟨r, h3, e'⟩ := ob_some e'
    injection e' with e'; subst e'
    obtain ⟨g1, g2, g3⟩ := drL_spec l bs.tail (i + 1) s' r h3
    refine ⟨rfl, by simp [g2], ?_⟩
    intro m o' b' hm hb
    cases m with
    | zero =>
      simp at hm; subst hm
      have hbb : b = b' := by
        cases bs with
        | nil => simp at hb
        | cons x bs => simp at hb h1; rw [← hb, ← h1]
      subst hbb
      exact ⟨s, s', rfl, by simpa using g1, by simpa using h2⟩
    | succ m =>
      obtain ⟨s1, s2, k1, k2, k3⟩ := g3 m o' b' (by simpa using hm) (by cases bs with
        | nil => simp at hb
        | cons x bs => simpa using hb)
      refine ⟨s1, s2, by simpa using k1, by simpa using k2, ?_⟩
      have e1 : i + 1 + m = i + (m + 1) := by omega
      rwa [e1] at k3
theorem lastD_spec : ∀ (ss : List Dr) (s : Dr), lastD ss = some s → ss[ss.length - 1]? = some s
  | [], s, e => absurd e (by simp [lastD])
  | [x], s, e => by simpa [lastD] using e
  | x :: y :: l, s, e => by
    have := lastD_spec (y :: l) s (by simpa [lastD] using e)
    simpa using this
theorem chkL_spec {SS : List Dr} {as : List Ab} : ∀ (l : List Oper) (bs : List Nat) (ws : List (List Nat)) (q : List Dr), chkL C cf cr ops SS as l bs ws q = true →
    ∀ m o b ps s s', l[m]? = some o → bs[m]? = some b → ws[m]? = some ps → q[m]? = some s → q[m + 1]? = some s' → chkW C cf cr ops SS as o b (restr s.T (looks ops o)) s'.v ps = true
  | [], bs, ws, q, _, m, o, b, ps, s, s', hm, _, _, _, _ => by simp at hm
  | p :: l, bs, ws, q, e, m, o, b, ps, s, s', hm, hb, hw, hq, hq' => by
    cases bs with
    | nil => simp at hb
    | cons b0 bs =>
    cases ws with
    | nil => simp at hw
    | cons p0 ws =>
    cases q with
    | nil => simp at hq
    | cons s0 q =>
    cases q with
    | nil => simp at hq'
    | cons s1 q =>
    have e' : iff' (chkW C cf cr ops SS as p b0 (restr s0.T (looks ops p)) s1.v p0) (chkL C cf cr ops SS as l bs ws (s1 :: q)) false = true := e
    cases hc : chkW C cf cr ops SS as p b0 (restr s0.T (looks ops p)) s1.v p0 with
    | false => rw [hc, iff_false] at e'; exact absurd e' (by simp)
    | true =>
      rw [hc, iff_true] at e'
      cases m with
      | zero => simp at hm hb hw hq hq'; subst hm hb hw hq hq'; exact hc
      | succ m => exact chkL_spec l bs ws (s1 :: q) e' m o b ps s s' (by simpa using hm) (by simpa using hb) (by simpa using hw) (by simpa using hq) (by simpa using hq')

/-- One operation, told by its kind. -/
theorem drS_some {o : Oper} {b i : Nat} {s s' : Dr} (e : drS C cf cr base ops o b i s = some s') : ∃ wt, wantA ops (restr s.T (looks ops o)) o = some wt ∧ s'.T = putT s.T o.dst s'.v ∧ (wt = false → s'.v = .tup []) ∧
    (isW C o.op = true → s'.as = s.as ∧ s'.pm = b ∧ (wt = true → anyA C cf cr (restr s.T (looks ops o)) (plc s.h s.as b s.pm) o.op = some (s'.v, s'.h)) ∧ (wt = false → s'.h = plc s.h s.as b s.pm)) ∧
    (isW C o.op = false → s'.h = s.h ∧ s'.pm = s.pm) ∧
    (isA o.op = true → (wt = true → ∃ blk, mkA C (restr s.T (looks ops o)) o.op (base + s.as.length) = some (s'.v, blk) ∧ s'.as = s.as ++ [⟨i, base + s.as.length, blk⟩]) ∧ (wt = false → s'.as = s.as)) ∧
    (isW C o.op = false → isA o.op = false → s'.as = s.as ∧ (wt = true → ∃ h', anyA C cf cr (restr s.T (looks ops o)) (plc s.h s.as b s.pm) o.op = some (s'.v, h'))) := by
  have e' : (ob (wantA ops (restr s.T (looks ops o)) o) fun w => iff' (isW C o.op) (drW C cf cr o b s (restr s.T (looks ops o)) w (plc s.h s.as b s.pm)) (iff' (isA o.op) (drN C o base i s (restr s.T (looks ops o)) w) (drR C cf cr o s (restr s.T (looks ops o)) w (plc s.h s.as b s.pm)))) = some s' := e
  clear e
  obtain ⟨wt, h1, e⟩ := ob_some e'
  refine ⟨wt, h1, ?_⟩
  cases hw : isW C o.op with
  | true =>
    rw [hw, iff_true] at e
    have hA : isA o.op = false := isW_isA hw
    unfold drW at e
    cases wt with
    | true =>
      rw [iff_true] at e
      obtain ⟨r, h2, e⟩ := ob_some e
      injection e with e; subst e
      refine ⟨rfl, by simp, fun _ => ⟨rfl, rfl, fun _ => h2, by simp⟩, by simp, by simp [hA], by simp⟩
    | false =>
      rw [iff_false] at e
      injection e with e; subst e
      exact ⟨rfl, fun _ => rfl, fun _ => ⟨rfl, rfl, by simp, fun _ => rfl⟩, by simp, by simp [hA], by simp⟩
  | false =>
    rw [hw, iff_false] at e
    cases hA : isA o.op with
    | true =>
      rw [hA, iff_true] at e
      unfold drN at e
      cases wt with
      | true =>
        rw [iff_true] at e
        obtain ⟨r, h2, e⟩ := ob_some e
        injection e with e; subst e
        exact ⟨rfl, by simp, by simp, fun _ => ⟨rfl, rfl⟩, fun _ => ⟨fun _ => ⟨r.2, h2, rfl⟩, by simp⟩, by simp⟩
      | false =>
        rw [iff_false] at e
        injection e with e; subst e
        exact ⟨rfl, fun _ => rfl, by simp, fun _ => ⟨rfl, rfl⟩, fun _ => ⟨by simp, fun _ => rfl⟩, by simp⟩
    | false =>
      rw [hA, iff_false] at e
      unfold drR at e
      cases wt with
      | true =>
        rw [iff_true] at e
        obtain ⟨r, h2, e⟩ := ob_some e
        injection e with e; subst e
        exact ⟨rfl, by simp, by simp, fun _ => ⟨rfl, rfl⟩, by simp, fun _ _ => ⟨rfl, fun _ => ⟨r.2, h2⟩⟩⟩
      | false =>
        rw [iff_false] at e
        injection e with e; subst e
        exact ⟨rfl, fun _ => rfl, by simp, fun _ => ⟨rfl, rfl⟩, by simp, fun _ _ => ⟨rfl, by simp⟩⟩

/-- The states, one behind the other. -/
def Ran (C : Ctx) (cf : CallA) (cr : RoundA) (base : Nat) (ops : List Oper) (S : Nat → Dr) : Prop := (S 0).as = [] ∧ (S 0).pm = 0 ∧ ∀ i o, ops[i]? = some o → drS C cf cr base ops o (bfi ops i) i (S i) = some (S (i + 1))

variable {S : Nat → Dr}
theorem at_lt {i : Nat} (h : i < ops.length) : ∃ o, ops[i]? = some o := ⟨ops[i], List.getElem?_eq_getElem h⟩

theorem Ran.as_step (R : Ran C cf cr base ops S) {i : Nat} {o : Oper} (ho : ops[i]? = some o) : (S (i + 1)).as = (S i).as ∨ (isA o.op = true ∧ ∃ blk, (S (i + 1)).as = (S i).as ++ [⟨i, base + (S i).as.length, blk⟩]) := by
  obtain ⟨wt, _, _, _, k1, _, k3, k4⟩ := drS_some (R.2.2 i o ho)
  cases hw : isW C o.op with
  | true => exact .inl (k1 hw).1
  | false =>
    cases hA : isA o.op with
    | false => exact .inl (k4 hw hA).1
    | true =>
      cases wt with
      | false => exact .inl ((k3 hA).2 rfl)
      | true => obtain ⟨blk, _, h2⟩ := (k3 hA).1 rfl; exact .inr ⟨rfl, blk, h2⟩
theorem Ran.as_facts (R : Ran C cf cr base ops S) : ∀ i, i ≤ ops.length → (∀ ab ∈ (S i).as, ab.i < i ∧ ∃ o, ops[ab.i]? = some o ∧ isA o.op = true) ∧ (∀ k ab, (S i).as[k]? = some ab → ab.num = base + k) ∧
    (∀ a b, a ∈ (S i).as → b ∈ (S i).as → a.i = b.i → a = b) ∧ (S i).as.length ≤ countA (ops.take i)
  | 0, _ => by
    rw [R.1]
    exact ⟨by simp, by simp, by simp, by simp⟩
  | i + 1, hi => by
    obtain ⟨o, ho⟩ := at_lt (show i < ops.length by omega)
    obtain ⟨f1, f2, f3, f4⟩ := R.as_facts i (by omega)
    have hc : ∀ (l : List Oper) (i : Nat) (o : Oper), l[i]? = some o → countA (l.take (i + 1)) = countA (l.take i) + (if isA o.op then 1 else 0) := by
      intro l
      induction l with
      | nil => intro i o h; simp at h
      | cons q l ih =>
        intro i o h
        cases i with
        | zero =>
          simp at h; subst h
          show (bif isA q.op then Nat.add (countA (l.take 0)) 1 else countA (l.take 0)) = _
          cases isA q.op <;> simp [countA]
        | succ i =>
          have := ih i o (by simpa using h)
          show (bif isA q.op then Nat.add (countA (l.take (i + 1))) 1 else countA (l.take (i + 1))) = (bif isA q.op then Nat.add (countA (l.take i)) 1 else countA (l.take i)) + _
          rw [this]
          cases isA q.op <;> simp; omega
    have hc := hc ops i o ho
    rcases R.as_step ho with e | ⟨hA, blk, e⟩
    · rw [e]
      refine ⟨fun ab h => ⟨by have := (f1 ab h).1; omega, (f1 ab h).2⟩, f2, f3, ?_⟩
      rw [hc]; omega
    · rw [e]
      refine ⟨?_, ?_, ?_, ?_⟩
      · intro ab h
        rcases List.mem_append.1 h with h | h
        · exact ⟨by have := (f1 ab h).1; omega, (f1 ab h).2⟩
        · rw [List.mem_singleton] at h; subst h; exact ⟨Nat.lt_succ_self _, o, ho, hA⟩
      · intro k ab h
        by_cases hk : k < (S i).as.length
        · exact f2 k ab (by rwa [List.getElem?_append_left hk] at h)
        · rw [List.getElem?_append_right (by omega)] at h
          have hk0 : k - (S i).as.length = 0 := by
            rcases Nat.eq_zero_or_pos (k - (S i).as.length) with h0 | h0
            · exact h0
            · rw [List.getElem?_eq_none (by simp; omega)] at h; exact absurd h (by simp)
          rw [hk0] at h
          simp at h; subst h
          show base + (S i).as.length = base + k
          omega
      · intro a b ha hb hab
        rcases List.mem_append.1 ha with ha | ha <;> rcases List.mem_append.1 hb with hb | hb
        · exact f3 a b ha hb hab
        · rw [List.mem_singleton] at hb; subst hb
          have := (f1 a ha).1
          have h0 : a.i = i := hab
          omega
        · rw [List.mem_singleton] at ha; subst ha
          have := (f1 b hb).1
          have h0 : i = b.i := hab
          omega
        · rw [List.mem_singleton] at ha hb; rw [ha, hb]
      · rw [hc, hA]; simp; omega
theorem Ran.as_mono (R : Ran C cf cr base ops S) {i j : Nat} (hij : i ≤ j) (hj : j ≤ ops.length) : ∀ ab ∈ (S i).as, ab ∈ (S j).as := by
  induction hij with
  | refl => exact fun _ h => h
  | step hij ih =>
    rename_i j
    obtain ⟨o, ho⟩ := at_lt (show j < ops.length by omega)
    intro ab h
    have := ih (by omega) ab h
    rcases R.as_step ho with e | ⟨_, blk, e⟩
    · rw [e]; exact this
    · rw [e]; exact List.mem_append_left _ this
theorem Ran.as_back (R : Ran C cf cr base ops S) {i j : Nat} (hij : i ≤ j) (hj : j ≤ ops.length) : ∀ ab ∈ (S j).as, ab.i < i → ab ∈ (S i).as := by
  induction hij with
  | refl => exact fun _ h _ => h
  | step hij ih =>
    rename_i j
    obtain ⟨o, ho⟩ := at_lt (show j < ops.length by omega)
    have hij : i ≤ j := hij
    intro ab h hlt
    rcases R.as_step ho with e | ⟨_, blk, e⟩
    · rw [e] at h; exact ih (by omega) ab h hlt
    · rw [e] at h
      rcases List.mem_append.1 h with h | h
      · exact ih (by omega) ab h hlt
      · rw [List.mem_singleton] at h; subst h
        have : j < i := hlt
        omega
theorem Ran.as_num (R : Ran C cf cr base ops S) {i : Nat} (hi : i ≤ ops.length) {a : Ab} (ha : a ∈ (S i).as) : base ≤ a.num ∧ a.num < base + countA ops := by
  obtain ⟨_, f2, _, f4⟩ := R.as_facts i hi
  obtain ⟨k, hk, he⟩ := List.mem_iff_getElem.1 ha
  have h1 := f2 k a (by rw [List.getElem?_eq_getElem hk, he])
  have h2 : countA (ops.take i) ≤ countA ops := by
    have : ∀ (l : List Oper) i, countA (l.take i) ≤ countA l := by
      intro l
      induction l with
      | nil => intro i; simp
      | cons q l ih =>
        intro i
        cases i with
        | zero => simp [countA]
        | succ i =>
          have := ih i
          show (bif isA q.op then Nat.add (countA (l.take i)) 1 else countA (l.take i)) ≤ (bif isA q.op then Nat.add (countA l) 1 else countA l)
          cases isA q.op <;> simp <;> omega
    exact this ops i
  omega
theorem Ran.as_inj (R : Ran C cf cr base ops S) {i : Nat} (hi : i ≤ ops.length) {a b : Ab} (ha : a ∈ (S i).as) (hb : b ∈ (S i).as) (h : a.num = b.num) : a = b := by
  obtain ⟨_, f2, _, _⟩ := R.as_facts i hi
  obtain ⟨k, hk, he⟩ := List.mem_iff_getElem.1 ha
  obtain ⟨m, hm, he'⟩ := List.mem_iff_getElem.1 hb
  have h1 := f2 k a (by rw [List.getElem?_eq_getElem hk, he])
  have h2 := f2 m b (by rw [List.getElem?_eq_getElem hm, he'])
  have : k = m := by omega
  subst this
  rw [← he, ← he']
/-- Where nothing writes, the heap stays. -/
theorem Ran.still (R : Ran C cf cr base ops S) {p i : Nat} (hpi : p ≤ i) (hi : i ≤ ops.length) (hno : ∀ e o, p ≤ e → e < i → ops[e]? = some o → isW C o.op = false) : (S i).h = (S p).h ∧ (S i).pm = (S p).pm := by
  induction hpi with
  | refl => exact ⟨rfl, rfl⟩
  | step hpi ih =>
    rename_i j
    have hpi : p ≤ j := hpi
    obtain ⟨o, ho⟩ := at_lt (show j < ops.length by omega)
    obtain ⟨wt, _, _, _, _, k2, _, _⟩ := drS_some (R.2.2 j o ho)
    obtain ⟨i1, i2⟩ := ih (by omega) (fun e o h1 h2 h3 => hno e o h1 (by omega) h3)
    obtain ⟨k1, k2⟩ := k2 (hno j o hpi (by omega) ho)
    exact ⟨k1.trans i1, k2.trans i2⟩
theorem Ran.pm_at (R : Ran C cf cr base ops S) {e : Nat} {o : Oper} (ho : ops[e]? = some o) (hw : isW C o.op = true) : (S (e + 1)).pm = bfi ops e := by
  obtain ⟨wt, _, _, _, k1, _, _, _⟩ := drS_some (R.2.2 e o ho)
  exact (k1 hw).2.1

/-- What a temporary is ahead of an operation: what the last one before wrote into it. -/
def LastW (ops : List Oper) (S : Nat → Dr) (i t : Nat) (v : AV) : Prop :=
  (∃ j o, j < i ∧ ops[j]? = some o ∧ o.dst = some t ∧ v = (S (j + 1)).v ∧ ∀ k p, j < k → k < i → ops[k]? = some p → p.dst ≠ some t) ∨ ((S 0).T.get t = some v ∧ ∀ k p, k < i → ops[k]? = some p → p.dst ≠ some t)
theorem LastW.more {i t : Nat} {v : AV} {o : Oper} (ho : ops[i]? = some o) (hne : o.dst ≠ some t) (h : LastW ops S i t v) : LastW ops S (i + 1) t v := by
  rcases h with ⟨j, q, g1, g2, g3, g4, g5⟩ | ⟨g1, g2⟩
  · refine .inl ⟨j, q, by omega, g2, g3, g4, ?_⟩
    intro k p h1 h2 h3
    by_cases hk : k = i
    · subst hk; rw [ho] at h3; injection h3 with h3; subst h3; exact hne
    · exact g5 k p h1 (by omega) h3
  · refine .inr ⟨g1, ?_⟩
    intro k p h2 h3
    by_cases hk : k = i
    · subst hk; rw [ho] at h3; injection h3 with h3; subst h3; exact hne
    · exact g2 k p (by omega) h3
theorem Ran.temp (R : Ran C cf cr base ops S) (hd : ∀ (i : Nat) (o : Oper) (d : Tmp), ops[i]? = some o → o.dst = some d → d < 5000000) : ∀ i, i ≤ ops.length → ∀ t v, (S i).T.get t = some v → LastW ops S i t v
  | 0, _, t, v, h => .inr ⟨h, fun k p hk => absurd hk (by omega)⟩
  | i + 1, hi, t, v, h => by
    obtain ⟨o, ho⟩ := at_lt (show i < ops.length by omega)
    obtain ⟨wt, _, hT, _, _, _, _, _⟩ := drS_some (R.2.2 i o ho)
    rw [hT] at h
    have old := R.temp hd i (by omega) t v
    cases hdst : o.dst with
    | none => rw [hdst] at h; exact (old h).more ho (by rw [hdst]; simp)
    | some d =>
      rw [hdst] at h
      have h' : ((S i).T.put d (S (i + 1)).v).get t = some v := h
      rw [put_get _ _ _ _ (hd i o d ho hdst)] at h'
      by_cases ht : t = d
      · subst ht
        rw [if_pos rfl] at h'; injection h' with h'
        exact .inl ⟨i, o, Nat.lt_succ_self _, ho, hdst, h'.symm, fun k p h1 h2 => absurd h1 (by omega)⟩
      · rw [if_neg ht] at h'
        exact (old h').more ho (by rw [hdst]; intro h0; injection h0 with h0; exact ht h0.symm)

/-! The heap with the blocks that come to lie in it -/
theorem plc_nx (h : H) (as : List Ab) (b pm : Nat) : (plc h as b pm).nx = h.nx := by
  induction as with
  | nil => rfl
  | cons x l ih =>
    show (iff' (Nat.testBit b x.i) (iff' (Nat.testBit pm x.i) (plc h l b pm) ⟨(plc h l b pm).b.put x.num x.blk, (plc h l b pm).nx⟩) (plc h l b pm)).nx = h.nx
    cases Nat.testBit b x.i <;> cases Nat.testBit pm x.i <;> exact ih
theorem plc_out (h : H) (as : List Ab) (b pm : Nat) (hn : ∀ a ∈ as, a.num < 5000000) {x : Nat} (hx : ∀ a ∈ as, a.num = x → Nat.testBit b a.i = true → Nat.testBit pm a.i = true) : (plc h as b pm).b.get x = h.b.get x := by
  induction as with
  | nil => rfl
  | cons y l ih =>
    have ih := ih (fun a ha => hn a (List.mem_cons_of_mem _ ha)) (fun a ha => hx a (List.mem_cons_of_mem _ ha))
    show (iff' (Nat.testBit b y.i) (iff' (Nat.testBit pm y.i) (plc h l b pm) ⟨(plc h l b pm).b.put y.num y.blk, (plc h l b pm).nx⟩) (plc h l b pm)).b.get x = _
    cases hb : Nat.testBit b y.i with
    | false => exact ih
    | true =>
      cases hp : Nat.testBit pm y.i with
      | true => exact ih
      | false =>
        show ((plc h l b pm).b.put y.num y.blk).get x = _
        rw [put_get _ _ _ _ (hn y List.mem_cons_self), if_neg]
        · exact ih
        · intro h0
          rw [hx y List.mem_cons_self h0.symm hb] at hp
          exact absurd hp (by simp)
theorem plc_in (h : H) (as : List Ab) (b pm : Nat) (hn : ∀ a ∈ as, a.num < 5000000) (hi : ∀ a c, a ∈ as → c ∈ as → a.num = c.num → a = c) {x : Ab} (hx : x ∈ as) (hb : Nat.testBit b x.i = true) (hp : Nat.testBit pm x.i = false) :
    (plc h as b pm).b.get x.num = some x.blk := by
  induction as with
  | nil => exact absurd hx (by simp)
  | cons y l ih =>
    show (iff' (Nat.testBit b y.i) (iff' (Nat.testBit pm y.i) (plc h l b pm) ⟨(plc h l b pm).b.put y.num y.blk, (plc h l b pm).nx⟩) (plc h l b pm)).b.get x.num = _
    by_cases he : x = y
    · subst he
      rw [hb, hp]
      show ((plc h l b pm).b.put x.num x.blk).get x.num = _
      rw [put_get _ _ _ _ (hn x List.mem_cons_self), if_pos rfl]
    · have hxl : x ∈ l := (List.mem_cons.1 hx).resolve_left he
      have ih := ih (fun a ha => hn a (List.mem_cons_of_mem _ ha)) (fun a c ha hc => hi a c (List.mem_cons_of_mem _ ha) (List.mem_cons_of_mem _ hc)) hxl
      cases Nat.testBit b y.i with
      | false => exact ih
      | true =>
        cases Nat.testBit pm y.i with
        | true => exact ih
        | false =>
          show ((plc h l b pm).b.put y.num y.blk).get x.num = _
          rw [put_get _ _ _ _ (hn y List.mem_cons_self), if_neg]
          · exact ih
          · intro h0; exact he (hi x y hx List.mem_cons_self h0)
end
end Go.Ev
