/- Blocks that are made but lie not yet in the evaluator's heap: where they are, and how they come to lie in it. -/
import Derived.Test.YtkenjhchfidpbaaGreatDoorC16
namespace Go.Ev
open Go.RowKit

/-- A block that is made: by which operation, where, of how many cells. -/
structure En where
  i : Nat
  r : Nat
  m : Nat
abbrev Ens := Nat → Option En
/-- The places, with those of the blocks that such operations made. -/
def ext (φ : Pl) (E : Ens) (b : Nat → Bool) : Pl :=
  ⟨fun x => match E x with | some e => if b e.i = true then some (e.r, 0) else φ x | none => φ x,
   fun x => match E x with | some e => if b e.i = true then e.m else φ.m x | none => φ.m x⟩
def Ens.drop (E : Ens) (b : Nat → Bool) : Ens := fun x => match E x with | some e => if b e.i = true then none else some e | none => none
def Ens.set (E : Ens) (n : Nat) (e : En) : Ens := fun x => if x = n then some e else E x
def kp (N : Kp) (E : Ens) (R : Nat → Prop) : Kp :=
  ⟨fun r => N.o r ∨ ∃ x e, E x = some e ∧ e.r = r, fun r => N.x r ∨ ∃ x e, E x = some e ∧ e.r = r, fun x => N.n x ∨ R x⟩

section
variable {N : Kp} {φ ψ : Pl} {h h' : H} {w : World} {E : Ens} {R R' : Nat → Prop} {b b' : Nat → Bool}

theorem ext_none {x : Nat} (h : E x = none) : ext φ E b x = φ x ∧ (ext φ E b).m x = φ.m x := by simp [ext, h]
theorem ext_some {x : Nat} {e : En} (h : E x = some e) (hb : b e.i = true) : ext φ E b x = some (e.r, 0) ∧ (ext φ E b).m x = e.m := by simp [ext, h, hb]
theorem ext_off {x : Nat} {e : En} (h : E x = some e) (hb : b e.i = false) : ext φ E b x = φ x ∧ (ext φ E b).m x = φ.m x := by simp [ext, h, hb]
theorem drop_some {x : Nat} {e : En} : E.drop b x = some e ↔ E x = some e ∧ b e.i = false := by
  unfold Ens.drop
  cases hx : E x with
  | none => simp
  | some f =>
    cases hb : b f.i with
    | true =>
      show (if b f.i = true then none else some f) = some e ↔ _
      rw [if_pos hb]
      constructor
      · intro h; exact absurd h (by simp)
      · rintro ⟨h1, h2⟩; injection h1 with h1; subst h1; rw [hb] at h2; exact absurd h2 (by simp)
    | false =>
      show (if b f.i = true then none else some f) = some e ↔ _
      rw [if_neg (by rw [hb]; simp)]
      constructor
      · intro h; injection h with h; subst h; exact ⟨rfl, hb⟩
      · rintro ⟨h1, h2⟩; exact h1

theorem ext_le (hE : ∀ x e, E x = some e → φ x = none) : Le φ (ext φ E b) := by
  have key : ∀ x y, φ x = some y → E x = none := by
    intro x y h
    cases hx : E x with
    | none => rfl
    | some e => rw [hE x e hx] at h; exact absurd h (by simp)
  exact ⟨fun x y h => by rw [(ext_none (key x y h)).1]; exact h, fun x y h => (ext_none (key x y h)).2⟩
theorem ext_mono (hE : ∀ x e, E x = some e → φ x = none) (hb : ∀ i, b i = true → b' i = true) : Le (ext φ E b) (ext φ E b') := by
  have key : ∀ x y, ext φ E b x = some y → ext φ E b' x = some y ∧ (ext φ E b').m x = (ext φ E b).m x := by
    intro x y h
    cases hx : E x with
    | none => rw [(ext_none hx).1] at h; exact ⟨by rw [(ext_none hx).1]; exact h, by rw [(ext_none hx).2, (ext_none hx).2]⟩
    | some e =>
      cases hbe : b e.i with
      | true =>
        have e1 := ext_some (φ := φ) (b := b) hx hbe
        have e2 := ext_some (φ := φ) (b := b') hx (hb _ hbe)
        rw [e1.1] at h; exact ⟨by rw [e2.1]; exact h, by rw [e1.2, e2.2]⟩
      | false => rw [(ext_off hx hbe).1, hE x e hx] at h; exact absurd h (by simp)
  exact ⟨fun x y h => (key x y h).1, fun x y h => (key x y h).2⟩
theorem ext_drop (hE : ∀ x e, E x = some e → φ x = none) : Le (ext φ E b') (ext (ext φ E b) (E.drop b) b') := by
  have key : ∀ x y, ext φ E b' x = some y → ext (ext φ E b) (E.drop b) b' x = some y ∧ (ext (ext φ E b) (E.drop b) b').m x = (ext φ E b').m x := by
    intro x y h
    cases hx : E x with
    | none =>
      have hd : E.drop b x = none := by simp [Ens.drop, hx]
      have e1 := ext_none (φ := φ) (b := b') hx
      have e2 := ext_none (φ := φ) (b := b) hx
      have e3 := ext_none (φ := ext φ E b) (b := b') hd
      rw [e1.1] at h
      exact ⟨by rw [e3.1, e2.1]; exact h, by rw [e3.2, e2.2, e1.2]⟩
    | some e =>
      cases hbe : b' e.i with
      | false => rw [(ext_off hx hbe).1, hE x e hx] at h; exact absurd h (by simp)
      | true =>
        have e1 := ext_some (φ := φ) (b := b') hx hbe
        rw [e1.1] at h
        cases hb2 : b e.i with
        | true =>
          have hd : E.drop b x = none := by simp [Ens.drop, hx, hb2]
          have e2 := ext_some (φ := φ) (b := b) hx hb2
          have e3 := ext_none (φ := ext φ E b) (b := b') hd
          exact ⟨by rw [e3.1, e2.1]; exact h, by rw [e3.2, e2.2, e1.2]⟩
        | false =>
          have hd : E.drop b x = some e := drop_some.2 ⟨hx, hb2⟩
          have e3 := ext_some (φ := ext φ E b) (b := b') hd hbe
          exact ⟨by rw [e3.1]; exact h, by rw [e3.2, e1.2]⟩
  exact ⟨fun x y h => (key x y h).1, fun x y h => (key x y h).2⟩
theorem ext_base (hl : Le φ ψ) (hE : ∀ x e, E x = some e → ψ x = none) : Le (ext φ E b) (ext ψ E b) := by
  have key : ∀ x y, ext φ E b x = some y → ext ψ E b x = some y ∧ (ext ψ E b).m x = (ext φ E b).m x := by
    intro x y h
    cases hx : E x with
    | none =>
      have e1 := ext_none (φ := φ) (b := b) hx
      have e2 := ext_none (φ := ψ) (b := b) hx
      rw [e1.1] at h
      exact ⟨by rw [e2.1]; exact hl.p _ _ h, by rw [e2.2, e1.2]; exact hl.m _ _ h⟩
    | some e =>
      cases hbe : b e.i with
      | false =>
        rw [(ext_off hx hbe).1] at h
        have := hl.p _ _ h
        rw [hE x e hx] at this; exact absurd this (by simp)
      | true =>
        have e1 := ext_some (φ := φ) (b := b) hx hbe
        have e2 := ext_some (φ := ψ) (b := b) hx hbe
        rw [e1.1] at h
        exact ⟨by rw [e2.1]; exact h, by rw [e2.2, e1.2]⟩
  exact ⟨fun x y h => (key x y h).1, fun x y h => (key x y h).2⟩

/-- The blocks come to lie in the heap. -/
theorem Sim.place (s : Sim (kp N E R) φ h w) (hE : ∀ x e, E x = some e → φ x = none ∧ x < h.nx ∧ ¬ N.o e.r ∧ ¬ N.x e.r ∧ ¬ N.n x)
    (einj : ∀ x y e f, E x = some e → E y = some f → e.r = f.r → x = y)
    (hin : ∀ x e, E x = some e → b e.i = true → ∃ k o, h'.b.get x = some k ∧ w.heap[e.r]? = some o ∧ BR (ext φ E b) k o 0 ∧ (∀ cs t fr, o = .cells cs t fr → e.m = cs.size))
    (hout : ∀ x, (∀ e, E x = some e → b e.i = false) → h'.b.get x = h.b.get x) (hnx : h'.nx = h.nx)
    (hR : ∀ x, R' x → R x ∧ ∀ e, E x = some e → b e.i = false) : Sim (kp N (E.drop b) R') (ext φ E b) h' w := by
  have hle : Le φ (ext φ E b) := ext_le fun x e he => (hE x e he).1
  have isx : ∀ x e, E x = some e → (kp N E R).x e.r := fun x e he => .inr ⟨x, e, he, rfl⟩
  have cases' : ∀ i k, h'.b.get i = some k → (∃ e, E i = some e ∧ b e.i = true ∧ ext φ E b i = some (e.r, 0)) ∨ ((∀ e, E i = some e → b e.i = false) ∧ h.b.get i = some k ∧ ext φ E b i = φ i ∧ (ext φ E b).m i = φ.m i) := by
    intro i k hk
    cases hx : E i with
    | none =>
      right
      have hno : ∀ e, E i = some e → b e.i = false := by intro e he; rw [hx] at he; exact absurd he (by simp)
      exact ⟨by intro e he; exact absurd he (by simp), by rw [← hout i hno]; exact hk, ext_none hx⟩
    | some e =>
      cases hb : b e.i with
      | true => left; exact ⟨e, rfl, hb, (ext_some hx hb).1⟩
      | false =>
        right
        have hno : ∀ e', E i = some e' → b e'.i = false := by intro e' he; rw [hx] at he; injection he with he; subst he; exact hb
        exact ⟨by intro e' he; injection he with he; subst he; exact hb, by rw [← hout i hno]; exact hk, ext_off hx hb⟩
  have sub : ∀ x e, E.drop b x = some e → E x = some e ∧ b e.i = false := fun x e he => drop_some.1 he
  refine ⟨?_, ?_, ?_, ?_, ?_, ?_, ?_, ?_, ?_, ?_, ?_⟩
  · intro i k hk
    rcases cases' i k hk with ⟨e, he, hb, hp⟩ | ⟨_, hk', hp, _⟩
    · obtain ⟨k', o, h1, h2, h3, _⟩ := hin i e he hb
      rw [hk] at h1; injection h1 with h1; subst h1
      exact ⟨e.r, 0, o, hp, h2, h3⟩
    · obtain ⟨r, q, o, h1, h2, h3⟩ := s.blk i k hk'
      exact ⟨r, q, o, by rw [hp]; exact h1, h2, h3.mono hle⟩
  · intro i j k l r q q' hi hj hpi hpj
    rcases cases' i k hi with ⟨e, he, hb, hp⟩ | ⟨_, hi', hp, _⟩
    · rcases cases' j l hj with ⟨f, hf, hb', hp'⟩ | ⟨_, hj', hp', _⟩
      · rw [hp] at hpi; rw [hp'] at hpj
        injection hpi with hpi; injection hpi with a1 a2
        injection hpj with hpj; injection hpj with b1 b2
        exact einj i j e f he hf (a1.trans b1.symm)
      · rw [hp] at hpi; rw [hp'] at hpj
        injection hpi with hpi; injection hpi with a1 a2
        exact absurd (a1 ▸ isx i e he) (s.hid j l r q' hj' hpj)
    · rcases cases' j l hj with ⟨f, hf, hb', hp'⟩ | ⟨_, hj', hp', _⟩
      · rw [hp] at hpi; rw [hp'] at hpj
        injection hpj with hpj; injection hpj with b1 b2
        exact absurd (b1 ▸ isx j f hf) (s.hid i k r q hi' hpi)
      · rw [hp] at hpi; rw [hp'] at hpj
        exact s.inj i j k l r q q' hi' hj' hpi hpj
  · intro i hi
    rw [hnx] at hi
    cases hx : E i with
    | none => rw [(ext_none hx).1]; exact s.fresh i hi
    | some e => exact absurd (hE i e hx).2.1 (by omega)
  · intro i k r q hk hro hp
    rintro (hN | ⟨y, f, hy, hr⟩)
    · rcases cases' i k hk with ⟨e, he, hb, hpe⟩ | ⟨_, hk', hpe, _⟩
      · rw [hpe] at hp; injection hp with hp; injection hp with a1 a2; subst a1
        exact (hE i e he).2.2.1 hN
      · rw [hpe] at hp; exact s.own i k r q hk' hro hp (.inl hN)
    · obtain ⟨hy, hby⟩ := sub y f hy
      rcases cases' i k hk with ⟨e, he, hb, hpe⟩ | ⟨_, hk', hpe, _⟩
      · rw [hpe] at hp; injection hp with hp; injection hp with a1 a2; subst a1
        have := einj y i f e hy he hr
        subst this
        rw [hy] at he; injection he with he; subst he
        rw [hb] at hby; exact absurd hby (by simp)
      · rw [hpe] at hp; exact s.own i k r q hk' hro hp (.inr ⟨y, f, hy, hr⟩)
  · intro g hg; exact hle.p _ _ (s.glob g hg)
  · rw [hnx]; exact s.big
  · rw [hnx]; exact s.low
  · intro k hk
    rcases hk with (hk | ⟨y, f, hy, hr⟩) | (hk | ⟨y, f, hy, hr⟩)
    · exact s.size k (.inl (.inl hk))
    · exact s.size k (.inl (.inr ⟨y, f, (sub y f hy).1, hr⟩))
    · exact s.size k (.inr (.inl hk))
    · exact s.size k (.inr (.inr ⟨y, f, (sub y f hy).1, hr⟩))
  · intro i k r q hk hp
    rintro (hN | ⟨y, f, hy, hr⟩)
    · rcases cases' i k hk with ⟨e, he, hb, hpe⟩ | ⟨_, hk', hpe, _⟩
      · rw [hpe] at hp; injection hp with hp; injection hp with a1 a2; subst a1
        exact (hE i e he).2.2.2.1 hN
      · rw [hpe] at hp; exact s.hid i k r q hk' hp (.inl hN)
    · obtain ⟨hy, hby⟩ := sub y f hy
      rcases cases' i k hk with ⟨e, he, hb, hpe⟩ | ⟨_, hk', hpe, _⟩
      · rw [hpe] at hp; injection hp with hp; injection hp with a1 a2; subst a1
        have := einj y i f e hy he hr
        subst this
        rw [hy] at he; injection he with he; subst he
        rw [hb] at hby; exact absurd hby (by simp)
      · rw [hpe] at hp; exact s.hid i k r q hk' hp (.inr ⟨y, f, hy, hr⟩)
  · intro x hx
    rw [hnx]
    rcases hx with hx | hx
    · obtain ⟨h1, h2⟩ := s.res x (.inl hx)
      refine ⟨h1, ?_⟩
      cases he : E x with
      | none => rw [(ext_none he).1]; exact h2
      | some e => exact absurd hx (hE x e he).2.2.2.2
    · obtain ⟨hr, hno⟩ := hR x hx
      obtain ⟨h1, h2⟩ := s.res x (.inr hr)
      refine ⟨h1, ?_⟩
      cases he : E x with
      | none => rw [(ext_none he).1]; exact h2
      | some e => rw [(ext_off he (hno e he)).1]; exact h2
  · intro i k r q cs t fr hk hp ho
    rcases cases' i k hk with ⟨e, he, hb, hpe⟩ | ⟨_, hk', hpe, hm⟩
    · obtain ⟨k', o, h1, h2, h3, h4⟩ := hin i e he hb
      rw [hpe] at hp; injection hp with hp; injection hp with a1 a2; subst a1 a2
      rw [h2] at ho; injection ho with ho; subst ho
      rw [(ext_some he hb).2, Nat.zero_add]; exact h4 _ _ _ rfl
    · rw [hm]; rw [hpe] at hp
      exact s.rm i k r q cs t fr hk' hp ho

/-- One more block is made. -/
theorem Sim.keep (s : Sim (kp N E R) φ h w) (o : Obj) (x : Nat) (i m : Nat) : Sim (kp N (E.set x ⟨i, w.heap.size, m⟩) R) φ h (w.alloc o) := by
  have old : ∀ k, (N.o k ∨ N.x k ∨ ∃ y e, E.set x ⟨i, w.heap.size, m⟩ y = some e ∧ e.r = k) → k = w.heap.size ∨ ((kp N E R).o k ∨ (kp N E R).x k) := by
    intro k hk
    rcases hk with hk | hk | ⟨y, e, hy, hr⟩
    · exact .inr (.inl (.inl hk))
    · exact .inr (.inr (.inl hk))
    · unfold Ens.set at hy
      split at hy
      · injection hy with hy; subst hy; exact .inl hr.symm
      · exact .inr (.inl (.inr ⟨y, e, hy, hr⟩))
  have known : ∀ i b r k, h.b.get i = some b → φ i = some (r, k) → r < w.heap.size := by
    intro i b r k hb hp
    obtain ⟨o', ho, _⟩ := s.at hb hp
    exact (Array.getElem?_eq_some_iff.1 ho).1
  refine ⟨?_, s.inj, s.fresh, ?_, s.glob, s.big, s.low, ?_, ?_, s.res, ?_⟩
  · intro j c hc
    obtain ⟨r, k, o', e1, e2, e3⟩ := s.blk j c hc
    exact ⟨r, k, o', e1, by rw [Go.RowKit.Below.heap_alloc _ _ _ (Array.getElem?_eq_some_iff.1 e2).1]; exact e2, e3⟩
  · intro j c r k hc hro hp hk
    have hlt := known j c r k hc hp
    rcases hk with hk | ⟨y, e, hy, hr⟩
    · exact s.own j c r k hc hro hp (.inl hk)
    · unfold Ens.set at hy
      split at hy
      · injection hy with hy; subst hy; have : w.heap.size = r := hr; omega
      · exact s.own j c r k hc hro hp (.inr ⟨y, e, hy, hr⟩)
  · intro k hk
    show k < (w.heap.push o).size
    have : k = w.heap.size ∨ ((kp N E R).o k ∨ (kp N E R).x k) := by
      rcases hk with (hk | hk) | (hk | hk)
      · exact old k (.inl hk)
      · exact old k (.inr (.inr hk))
      · exact old k (.inr (.inl hk))
      · exact old k (.inr (.inr hk))
    rcases this with h1 | h1
    · simp; omega
    · have := s.size k h1; simp; omega
  · intro j c r k hc hp hk
    have hlt := known j c r k hc hp
    rcases hk with hk | ⟨y, e, hy, hr⟩
    · exact s.hid j c r k hc hp (.inl hk)
    · unfold Ens.set at hy
      split at hy
      · injection hy with hy; subst hy; have : w.heap.size = r := hr; omega
      · exact s.hid j c r k hc hp (.inr ⟨y, e, hy, hr⟩)
  · intro j c r k cs t fr hc hp ho
    have hlt := known j c r k hc hp
    rw [Go.RowKit.Below.heap_alloc _ _ _ hlt] at ho
    exact s.rm j c r k cs t fr hc hp ho

/-- Less is kept. -/
theorem Sim.weaken {M : Kp} (s : Sim M φ h w) (ho : ∀ k, N.o k → M.o k) (hx : ∀ k, N.x k → M.x k) (hn : ∀ k, N.n k → M.n k) : Sim N φ h w :=
  ⟨s.blk, s.inj, s.fresh, fun i b r k h1 h2 h3 h4 => s.own i b r k h1 h2 h3 (ho _ h4), s.glob, s.big, s.low,
    fun k hk => s.size k (hk.elim (fun h => .inl (ho _ h)) (fun h => .inr (hx _ h))), fun i b r k h1 h2 h3 => s.hid i b r k h1 h2 (hx _ h3), fun i hi => s.res i (hn _ hi), s.rm⟩
theorem Below.weaken {M : Kp} {w w' : World} (s : Below M w w') (ho : ∀ k, N.o k → M.o k) : Below N w w' := ⟨s.os, s.tape, s.output, s.size, fun k hk => s.block k (ho k hk)⟩
/-- Numbers are kept free. -/
theorem Sim.reserve (s : Sim N φ h w) (n : Nat) (hn : h.nx + n ≤ 5000000) (R : Nat → Prop) (hR : ∀ x, R x → h.nx ≤ x ∧ x < h.nx + n) : Sim (kp N (fun _ => none) R) φ ⟨h.b, h.nx + n⟩ w := by
  have no : ∀ k, (kp N (fun _ => none) R).o k → N.o k := by
    rintro k (hk | ⟨_, _, h0, _⟩)
    · exact hk
    · exact absurd h0 (by simp)
  have nx : ∀ k, (kp N (fun _ => none) R).x k → N.x k := by
    rintro k (hk | ⟨_, _, h0, _⟩)
    · exact hk
    · exact absurd h0 (by simp)
  have hnx : (⟨h.b, h.nx + n⟩ : H).nx = h.nx + n := rfl
  refine ⟨s.blk, s.inj, ?_, ?_, s.glob, ?_, hn, ?_, ?_, ?_, s.rm⟩
  · intro i hi; rw [hnx] at hi; exact s.fresh i (by omega)
  · exact fun i b r k h1 h2 h3 h4 => s.own i b r k h1 h2 h3 (no _ h4)
  · have := s.big; rw [hnx]; omega
  · exact fun k hk => s.size k (hk.elim (fun h => .inl (no _ h)) (fun h => .inr (nx _ h)))
  · exact fun i b r k h1 h2 h3 => s.hid i b r k h1 h2 (nx _ h3)
  · rintro x (hx | hx)
    · obtain ⟨h1, h2⟩ := s.res x hx; exact ⟨by rw [hnx]; omega, h2⟩
    · obtain ⟨h1, h2⟩ := hR x hx; exact ⟨by rw [hnx]; omega, s.fresh x h1⟩
end
end Go.Ev

/- What the plan of a region that draws tells: who comes before whom. -/
namespace Go.Ev

theorem edge_binds (e : Edge) : Region.binds .any e = edge e := by
  unfold Region.binds edge
  cases e.ground <;> rfl
theorem befO_bit (acc : List Nat) (l : List Edge) (j : Nat) : Nat.testBit (befO acc l) j = true ↔ ∃ e ∈ l, edge e = true ∧ (j = e.on ∨ Nat.testBit (acc.getD e.on 0) j = true) := by
  induction l with
  | nil => simp [befO]
  | cons e l ih =>
    have hc : befO acc (e :: l) = iff' (edge e) (Nat.lor (Nat.lor (Nat.pow 2 e.on) (acc.getD e.on 0)) (befO acc l)) (befO acc l) := rfl
    rw [hc]
    cases he : edge e with
    | false =>
      rw [iff_false, ih]
      constructor
      · rintro ⟨f, h1, h2⟩; exact ⟨f, List.mem_cons_of_mem _ h1, h2⟩
      · rintro ⟨f, h1, h2, h3⟩
        rcases List.mem_cons.1 h1 with rfl | h1
        · rw [he] at h2; exact absurd h2 (by simp)
        · exact ⟨f, h1, h2, h3⟩
    | true =>
      rw [iff_true]
      have h1 : Nat.lor (Nat.lor (Nat.pow 2 e.on) (acc.getD e.on 0)) (befO acc l) = 2 ^ e.on ||| acc.getD e.on 0 ||| befO acc l := rfl
      rw [h1, Nat.testBit_or, Nat.testBit_or, Bool.or_eq_true, Bool.or_eq_true, ih, Nat.testBit_two_pow]
      constructor
      · rintro ((h | h) | ⟨f, h1, h2⟩)
        · exact ⟨e, List.mem_cons_self, he, .inl (by simpa using (of_decide_eq_true h).symm)⟩
        · exact ⟨e, List.mem_cons_self, he, .inr h⟩
        · exact ⟨f, List.mem_cons_of_mem _ h1, h2⟩
      · rintro ⟨f, h1, h2, h3⟩
        rcases List.mem_cons.1 h1 with rfl | h1
        · rcases h3 with rfl | h3
          · exact .inl (.inl (by simp))
          · exact .inl (.inr h3)
        · exact .inr ⟨f, h1, h2, h3⟩
theorem befG_spec : ∀ (l : List Oper) (acc : List Nat), (befG l acc).length = acc.length + l.length ∧ (befG l acc).take acc.length = acc ∧
    ∀ m o, l[m]? = some o → (befG l acc)[acc.length + m]? = some (befO ((befG l acc).take (acc.length + m)) o.after.toList)
  | [], acc => ⟨by simp [befG], by simp [befG], by simp⟩
  | o :: l, acc => by
    obtain ⟨h1, h2, h3⟩ := befG_spec l (acc ++ [befO acc o.after.toList])
    have hc : befG (o :: l) acc = befG l (acc ++ [befO acc o.after.toList]) := rfl
    rw [hc]
    have hlen : (acc ++ [befO acc o.after.toList]).length = acc.length + 1 := by simp
    rw [hlen] at h1 h2 h3
    have htake : (befG l (acc ++ [befO acc o.after.toList])).take acc.length = acc := by
      have := congrArg (List.take acc.length) h2
      rw [List.take_take, Nat.min_eq_left (by omega)] at this
      rw [this]; simp
    refine ⟨by rw [h1]; simp; omega, htake, ?_⟩
    intro m o' hm
    cases m with
    | zero =>
      simp at hm; subst hm
      rw [Nat.add_zero, htake]
      have h4 : (befG l (acc ++ [befO acc o.after.toList]))[acc.length]? = ((befG l (acc ++ [befO acc o.after.toList])).take (acc.length + 1))[acc.length]? := by rw [List.getElem?_take_of_lt (by omega)]
      rw [h4, h2]; simp
    | succ m =>
      have := h3 m o' (by simpa using hm)
      have e1 : acc.length + 1 + m = acc.length + (m + 1) := by omega
      rwa [e1] at this

/-- The masks. -/
noncomputable def bfi (ops : List Oper) (i : Nat) : Nat := (befs ops).getD i 0
theorem befs_get {ops : List Oper} {i : Nat} {o : Oper} (h : ops[i]? = some o) : (befs ops)[i]? = some (bfi ops i) ∧ bfi ops i = befO ((befs ops).take i) o.after.toList := by
  obtain ⟨_, _, h3⟩ := befG_spec ops []
  have := h3 i o h
  simp only [List.length_nil, Nat.zero_add] at this
  have h4 : (befs ops)[i]? = some (befO ((befs ops).take i) o.after.toList) := this
  have h5 : bfi ops i = befO ((befs ops).take i) o.after.toList := by unfold bfi; rw [List.getD_eq_getElem?_getD, h4]; rfl
  exact ⟨by rw [h5]; exact h4, h5⟩
theorem bfi_none {ops : List Oper} {i : Nat} (h : ops[i]? = none) : bfi ops i = 0 := by
  obtain ⟨h1, _, _⟩ := befG_spec ops []
  have h2 : (befs ops).length = ops.length := by show (befG ops []).length = _; simpa using h1
  unfold bfi
  rw [List.getD_eq_getElem?_getD, List.getElem?_eq_none (by rw [h2]; exact List.getElem?_eq_none_iff.1 h)]; rfl
theorem befs_length (ops : List Oper) : (befs ops).length = ops.length := by show (befG ops []).length = _; simpa using (befG_spec ops []).1

theorem edgesOk_spec : ∀ (l : List Oper) (j : Nat), edgesOk l j = true → ∀ m o e, l[m]? = some o → e ∈ o.after.toList → edge e = true → e.on < j + m
  | [], j, _, m, o, e, hm, _, _ => by simp at hm
  | p :: l, j, h, m, o, e, hm, he, hb => by
    unfold edgesOk at h
    rw [Bool.and_eq_true] at h
    cases m with
    | zero =>
      simp at hm; subst hm
      have h1 := h.1
      rw [List.all_eq_true] at h1
      have := h1 e he
      rw [hb] at this
      simpa using blt_lt (by simpa using this)
    | succ m =>
      have := edgesOk_spec l (j + 1) h.2 m o e (by simpa using hm) he hb
      omega

structure Planned (C : Ctx) (ops : List Oper) : Prop where
  edge : ∀ i o e, ops[i]? = some o → e ∈ o.after.toList → edge e = true → Nat.testBit (bfi ops i) e.on = true
  inv : ∀ i o j, ops[i]? = some o → Nat.testBit (bfi ops i) j = true → ∃ e ∈ o.after.toList, Go.Ev.edge e = true ∧ (j = e.on ∨ Nat.testBit (bfi ops e.on) j = true)
  back : ∀ i j, Nat.testBit (bfi ops i) j = true → j < i
  trans : ∀ i j k, Nat.testBit (bfi ops i) j = true → Nat.testBit (bfi ops j) k = true → Nat.testBit (bfi ops i) k = true
  cmp : ∀ i o t j p, ops[i]? = some o → (o.dst = some t ∨ t ∈ looks ops o) → ops[j]? = some p → p.dst = some t → j = i ∨ Nat.testBit (bfi ops i) j = true ∨ Nat.testBit (bfi ops j) i = true
  chain : ∀ e f, e ∈ wrs C ops 0 → f ∈ wrs C ops 0 → f < e → Nat.testBit (bfi ops e) f = true

theorem cmpT_spec (b i : Nat) (t : Tmp) : ∀ (l : List Oper) (cs : List Nat) (j : Nat), cmpT b i t l cs j = true → ∀ m p c, l[m]? = some p → cs[m]? = some c → p.dst = some t → j + m = i ∨ Nat.testBit b (j + m) = true ∨ Nat.testBit c i = true
  | [], cs, j, _, m, p, c, hm, _, _ => by simp at hm
  | q :: l, [], j, h, m, p, c, _, hc, _ => by simp at hc
  | q :: l, c0 :: cs, j, h, m, p, c, hm, hc, hd => by
    unfold cmpT at h
    rw [Bool.and_eq_true] at h
    cases m with
    | zero =>
      simp at hm hc; subst hm hc
      have h1 := h.1
      have hi : isDst q t = true := by unfold isDst; rw [hd]; simp
      rw [hi, Bool.or_eq_true, Bool.or_eq_true, Bool.or_eq_true] at h1
      rcases h1 with h1 | h1 | h1 | h1
      · exact absurd h1 (by simp)
      · exact .inl (Nat.eq_of_beq_eq_true h1)
      · exact .inr (.inl h1)
      · exact .inr (.inr h1)
    | succ m =>
      have := cmpT_spec b i t l cs (j + 1) h.2 m p c (by simpa using hm) (by simpa using hc) hd
      have e1 : j + 1 + m = j + (m + 1) := by omega
      rwa [e1] at this
theorem cmpOk_spec (ops : List Oper) (bs : List Nat) : ∀ (l : List Oper) (cs : List Nat) (i : Nat), cmpOk ops bs l cs i = true → ∀ m o b t, l[m]? = some o → cs[m]? = some b → (o.dst = some t ∨ t ∈ looks ops o) → cmpT b (i + m) t ops bs 0 = true
  | [], cs, i, _, m, o, b, t, hm, _, _ => by simp at hm
  | q :: l, [], i, h, m, o, b, t, _, hc, _ => by simp at hc
  | q :: l, c0 :: cs, i, h, m, o, b, t, hm, hc, ht => by
    unfold cmpOk at h
    rw [Bool.and_eq_true] at h
    cases m with
    | zero =>
      simp at hm hc; subst hm hc
      have h1 := h.1
      rw [List.all_eq_true] at h1
      refine h1 t ?_
      rcases ht with ht | ht
      · rw [ht]; exact List.mem_append_left _ (by simp)
      · exact List.mem_append_right _ ht
    | succ m =>
      have := cmpOk_spec ops bs l cs (i + 1) h.2 m o b t (by simpa using hm) (by simpa using hc) ht
      have e1 : i + 1 + m = i + (m + 1) := by omega
      rwa [e1] at this
theorem wrs_spec (C : Ctx) : ∀ (l : List Oper) (i j : Nat), j ∈ wrs C l i ↔ ∃ m o, j = i + m ∧ l[m]? = some o ∧ isW C o.op = true
  | [], i, j => by simp [wrs]
  | q :: l, i, j => by
    have ih := wrs_spec C l (i + 1) j
    have tail : (∃ m o, j = i + 1 + m ∧ l[m]? = some o ∧ isW C o.op = true) → ∃ m o, j = i + m ∧ (q :: l)[m]? = some o ∧ isW C o.op = true := by
      rintro ⟨m, o, h1, h2, h3⟩; exact ⟨m + 1, o, by omega, by simpa using h2, h3⟩
    have hc : wrs C (q :: l) i = bif isW C q.op then i :: wrs C l (Nat.add i 1) else wrs C l (Nat.add i 1) := rfl
    rw [hc]
    cases hw : isW C q.op with
    | true =>
      simp only [cond_true]
      constructor
      · intro h
        rcases List.mem_cons.1 h with rfl | h
        · exact ⟨0, q, by simp, by simp, hw⟩
        · exact tail (ih.1 h)
      · rintro ⟨m, o, h1, h2, h3⟩
        cases m with
        | zero => exact List.mem_cons.2 (.inl (by simpa using h1))
        | succ m => exact List.mem_cons_of_mem _ (ih.2 ⟨m, o, by omega, by simpa using h2, h3⟩)
    | false =>
      simp only [cond_false]
      constructor
      · intro h; exact tail (ih.1 h)
      · rintro ⟨m, o, h1, h2, h3⟩
        cases m with
        | zero => simp at h2; subst h2; rw [hw] at h3; exact absurd h3 (by simp)
        | succ m => exact ih.2 ⟨m, o, by omega, by simpa using h2, h3⟩

theorem plan_ok {C : Ctx} {ops : List Oper} (h : plan C ops = true) : Planned C ops := by
  unfold plan at h
  simp only [Bool.and_eq_true] at h
  obtain ⟨h1, h2, h3⟩ := h
  have lt : ∀ i o e, ops[i]? = some o → e ∈ o.after.toList → edge e = true → e.on < i := by
    intro i o e ho he hb
    have := edgesOk_spec ops 0 h1 i o e ho he hb
    omega
  have bit : ∀ i o j, ops[i]? = some o → (Nat.testBit (bfi ops i) j = true ↔ ∃ e ∈ o.after.toList, edge e = true ∧ (j = e.on ∨ Nat.testBit (bfi ops e.on) j = true)) := by
    intro i o j ho
    rw [(befs_get ho).2, befO_bit]
    constructor
    · rintro ⟨e, g1, g2, g3⟩
      refine ⟨e, g1, g2, ?_⟩
      have hlt := lt i o e ho g1 g2
      unfold bfi
      rw [List.getD_eq_getElem?_getD, List.getElem?_take_of_lt hlt] at g3
      rwa [List.getD_eq_getElem?_getD]
    · rintro ⟨e, g1, g2, g3⟩
      refine ⟨e, g1, g2, ?_⟩
      have hlt := lt i o e ho g1 g2
      rw [List.getD_eq_getElem?_getD, List.getElem?_take_of_lt hlt]
      unfold bfi at g3
      rwa [List.getD_eq_getElem?_getD] at g3
  have zero : ∀ i j, ops[i]? = none → ¬ Nat.testBit (bfi ops i) j = true := by intro i j ho; rw [bfi_none ho]; simp
  have back : ∀ i j, Nat.testBit (bfi ops i) j = true → j < i := by
    intro i
    induction i using Nat.strongRecOn with
    | _ i ih =>
      intro j hj
      cases ho : ops[i]? with
      | none => exact absurd hj (zero i j ho)
      | some o =>
        obtain ⟨e, g1, g2, g3⟩ := (bit i o j ho).1 hj
        have hlt := lt i o e ho g1 g2
        rcases g3 with rfl | g3
        · exact hlt
        · exact Nat.lt_trans (ih _ hlt j g3) hlt
  have trans : ∀ i j k, Nat.testBit (bfi ops i) j = true → Nat.testBit (bfi ops j) k = true → Nat.testBit (bfi ops i) k = true := by
    intro i
    induction i using Nat.strongRecOn with
    | _ i ih =>
      intro j k hj hk
      cases ho : ops[i]? with
      | none => exact absurd hj (zero i j ho)
      | some o =>
        obtain ⟨e, g1, g2, g3⟩ := (bit i o j ho).1 hj
        have hlt := lt i o e ho g1 g2
        refine (bit i o k ho).2 ⟨e, g1, g2, .inr ?_⟩
        rcases g3 with rfl | g3
        · exact hk
        · exact ih _ hlt j k g3 hk
  refine ⟨fun i o e ho he hb => (bit i o _ ho).2 ⟨e, he, hb, .inl rfl⟩, fun i o j ho hj => (bit i o j ho).1 hj, back, trans, ?_, ?_⟩
  · intro i o t j p ho ht hp hd
    have := cmpOk_spec ops (befs ops) ops (befs ops) 0 h2 i o _ t ho (befs_get ho).1 ht
    have := cmpT_spec _ _ t ops (befs ops) 0 this j p _ hp (befs_get hp).1 hd
    simpa using this
  · intro e f he hf hlt
    unfold chainOk at h3
    rw [List.all_eq_true] at h3
    have := h3 e he
    rw [List.all_eq_true] at this
    have := this f hf
    have hb : Nat.blt f e = true := by rw [Nat.blt_eq]; exact hlt
    rw [hb] at this
    simpa [bfi] using this

/-! The windows -/
theorem wins_spec (C : Ctx) (bs es : List Nat) : ∀ (l : List Oper) (cs : List Nat) (i m : Nat) (o : Oper) (b : Nat), l[m]? = some o → cs[m]? = some b →
    (wins C bs es l cs i)[m]? = some (bif isE C o.op || steady o.op then [] else (0 :: es.map Nat.succ).filter (win bs es b (i + m)))
  | [], cs, i, m, o, b, hm, _ => by simp at hm
  | q :: l, [], i, m, o, b, _, hc => by simp at hc
  | q :: l, c :: cs, i, m, o, b, hm, hc => by
    have e0 : wins C bs es (q :: l) (c :: cs) i = (bif isE C q.op || steady q.op then [] else (0 :: es.map Nat.succ).filter (win bs es c i)) :: wins C bs es l cs (Nat.add i 1) := rfl
    rw [e0]
    cases m with
    | zero => simp at hm hc; subst hm hc; simp
    | succ m =>
      have := wins_spec C bs es l cs (i + 1) m o b (by simpa using hm) (by simpa using hc)
      have e1 : i + 1 + m = i + (m + 1) := by omega
      rw [e1] at this
      simpa using this
end Go.Ev
