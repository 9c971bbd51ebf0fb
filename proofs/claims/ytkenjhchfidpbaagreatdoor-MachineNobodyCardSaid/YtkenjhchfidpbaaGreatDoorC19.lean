/- A region that draws its order, in whatever order: what stands between two operations, and one operation more. -/
import Derived.Test.YtkenjhchfidpbaaGreatDoorC18
import Derived.OrdersIn
namespace Go.Ev
open Go.RowKit

def Lst (L : Array Bool) (i : Nat) : Prop := L.getD i false = true
theorem Lst.lt {L : Array Bool} {i : Nat} (h : Lst L i) : i < L.size := by
  rcases Nat.lt_or_ge i L.size with h' | h'
  · exact h'
  · unfold Lst at h; rw [Array.getD_eq_getD_getElem?, Array.getElem?_eq_none h'] at h; exact absurd h (by simp)
theorem Lst.not {L : Array Bool} {i : Nat} (h : L.getD i true = false) : i < L.size ∧ ¬ Lst L i := by
  rcases Nat.lt_or_ge i L.size with h' | h'
  · refine ⟨h', fun hl => ?_⟩
    unfold Lst at hl
    rw [Array.getD_eq_getD_getElem?, Array.getElem?_eq_getElem h'] at hl h
    simp at hl h
    rw [hl] at h; exact absurd h (by simp)
  · rw [Array.getD_eq_getD_getElem?, Array.getElem?_eq_none h'] at h; exact absurd h (by simp)
theorem Lst.set {L : Array Bool} {i j : Nat} (hi : i < L.size) : Lst (L.setIfInBounds i true) j ↔ Lst L j ∨ j = i := by
  by_cases h : i = j
  · subst h
    constructor
    · intro _; exact .inr rfl
    · intro _; unfold Lst; rw [Array.getD_eq_getD_getElem?]; simp [hi]
  · unfold Lst
    rw [getD_set_ne false h]
    constructor
    · exact .inl
    · rintro (h1 | rfl)
      · exact h1
      · exact absurd rfl h

/-- An operation's own, and what comes before it. -/
noncomputable def bs (ops : List Oper) (j : Nat) : Nat → Bool := fun q => Nat.testBit (bfi ops j) q || Nat.beq q j
theorem bs_self {ops : List Oper} {j : Nat} : bs ops j j = true := by unfold bs; simp
theorem bs_or {ops : List Oper} {j q : Nat} (h : bs ops j q = true) : Nat.testBit (bfi ops j) q = true ∨ q = j := by
  unfold bs at h; rw [Bool.or_eq_true] at h
  rcases h with h | h
  · exact .inl h
  · exact .inr (Nat.eq_of_beq_eq_true h)
theorem bs_bf {ops : List Oper} {j q : Nat} (h : Nat.testBit (bfi ops j) q = true) : bs ops j q = true := by unfold bs; rw [h]; rfl

/-- Numbers that are kept free. -/
def Rv (S : Nat → Dr) (ops : List Oper) (base p : Nat) (x : Nat) : Prop := base ≤ x ∧ x < base + countA ops ∧ ∀ ab ∈ (S ops.length).as, ab.num = x → Nat.testBit (S p).pm ab.i = false

structure DInv (C : Ctx) (ops : List Oper) (S : Nat → Dr) (base : Nat) (N : Kp) (φ₀ : Pl) (w₀ : World) (a₀ : Act) (L : Array Bool) (p : Nat) (a : Act) (w : World) (φ : Pl) (E : Ens) : Prop where
  size : L.size = ops.length
  cut : p = 0 ∨ ∃ e, p = e + 1 ∧ e ∈ wrs C ops 0
  wl : ∀ e, e ∈ wrs C ops 0 → (Lst L e ↔ e < p)
  closed : ∀ i j, Lst L i → Nat.testBit (bfi ops i) j = true → Lst L j
  sim : Sim (kp N E (Rv S ops base p)) φ (S p).h w
  le : Le φ₀ φ
  bel : Below N w₀ w
  sz : a.tmps.size = a₀.tmps.size
  df : a.defers = a₀.defers
  ent : ∀ x e, E x = some e → ∃ ab ∈ (S ops.length).as, ab.num = x ∧ ab.i = e.i ∧ Lst L e.i ∧ Nat.testBit (S p).pm e.i = false ∧ ¬ N.o e.r ∧ ¬ N.x e.r ∧
    ∃ o, w.heap[e.r]? = some o ∧ BR (ext φ E (bs ops e.i)) ab.blk o 0 ∧ (∀ cs t fr, o = .cells cs t fr → e.m = cs.size)
  ent2 : ∀ ab ∈ (S ops.length).as, Lst L ab.i → Nat.testBit (S p).pm ab.i = false → ∃ e, E ab.num = some e ∧ e.i = ab.i
  einj : ∀ x y e f, E x = some e → E y = some f → e.r = f.r → x = y
  tmp1 : ∀ (t j : Nat) (o : Oper), ops[j]? = some o → o.dst = some t → Lst L j → (∀ (k : Nat) (q : Oper), ops[k]? = some q → q.dst = some t → Lst L k → k ≤ j) → ∃ v', a.tmps[t]? = some v' ∧ VR (ext φ E (bs ops j)) (S (j + 1)).v v'
  tmp0 : ∀ (t : Nat) (v : AV), (∀ (k : Nat) (q : Oper), ops[k]? = some q → q.dst = some t → ¬ Lst L k) → (S 0).T.get t = some v → ∃ v', a.tmps[t]? = some v' ∧ VR φ₀ v v'

section
variable {C : Ctx} {cf : CallA} {cr : RoundA} {ops : List Oper} {S : Nat → Dr} {base : Nat} {N : Kp} {φ₀ φ : Pl} {w₀ w : World} {a₀ a : Act} {L : Array Bool} {p : Nat} {E : Ens}

/-- What holds of the whole run. -/
structure DRun (C : Ctx) (cf : CallA) (cr : RoundA) (ops : List Oper) (S : Nat → Dr) (base : Nat) (N : Kp) (sz : Nat) : Prop where
  pl : Planned C ops
  rn : Ran C cf cr base ops S
  nn : ∀ x, N.n x → x < base
  top : base + countA ops ≤ 5000000
  ds : ∀ (i : Nat) (o : Oper) (d : Tmp), ops[i]? = some o → o.dst = some d → d < sz
  szl : sz ≤ 5000000
  win : ∀ (i : Nat) (o : Oper), ops[i]? = some o → isE C o.op = false → steady o.op = false → ∀ p, p ∈ (0 :: (wrs C ops 0).map Nat.succ) → win (befs ops) (wrs C ops 0) (bfi ops i) i p = true →
    wantA ops (restr (S i).T (looks ops o)) o = some true → ∃ h', anyA C cf cr (restr (S i).T (looks ops o)) (plc (S p).h (S ops.length).as (bfi ops i) (S p).pm) o.op = some ((S (i + 1)).v, h')

variable {sz : Nat}
theorem DInv.cutle (D : DInv C ops S base N φ₀ w₀ a₀ L p a w φ E) : p ≤ ops.length := by
  rcases D.cut with rfl | ⟨e, rfl, he⟩
  · exact Nat.zero_le _
  · obtain ⟨m, o, h1, h2, _⟩ := (wrs_spec C ops 0 e).1 he
    have := (List.getElem?_eq_some_iff.1 h2).1
    omega
theorem DInv.rv (R : DRun C cf cr ops S base N sz) (D : DInv C ops S base N φ₀ w₀ a₀ L p a w φ E) {x : Nat} {e : En} (h : E x = some e) : Rv S ops base p x ∧ φ x = none ∧ x < (S p).h.nx ∧ ¬ N.n x := by
  obtain ⟨ab, h1, h2, h3, h4, h5, _⟩ := D.ent x e h
  have hn := R.rn.as_num (Nat.le_refl _) h1
  have hr : Rv S ops base p x := by
    refine ⟨by omega, by omega, ?_⟩
    intro c hc he
    have := R.rn.as_inj (Nat.le_refl _) hc h1 (by omega)
    subst this
    rw [h3]; exact h5
  obtain ⟨k1, k2⟩ := D.sim.res x (.inr hr)
  exact ⟨hr, k2, k1, fun hx => by have := R.nn x hx; omega⟩
theorem DInv.dom (R : DRun C cf cr ops S base N sz) (D : DInv C ops S base N φ₀ w₀ a₀ L p a w φ E) : ∀ x e, E x = some e → φ x = none := fun _x _e h => (D.rv R h).2.1

/-- The blocks that come before come to lie in the heap. -/
theorem DInv.placed (R : DRun C cf cr ops S base N sz) (D : DInv C ops S base N φ₀ w₀ a₀ L p a w φ E) {M : Nat} {as : List Ab} (hM : ∀ ab ∈ (S ops.length).as, Nat.testBit M ab.i = true → Lst L ab.i)
    (hcl : ∀ j q, Nat.testBit M j = true → bs ops j q = true → Nat.testBit M q = true) (has : ∀ ab ∈ as, ab ∈ (S ops.length).as) (has2 : ∀ ab ∈ (S ops.length).as, Nat.testBit M ab.i = true → ab ∈ as)
    {R' : Nat → Prop} (hR : ∀ x, R' x → Rv S ops base p x ∧ ∀ ab ∈ (S ops.length).as, ab.num = x → Nat.testBit M ab.i = false) :
    Sim (kp N (E.drop (Nat.testBit M)) R') (ext φ E (Nat.testBit M)) (plc (S p).h as M (S p).pm) w := by
  have hn : ∀ ab ∈ as, ab.num < 5000000 := fun ab h => by have := R.rn.as_num (Nat.le_refl _) (has ab h); have := R.top; omega
  have hi : ∀ a c, a ∈ as → c ∈ as → a.num = c.num → a = c := fun a c h1 h2 => R.rn.as_inj (Nat.le_refl _) (has a h1) (has c h2)
  refine D.sim.place ?_ D.einj ?_ ?_ (plc_nx _ _ _ _) ?_
  · intro x e h
    obtain ⟨_, r1, r2, r3⟩ := D.rv R h
    obtain ⟨ab, h1, h2, h3, h4, h5, h6, h7, _⟩ := D.ent x e h
    exact ⟨r1, r2, h6, h7, r3⟩
  · intro x e h hb
    obtain ⟨ab, h1, h2, h3, h4, h5, h6, h7, o, h8, h9, h10⟩ := D.ent x e h
    refine ⟨ab.blk, o, ?_, h8, h9.mono (ext_mono (D.dom R) fun q hq => hcl _ q hb hq), h10⟩
    rw [← h2]
    exact plc_in _ _ _ _ hn hi (has2 ab h1 (by rw [h3]; exact hb)) (by rw [h3]; exact hb) (by rw [h3]; exact h5)
  · intro x hx
    refine plc_out _ _ _ _ hn ?_
    intro ab hab he hb
    cases hp : Nat.testBit (S p).pm ab.i with
    | true => rfl
    | false =>
      obtain ⟨e, h1, h2⟩ := D.ent2 ab (has ab hab) (hM ab (has ab hab) hb) hp
      have := hx e (by rw [← he]; exact h1)
      rw [h2, hb] at this; exact absurd this (by simp)
  · intro x hx
    obtain ⟨h1, h2⟩ := hR x hx
    refine ⟨h1, ?_⟩
    intro e he
    obtain ⟨ab, k1, k2, k3, _⟩ := D.ent x e he
    rw [← k3]; exact h2 ab k1 k2

/-- What is looked at. -/
theorem DInv.looks (R : DRun C cf cr ops S base N sz) (D : DInv C ops S base N φ₀ w₀ a₀ L p a w φ E) {i : Nat} {o : Oper} (ho : ops[i]? = some o) (hun : ¬ Lst L i) (hpre : ∀ j, Nat.testBit (bfi ops i) j = true → Lst L j) :
    TR (ext φ E (Nat.testBit (bfi ops i))) (restr (S i).T (Go.Ev.looks ops o)) a.tmps := by
  intro t v h
  obtain ⟨ht, hT⟩ := restr_get _ _ h
  have hlt := (List.getElem?_eq_some_iff.1 ho).1
  have hd : ∀ (i : Nat) (o : Oper) (d : Tmp), ops[i]? = some o → o.dst = some d → d < 5000000 := fun i o d h1 h2 => Nat.lt_of_lt_of_le (R.ds i o d h1 h2) R.szl
  -- writers that are listed come before
  have before : ∀ (k : Nat) (q : Oper), ops[k]? = some q → q.dst = some t → Lst L k → Nat.testBit (bfi ops i) k = true := by
    intro k q hq hqd hl
    rcases R.pl.cmp i o t k q ho (.inr ht) hq hqd with rfl | h1 | h1
    · exact absurd hl hun
    · exact h1
    · exact absurd (D.closed k i hl h1) hun
  rcases R.rn.temp hd i (by omega) t v hT with ⟨j, q, g1, g2, g3, g4, g5⟩ | ⟨g1, g2⟩
  · have hb : Nat.testBit (bfi ops i) j = true := by
      rcases R.pl.cmp i o t j q ho (.inr ht) g2 g3 with rfl | h1 | h1
      · omega
      · exact h1
      · have := R.pl.back j i h1; omega
    obtain ⟨v', k1, k2⟩ := D.tmp1 t j q g2 g3 (hpre j hb) (by
      intro k q' hq hqd hl
      have hk := R.pl.back i k (before k q' hq hqd hl)
      rcases Nat.lt_or_ge j k with h1 | h1
      · exact absurd hqd (g5 k q' h1 hk hq)
      · exact h1)
    refine ⟨v', k1, ?_⟩
    rw [g4]
    refine k2.mono (ext_mono (D.dom R) ?_)
    intro q hq
    rcases bs_or hq with h1 | rfl
    · exact R.pl.trans i j q hb h1
    · exact hb
  · obtain ⟨v', k1, k2⟩ := D.tmp0 t v (by
      intro k q hq hqd hl
      exact g2 k q (R.pl.back i k (before k q hq hqd hl)) hq hqd) g1
    exact ⟨v', k1, k2.mono (D.le.trans (ext_le (D.dom R)))⟩

/-- One operation more. -/
theorem DInv.next (R : DRun C cf cr ops S base N a₀.tmps.size) (D : DInv C ops S base N φ₀ w₀ a₀ L p a w φ E) {i : Nat} {o : Oper} (ho : ops[i]? = some o) (hun : ¬ Lst L i) (hpre : ∀ j, Nat.testBit (bfi ops i) j = true → Lst L j)
    {p' : Nat} {w' : World} {φ' : Pl} {E' : Ens} {v' : Value} (cut : p' = 0 ∨ ∃ e, p' = e + 1 ∧ e ∈ wrs C ops 0) (wl : ∀ e, e ∈ wrs C ops 0 → ((Lst L e ∨ e = i) ↔ e < p')) (sim : Sim (kp N E' (Rv S ops base p')) φ' (S p').h w') (le : Le φ φ')
    (bel : Below N w w') (mono : ∀ b, Le (ext φ E b) (ext φ' E' b))
    (ent : ∀ x e, E' x = some e → ∃ ab ∈ (S ops.length).as, ab.num = x ∧ ab.i = e.i ∧ (Lst L e.i ∨ e.i = i) ∧ Nat.testBit (S p').pm e.i = false ∧ ¬ N.o e.r ∧ ¬ N.x e.r ∧
      ∃ o, w'.heap[e.r]? = some o ∧ BR (ext φ' E' (bs ops e.i)) ab.blk o 0 ∧ (∀ cs t fr, o = .cells cs t fr → e.m = cs.size))
    (ent2 : ∀ ab ∈ (S ops.length).as, Lst L ab.i ∨ ab.i = i → Nat.testBit (S p').pm ab.i = false → ∃ e, E' ab.num = some e ∧ e.i = ab.i)
    (einj : ∀ x y e f, E' x = some e → E' y = some f → e.r = f.r → x = y) (hv : VR (ext φ' E' (bs ops i)) (S (i + 1)).v v') :
    DInv C ops S base N φ₀ w₀ a₀ (L.setIfInBounds i true) p' (a.put o.dst v') w' φ' E' := by
  have hi : i < L.size := by rw [D.size]; exact (List.getElem?_eq_some_iff.1 ho).1
  have hs : ∀ j, Lst (L.setIfInBounds i true) j ↔ Lst L j ∨ j = i := fun j => Lst.set hi
  -- whoever writes what is written here and is listed comes before
  have before : ∀ (t k : Nat) (q : Oper), o.dst = some t → ops[k]? = some q → q.dst = some t → Lst L k → k < i := by
    intro t k q hd hq hqd hl
    rcases R.pl.cmp i o t k q ho (.inl hd) hq hqd with rfl | h1 | h1
    · exact absurd hl hun
    · exact R.pl.back i k h1
    · exact absurd (D.closed k i hl h1) hun
  have same : ∀ t, o.dst ≠ some t → (a.put o.dst v').tmps[t]? = a.tmps[t]? := by
    intro t hne
    cases hd : o.dst with
    | none => rfl
    | some d =>
      show (a.tmps.setIfInBounds d v')[t]? = _
      rw [Array.getElem?_setIfInBounds, if_neg]
      intro h0; subst h0; exact hne hd
  refine ⟨by simp [D.size], cut, fun e he => (hs e).trans (wl e he), ?_, sim, D.le.trans le, D.bel.trans bel, by rw [put_size]; exact D.sz, by rw [put_defers]; exact D.df, ?_, ?_, einj, ?_, ?_⟩
  · intro k j hk hb
    rw [hs] at hk ⊢
    rcases hk with hk | rfl
    · exact .inl (D.closed k j hk hb)
    · exact .inl (hpre j hb)
  · intro x e h
    obtain ⟨ab, h1, h2, h3, h4, h5⟩ := ent x e h
    exact ⟨ab, h1, h2, h3, (hs _).2 h4, h5⟩
  · intro ab hab hl
    exact ent2 ab hab ((hs _).1 hl)
  · intro t j q hq hqd hl0 hmax
    rcases (hs j).1 hl0 with hl | rfl
    · by_cases hji : j = i
      · exact absurd (hji ▸ hl) hun
      · have hne : o.dst ≠ some t := by
          intro hd
          have h1 := hmax i o ho hd ((hs i).2 (.inr rfl))
          have h2 := before t j q hd hq hqd hl
          omega
        obtain ⟨u, k1, k2⟩ := D.tmp1 t j q hq hqd hl (fun k q' h1 h2 h3 => hmax k q' h1 h2 ((hs k).2 (.inl h3)))
        exact ⟨u, by rw [same t hne]; exact k1, k2.mono (mono _)⟩
    · rw [ho] at hq; injection hq with hq; subst hq
      refine ⟨v', ?_, hv⟩
      have hlt := R.ds _ o t ho hqd
      rw [hqd]
      show (a.tmps.setIfInBounds t v')[t]? = _
      have hlt2 : t < a.tmps.size := by rw [D.sz]; exact hlt
      simp [hlt2]
  · intro t v hno hT
    have hne : o.dst ≠ some t := fun hd => hno i o ho hd ((hs i).2 (.inr rfl))
    obtain ⟨u, k1, k2⟩ := D.tmp0 t v (fun k q h1 h2 h3 => hno k q h1 h2 ((hs k).2 (.inl h3))) hT
    exact ⟨u, by rw [same t hne]; exact k1, k2⟩
end
end Go.Ev
