/- A region that draws its order, in whatever order: what the evaluator says of it. -/
import Derived.Test.YtkenjhchfidpbaaGreatDoorC19
namespace Go.Ev
open Go.RowKit
section
variable {C : Ctx} {P : Program} {cf : CallA} {cr : RoundA} {opsA : Array Oper} {S : Nat → Dr} {base : Nat} {N : Kp} {φ₀ φ : Pl} {w₀ w : World} {a₀ a : Act} {L : Array Bool} {p : Nat} {E : Ens} {F : Fence} {n : Nat} {Q : Exit → Act → World → Prop}

theorem alloc_at (w : World) (o : Obj) : (w.alloc o).heap[w.heap.size]? = some o := by show (w.heap.push o)[w.heap.size]? = _; simp

/-- One operation, whichever comes. -/
theorem step_ok (K : CtxOk C P) (HO : ∀ N, OpsOk C P N cf cr F n) (hF : ∀ f, F.fn f) (R : DRun C cf cr opsA.toList S base N a₀.tmps.size) (D : DInv C opsA.toList S base N φ₀ w₀ a₀ L p a w φ E) {i : Nat} {o : Oper} (ho : opsA[i]? = some o)
    (hun : ¬ Lst L i) (hpre : ∀ j, Nat.testBit (bfi opsA.toList i) j = true → Lst L j) {K' : Act → World → Prop}
    (hK : ∀ p' a' w' φ' E', DInv C opsA.toList S base N φ₀ w₀ a₀ (L.setIfInBounds i true) p' a' w' φ' E' → K' a' w') : wpOpIn F n P opsA Q i K' a w := by
  have hol : opsA.toList[i]? = some o := by rw [Array.getElem?_toList]; exact ho
  have hlt : i < opsA.toList.length := (List.getElem?_eq_some_iff.1 hol).1
  obtain ⟨wt, s1, _, s3, sW, sN, sA, sR⟩ := drS_some (R.rn.2.2 i o hol)
  have hT := D.looks R hol hun hpre
  have hwant : Region.wanted o (yielded opsA a.tmps) = wt := wantA_ok hT s1
  have hcl : ∀ j q, Nat.testBit (bfi opsA.toList i) j = true → bs opsA.toList j q = true → Nat.testBit (bfi opsA.toList i) q = true := by
    intro j q hj hq
    rcases bs_or hq with h1 | rfl
    · exact R.pl.trans i j q hj h1
    · exact hj
  -- who lies in it already comes before
  have hpm : ∀ j, Nat.testBit (S p).pm j = true → Lst L j ∧ (i ∈ wrs C opsA.toList 0 → Nat.testBit (bfi opsA.toList i) j = true) := by
    intro j hj
    rcases D.cut with hp0 | ⟨e, he, hw⟩
    · rw [hp0, R.rn.2.1] at hj; exact absurd hj (by simp)
    · obtain ⟨m, oe, k1, k2, k3⟩ := (wrs_spec C _ 0 e).1 hw
      have k1 : e = m := by omega
      subst k1
      rw [he, R.rn.pm_at k2 k3] at hj
      have hle := (D.wl e hw).2 (by omega)
      refine ⟨D.closed e j hle hj, fun hi => ?_⟩
      have hlt : e < i := by
        rcases Nat.lt_trichotomy e i with h1 | h1 | h1
        · exact h1
        · subst h1; exact absurd hle hun
        · have := D.closed e i hle (R.pl.chain e i hw hi h1); exact absurd this hun
      exact R.pl.trans i e j (R.pl.chain i e hi hw hlt) hj
  have hM : ∀ ab ∈ (S opsA.toList.length).as, Nat.testBit (bfi opsA.toList i) ab.i = true → Lst L ab.i := fun ab _ h => hpre _ h
  unfold wpOpIn
  rw [ho]
  show if Region.wanted o (yielded opsA a.tmps) = true then o.wpIn F n P a w K' Q else (∀ f, o.about P w a.eval = some f → F.fn f) ∧ K' (a.put o.dst undef) w
  rw [hwant]
  cases hW : isW C o.op with
  | true =>
    have hiw : i ∈ wrs C opsA.toList 0 := (wrs_spec C _ 0 i).2 ⟨i, o, by omega, hol, hW⟩
    have hpi : p ≤ i := by
      rcases Nat.lt_or_ge i p with h1 | h1
      · exact absurd ((D.wl i hiw).2 h1) hun
      · exact h1
    obtain ⟨st1, st2⟩ := R.rn.still hpi (by omega) (by
      intro e oe h1 h2 h3
      cases hw : isW C oe.op with
      | false => rfl
      | true =>
        have hew : e ∈ wrs C opsA.toList 0 := (wrs_spec C _ 0 e).2 ⟨e, oe, by omega, h3, hw⟩
        have := (D.wl e hew).1 (hpre e (R.pl.chain i e hiw hew h2))
        omega)
    obtain ⟨w1, w2, w3, w4⟩ := sW hW
    have hAf : isA o.op = false := isW_isA hW
    rw [st1, st2] at w3 w4
    have hsub : ∀ ab ∈ (S i).as, ab ∈ (S opsA.toList.length).as := R.rn.as_mono (by omega) (Nat.le_refl _)
    have hback : ∀ ab ∈ (S opsA.toList.length).as, Nat.testBit (bfi opsA.toList i) ab.i = true → ab ∈ (S i).as := fun ab h1 h2 => R.rn.as_back (by omega) (Nat.le_refl _) ab h1 (R.pl.back _ _ h2)
    have sp := D.placed R (M := bfi opsA.toList i) (as := (S i).as) hM hcl hsub hback (R' := Rv S opsA.toList base (i + 1)) (by
      rintro x ⟨h1, h2, h3⟩
      rw [w2] at h3
      refine ⟨⟨h1, h2, ?_⟩, h3⟩
      intro ab hab he
      cases hp : Nat.testBit (S p).pm ab.i with
      | false => rfl
      | true => have := (hpm _ hp).2 hiw; rw [h3 ab hab he] at this; exact absurd this (by simp))
    -- whatever comes of it
    have fin : ∀ v' w' χ, Le (ext φ E (Nat.testBit (bfi opsA.toList i))) χ → VR χ (S (i + 1)).v v' → Sim (kp N (E.drop (Nat.testBit (bfi opsA.toList i))) (Rv S opsA.toList base (i + 1))) χ (S (i + 1)).h w' →
        Below (kp N (E.drop (Nat.testBit (bfi opsA.toList i))) (Rv S opsA.toList base (i + 1))) w w' → K' (a.put o.dst v') w' := by
      intro v' w' χ hl hv hs hb
      have hdrop : ∀ x e, E.drop (Nat.testBit (bfi opsA.toList i)) x = some e → χ x = none := by
        intro x e he
        obtain ⟨he, hbe⟩ := drop_some.1 he
        obtain ⟨⟨r1, r2, r3⟩, _⟩ := D.rv R he
        obtain ⟨ab, k1, k2, k3, _⟩ := D.ent x e he
        refine (hs.res x (.inr ⟨r1, r2, ?_⟩)).2
        intro c hc hcx
        have := R.rn.as_inj (Nat.le_refl _) hc k1 (by omega)
        subst this
        rw [w2, k3]; exact hbe
      have mono : ∀ b, Le (ext φ E b) (ext χ (E.drop (Nat.testBit (bfi opsA.toList i))) b) := fun b => (ext_drop (D.dom R)).trans (ext_base hl hdrop)
      refine hK _ _ _ _ _ (D.next R hol hun hpre (p' := i + 1) (.inr ⟨i, rfl, hiw⟩) ?_ hs ((ext_le (D.dom R)).trans hl) (hb.weaken fun k hk => .inl hk) mono ?_ ?_ ?_ (hv.mono (ext_le hdrop)))
      · intro e he
        constructor
        · rintro (h1 | rfl)
          · have := (D.wl e he).1 h1; omega
          · omega
        · intro h1
          by_cases h2 : e = i
          · exact .inr h2
          · exact .inl (hpre e (R.pl.chain i e hiw he (by omega)))
      · intro x e he0
        obtain ⟨he, hbe⟩ := drop_some.1 he0
        obtain ⟨ab, k1, k2, k3, k4, k5, k6, k7, ob, k8, k9, k10⟩ := D.ent x e he
        refine ⟨ab, k1, k2, k3, .inl k4, by rw [w2]; exact hbe, k6, k7, ob, ?_, k9.mono (mono _), k10⟩
        rw [hb.block e.r (.inr ⟨x, e, he0, rfl⟩)]; exact k8
      · intro ab hab hl2 hpm2
        rw [w2] at hpm2
        rcases hl2 with hl2 | hl2
        · obtain ⟨e, k1, k2⟩ := D.ent2 ab hab hl2 (by
            cases hp : Nat.testBit (S p).pm ab.i with
            | false => rfl
            | true => have := (hpm _ hp).2 hiw; rw [hpm2] at this; exact absurd this (by simp))
          exact ⟨e, drop_some.2 ⟨k1, by rw [k2]; exact hpm2⟩, k2⟩
        · obtain ⟨_, oa, k1, k2⟩ := (R.rn.as_facts _ (Nat.le_refl _)).1 ab hab
          rw [hl2, hol] at k1; injection k1 with k1; subst k1
          rw [hAf] at k2; exact absurd k2 (by simp)
      · intro x y e f hx hy hr
        exact D.einj x y e f (drop_some.1 hx).1 (drop_some.1 hy).1 hr
    cases wt with
    | true =>
      rw [if_pos rfl]
      exact HO _ sp hT (w3 rfl) K' Q fin
    | false =>
      rw [if_neg (by simp)]
      refine ⟨fun f _ => hF f, fin undef w _ (Le.refl _) ?_ ?_ (Below.refl _ w)⟩
      · rw [s3 rfl]; exact vrunit
      · rw [w4 rfl]; exact sp
  | false =>
    obtain ⟨n1, n2⟩ := sN hW
    have hniw : i ∉ wrs C opsA.toList 0 := by
      intro h0
      obtain ⟨m, o', k1, k2, k3⟩ := (wrs_spec C _ 0 i).1 h0
      have k1 : i = m := by omega
      subst k1
      rw [hol] at k2; injection k2 with k2; subst k2
      rw [hW] at k3; exact absurd k3 (by simp)
    have wl : ∀ e, e ∈ wrs C opsA.toList 0 → ((Lst L e ∨ e = i) ↔ e < p) := by
      intro e he
      constructor
      · rintro (h1 | rfl)
        · exact (D.wl e he).1 h1
        · exact absurd he hniw
      · intro h1; exact .inl ((D.wl e he).2 h1)
    -- nothing is made: all stays
    have fin : ∀ v', (∀ ab ∈ (S opsA.toList.length).as, ab.i ≠ i) → VR (ext φ E (bs opsA.toList i)) (S (i + 1)).v v' → K' (a.put o.dst v') w := by
      intro v' hno hv
      refine hK _ _ _ _ _ (D.next R hol hun hpre D.cut wl D.sim (Le.refl φ) (Below.refl N w) (fun b => Le.refl _) ?_ ?_ D.einj hv)
      · intro x e he
        obtain ⟨ab, k1, k2, k3, k4, k5⟩ := D.ent x e he
        exact ⟨ab, k1, k2, k3, .inl k4, k5⟩
      · intro ab hab hl2 hp
        exact D.ent2 ab hab (hl2.resolve_right (hno ab hab)) hp
    have hnoA : (S (i + 1)).as = (S i).as → ∀ ab ∈ (S opsA.toList.length).as, ab.i ≠ i := by
      intro he ab hab h0
      have := R.rn.as_back (i := i + 1) (by omega) (Nat.le_refl _) ab hab (by omega)
      rw [he] at this
      have := ((R.rn.as_facts i (by omega)).1 ab this).1
      omega
    -- the places with what comes before
    have spR : ∀ as : List Ab, as = (S opsA.toList.length).as → Sim (kp N (E.drop (Nat.testBit (bfi opsA.toList i))) (fun _ => False)) (ext φ E (Nat.testBit (bfi opsA.toList i))) (plc (S p).h as (bfi opsA.toList i) (S p).pm) w := fun as he =>
      D.placed R (M := bfi opsA.toList i) hM hcl (fun ab h => he ▸ h) (fun ab h _ => he ▸ h) (fun x hx => absurd hx (by simp))
    have hbs : ∀ q, Nat.testBit (bfi opsA.toList i) q = true → bs opsA.toList i q = true := fun q h => bs_bf h
    cases hA : isA o.op with
    | true =>
      cases wt with
      | false =>
        rw [if_neg (by simp)]
        refine ⟨fun f _ => hF f, fin undef (hnoA ((sA hA).2 rfl)) ?_⟩
        rw [s3 rfl]; exact vrunit
      | true =>
        rw [if_pos rfl]
        obtain ⟨blk, m1, m2⟩ := (sA hA).1 rfl
        have hab : (⟨i, base + (S i).as.length, blk⟩ : Ab) ∈ (S opsA.toList.length).as := R.rn.as_mono (i := i + 1) (by omega) (Nat.le_refl _) _ (by rw [m2]; simp)
        generalize hnum : base + (S i).as.length = num at m1 m2 hab
        have hpmi : Nat.testBit (S p).pm i = false := by
          cases hp : Nat.testBit (S p).pm i with
          | false => rfl
          | true => exact absurd (hpm i hp).1 hun
        have hnb := R.rn.as_num (Nat.le_refl _) hab
        have hfree : φ num = none := by
          refine (D.sim.res num (.inr ⟨hnb.1, hnb.2, ?_⟩)).2
          intro c hc hcx
          have := R.rn.as_inj (Nat.le_refl _) hc hab hcx
          subst this; exact hpmi
        have hEn : E num = none := by
          cases he : E num with
          | none => rfl
          | some e =>
            obtain ⟨ab, k1, k2, k3, k4, _⟩ := D.ent num e he
            have := R.rn.as_inj (Nat.le_refl _) k1 hab k2
            subst this
            have k3 : i = e.i := k3
            rw [← k3] at k4; exact absurd k4 hun
        have hext : ext φ E (Nat.testBit (bfi opsA.toList i)) num = none := by rw [(ext_none hEn).1]; exact hfree
        obtain ⟨v', ob, mm, r1, r2, r3, r4⟩ := mkA_ok (P := P) K (spR _ rfl) hT hA hext m1
        have hset : ∀ x e, E.set num ⟨i, w.heap.size, mm⟩ x = some e → (x = num ∧ e = ⟨i, w.heap.size, mm⟩) ∨ (x ≠ num ∧ E x = some e) := by
          intro x e he
          unfold Ens.set at he
          by_cases hx : x = num
          · rw [if_pos hx] at he; injection he with he; exact .inl ⟨hx, he.symm⟩
          · rw [if_neg hx] at he; exact .inr ⟨hx, he⟩
        have hset1 : E.set num ⟨i, w.heap.size, mm⟩ num = some ⟨i, w.heap.size, mm⟩ := if_pos rfl
        have hset2 : ∀ x, x ≠ num → E.set num ⟨i, w.heap.size, mm⟩ x = E x := fun x hx => if_neg hx
        have look : ∀ b x, x ≠ num → ext φ (E.set num ⟨i, w.heap.size, mm⟩) b x = ext φ E b x ∧ (ext φ (E.set num ⟨i, w.heap.size, mm⟩) b).m x = (ext φ E b).m x := by
          intro b x hx
          have h0 := hset2 x hx
          cases hx2 : E x with
          | none =>
            rw [hx2] at h0
            rw [(ext_none h0).1, (ext_none h0).2, (ext_none hx2).1, (ext_none hx2).2]; exact ⟨rfl, rfl⟩
          | some e =>
            rw [hx2] at h0
            cases hb : b e.i with
            | true => rw [(ext_some h0 hb).1, (ext_some h0 hb).2, (ext_some hx2 hb).1, (ext_some hx2 hb).2]; exact ⟨rfl, rfl⟩
            | false => rw [(ext_off h0 hb).1, (ext_off h0 hb).2, (ext_off hx2 hb).1, (ext_off hx2 hb).2]; exact ⟨rfl, rfl⟩
        have mono : ∀ b, Le (ext φ E b) (ext φ (E.set num ⟨i, w.heap.size, mm⟩) b) := by
          intro b
          have key : ∀ x y, ext φ E b x = some y → x ≠ num := by
            intro x y h h0
            subst h0
            rw [(ext_none hEn).1, hfree] at h; exact absurd h (by simp)
          exact ⟨fun x y h => by rw [(look b x (key x y h)).1]; exact h, fun x y h => (look b x (key x y h)).2⟩
        have hown : Le (add (ext φ E (Nat.testBit (bfi opsA.toList i))) num (w.heap.size, 0) mm) (ext φ (E.set num ⟨i, w.heap.size, mm⟩) (bs opsA.toList i)) := by
          have h1 := ext_some (φ := φ) (b := bs opsA.toList i) hset1 bs_self
          have h2 : Le (ext φ E (Nat.testBit (bfi opsA.toList i))) (ext φ (E.set num ⟨i, w.heap.size, mm⟩) (bs opsA.toList i)) := (ext_mono (D.dom R) hbs).trans (mono _)
          refine ⟨fun x y h => ?_, fun x y h => ?_⟩
          · by_cases hx : x = num
            · subst hx; rw [add_at] at h; rw [h1.1]; exact h
            · rw [add_ne hx] at h; exact h2.p _ _ h
          · by_cases hx : x = num
            · subst hx; rw [add_m, h1.2]
            · rw [add_ne hx] at h; rw [add_m_ne hx]; exact h2.m _ _ h
        refine ⟨fun f _ => hF f, ?_⟩
        have hnd : ∀ c, o.op ≠ .defer c := by intro c h0; rw [h0] at hA; exact absurd hA (by simp [isA])
        rw [Oper.semAt_eq _ _ _ hnd, r1]
        refine hK _ _ _ _ _ (D.next R hol hun hpre D.cut wl (D.sim.keep ob num i mm) (Le.refl φ) ((Below.refl N w).alloc (fun k hk => D.sim.size k (.inl (.inl hk))) ob) mono ?_ ?_ ?_ (r4.mono hown))
        · intro x e he
          rcases hset x e he with ⟨rfl, rfl⟩ | ⟨hx, he⟩
          · refine ⟨_, hab, rfl, rfl, .inr rfl, hpmi, ?_, ?_, ob, alloc_at w ob, r2.mono hown, r3⟩
            · intro hk; exact Nat.lt_irrefl _ (D.sim.size _ (.inl (.inl hk)))
            · intro hk; exact Nat.lt_irrefl _ (D.sim.size _ (.inr (.inl hk)))
          · obtain ⟨ab, k1, k2, k3, k4, k5, k6, k7, ob', k8, k9, k10⟩ := D.ent x e he
            refine ⟨ab, k1, k2, k3, .inl k4, k5, k6, k7, ob', ?_, k9.mono (mono _), k10⟩
            rw [Go.RowKit.Below.heap_alloc _ _ _ (Array.getElem?_eq_some_iff.1 k8).1]; exact k8
        · intro ab hab2 hl2 hp
          by_cases hx : ab.num = num
          · have := R.rn.as_inj (Nat.le_refl _) hab2 hab hx
            subst this
            exact ⟨_, hset1, rfl⟩
          · rcases hl2 with hl2 | hl2
            · obtain ⟨e, k1, k2⟩ := D.ent2 ab hab2 hl2 hp
              exact ⟨e, by rw [hset2 _ hx]; exact k1, k2⟩
            · have := (R.rn.as_facts _ (Nat.le_refl _)).2.2.1 ab _ hab2 hab hl2
              subst this; exact absurd rfl hx
        · intro x y e f hx hy hr
          have old : ∀ x e, E x = some e → e.r < w.heap.size := by
            intro x e he
            obtain ⟨_, _, _, _, _, _, _, _, ob', k8, _⟩ := D.ent x e he
            exact (Array.getElem?_eq_some_iff.1 k8).1
          rcases hset x e hx with ⟨rfl, rfl⟩ | ⟨hx1, hx2⟩ <;> rcases hset y f hy with ⟨rfl, rfl⟩ | ⟨hy1, hy2⟩
          · rfl
          · have := old y f hy2; have hr : w.heap.size = f.r := hr; omega
          · have := old x e hx2; have hr : e.r = w.heap.size := hr; omega
          · exact D.einj x y e f hx2 hy2 hr
    | false =>
      obtain ⟨q1, q2⟩ := sR hW hA
      have hE : isE C o.op = false := by
        unfold isW at hW
        rw [hA] at hW
        simpa using hW
      cases wt with
      | false =>
        rw [if_neg (by simp)]
        refine ⟨fun f _ => hF f, fin undef (hnoA q1) ?_⟩
        rw [s3 rfl]; exact vrunit
      | true =>
        rw [if_pos rfl]
        have hread : ∃ h', anyA C cf cr (restr (S i).T (Go.Ev.looks opsA.toList o)) (plc (S p).h (S opsA.toList.length).as (bfi opsA.toList i) (S p).pm) o.op = some ((S (i + 1)).v, h') := by
          cases hst : steady o.op with
          | true =>
            obtain ⟨h', e⟩ := q2 rfl
            exact ⟨_, steady_ok hst e⟩
          | false =>
            refine R.win i o hol hE hst p ?_ ?_ s1
            · rcases D.cut with rfl | ⟨e, rfl, he⟩
              · exact List.mem_cons_self
              · exact List.mem_cons_of_mem _ (List.mem_map.2 ⟨e, he, rfl⟩)
            · unfold Go.Ev.win
              rw [List.all_eq_true]
              intro e he
              rw [Bool.and_eq_true]
              refine ⟨?_, ?_⟩
              · cases hb : Nat.testBit (bfi opsA.toList i) e with
                | false => rfl
                | true => have := (D.wl e he).1 (hpre e hb); simpa [Nat.blt_eq] using this
              · cases hb : Nat.testBit ((befs opsA.toList).getD e 0) i with
                | false => rfl
                | true =>
                  have : p ≤ e := by
                    rcases Nat.lt_or_ge e p with h1 | h1
                    · exact absurd (D.closed e i ((D.wl e he).2 h1) hb) hun
                    · exact h1
                  simpa using this
        obtain ⟨h', e⟩ := hread
        obtain ⟨_, v', r1, r2⟩ := operR_ok (P := P) K (spR _ rfl) hT cf cr hE e
        exact r2 F n K' Q hF (fin v' (hnoA q1) (r1.mono (ext_mono (D.dom R) hbs)))
end
end Go.Ev

/- A region that draws its order: the evaluator's is the model's. -/
namespace Go.Ev
open Go.RowKit
section
variable {C : Ctx} {P : Program} {cf : CallA} {cr : RoundA} {ops : Array Oper} {S : Nat → Dr} {base : Nat} {N : Kp} {φ₀ φ : Pl} {w₀ w : World} {a₀ a : Act} {L : Array Bool} {p : Nat} {E : Ens} {F : Fence} {n : Nat} {Q : Exit → Act → World → Prop}

theorem count_set {L : Array Bool} {i : Nat} (h : L.getD i true = false) : (L.setIfInBounds i true).toList.count false + 1 = L.toList.count false := by
  obtain ⟨hi, _⟩ := Lst.not h
  have hv : L.toList[i]'(by simpa using hi) = false := by
    rw [Array.getD_eq_getD_getElem?, Array.getElem?_eq_getElem hi] at h
    simpa using h
  rw [Array.toList_setIfInBounds, List.count_set (by simpa using hi), hv]
  have : 0 < L.toList.count false := List.count_pos_iff.2 (by rw [← hv]; exact List.getElem_mem _)
  have e1 : ((false == false) = true) = True := by simp
  have e2 : ((true == false) = true) = False := by simp
  simp only [e1, e2, if_true, if_false]
  omega

theorem ready_none (R : DRun C cf cr ops.toList S base N a₀.tmps.size) (D : DInv C ops.toList S base N φ₀ w₀ a₀ L p a w φ E) (h : Region.ready .any ops L = []) : ∀ j, j < ops.size → Lst L j := by
  intro j
  induction j using Nat.strongRecOn with
  | _ j ih =>
    intro hj
    by_cases hl : L.getD j true = false
    · exfalso
      have : j ∈ Region.ready .any ops L := by
        rw [mem_ready]
        refine ⟨hl, ops[j], Array.getElem?_eq_getElem hj, ?_⟩
        intro e he hb
        have hol : ops.toList[j]? = some ops[j] := by rw [Array.getElem?_toList]; exact Array.getElem?_eq_getElem hj
        have hbit := R.pl.edge j _ e hol (by simpa using he) (by rw [← edge_binds]; exact hb)
        have hlt := R.pl.back _ _ hbit
        exact ih e.on hlt (by omega)
      rw [h] at this; exact absurd this (by simp)
    · unfold Lst
      have hs : j < L.size := by rw [D.size]; simpa using hj
      rw [Array.getD_eq_getD_getElem?, Array.getElem?_eq_getElem hs] at hl ⊢
      simpa using hl

theorem any_ok (K : CtxOk C P) (HO : ∀ N, OpsOk C P N cf cr F n) (hF : ∀ f, F.fn f) (R : DRun C cf cr ops.toList S base N a₀.tmps.size)
    (hq : ∀ L p a w φ E, DInv C ops.toList S base N φ₀ w₀ a₀ L p a w φ E → (∀ j, j < ops.size → Lst L j) → Q .normal a w) :
    ∀ (fuel : Nat) (L : Array Bool) (p : Nat) (a : Act) (w : World) (φ : Pl) (E : Ens), DInv C ops.toList S base N φ₀ w₀ a₀ L p a w φ E → L.toList.count false ≤ fuel → wpAnyIn F n P .any ops Q fuel L a w := by
  intro fuel
  induction fuel with
  | zero =>
    intro L p a w φ E D hc
    have hr : Region.ready .any ops L = [] := by
      rw [List.eq_nil_iff_forall_not_mem]
      intro j hj
      have := count_set (mem_ready.1 hj).1
      omega
    exact ⟨hr, hq _ _ _ _ _ _ D (ready_none R D hr)⟩
  | succ fuel ih =>
    intro L p a w φ E D hc
    refine ⟨fun hr => hq _ _ _ _ _ _ D (ready_none R D hr), ?_⟩
    intro i hi
    obtain ⟨h0, o, ho, hall⟩ := mem_ready.1 hi
    obtain ⟨hlt, hun⟩ := Lst.not h0
    have hol : ops.toList[i]? = some o := by rw [Array.getElem?_toList]; exact ho
    refine step_ok K HO hF R D ho hun ?_ ?_
    · intro j hj
      obtain ⟨e, k1, k2, k3⟩ := R.pl.inv i o j hol hj
      have hle : Lst L e.on := hall e (by simpa using k1) (by rw [edge_binds]; exact k2)
      rcases k3 with rfl | k3
      · exact hle
      · exact D.closed _ _ hle k3
    · intro p' a' w' φ' E' D'
      exact ih _ p' a' w' φ' E' D' (by have := count_set h0; omega)

theorem draw_ok {D : Pl → List Nat → List Deferred → Prop} {sz : Nat} (K : CtxOk C P) (hm : P.follows .mixedOrders = true) (HO : ∀ N, OpsOk C P N cf cr F n) (hF : ∀ f, F.fn f) (hD : ∀ φ ψ d l, Le φ ψ → D φ d l → D ψ d l) (hsz : sz ≤ 5000000)
    (id : Nat) (ops : Array Oper) : CodeOk D P N F n sz (regK C cf cr (drawC C cf cr) sz ops.toList true) (.region id ops true) := by
  intro φ h h' w T T' a d d' o s ht hz hd e Q hq
  unfold regK at e
  cases hds : dstsOk sz ops.toList with
  | false => rw [hds, iff_false] at e; exact absurd e (by simp)
  | true =>
    rw [hds, iff_true, iff_true] at e
    cases hdr : drawC C cf cr ops.toList T h with
    | none => rw [hdr] at e; exact absurd e (by simp)
    | some r =>
      obtain ⟨T1, h1⟩ := r
      rw [hdr] at e
      injection e with e1 e2 e3 e4; subst e1 e2 e3 e4
      unfold drawC at hdr
      obtain ⟨c1, hdr⟩ := iff_some hdr
      obtain ⟨c2, hdr⟩ := iff_some hdr
      obtain ⟨ss, c3, hdr⟩ := ob_some hdr
      obtain ⟨sn, c4, hdr⟩ := ob_some hdr
      obtain ⟨c5, hdr⟩ := iff_some hdr
      injection hdr with hdr; injection hdr with f1 f2; subst f1 f2
      have hpl := plan_ok c1
      have htop : h.nx + countA ops.toList ≤ 5000000 := Nat.le_of_ble_eq_true c2
      obtain ⟨g1, g2, g3⟩ := drL_spec _ _ _ _ _ c3
      have g4 := lastD_spec _ _ c4
      rw [g2, Nat.add_sub_cancel] at g4
      generalize hsS : (fun i => ss.getD i sn) = S
      have hS : ∀ i s, ss[i]? = some s → S i = s := by
        intro i s h0
        rw [← hsS]
        show ss.getD i sn = s
        rw [List.getD_eq_getElem?_getD, h0]; rfl
      have hS' : ∀ i, i ≤ ops.toList.length → ss[i]? = some (S i) := by
        intro i hi
        have hlt : i < ss.length := by omega
        have := List.getElem?_eq_getElem hlt
        rw [hS i _ this, this]
      have hS0 : S 0 = ⟨T, [], ⟨h.b, Nat.add h.nx (countA ops.toList)⟩, 0, .tup []⟩ := hS 0 _ g1
      have hSn : S ops.toList.length = sn := hS _ _ g4
      have hrn : Ran C cf cr h.nx ops.toList S := by
        refine ⟨by rw [hS0], by rw [hS0], ?_⟩
        intro i o ho
        obtain ⟨s1, s2, k1, k2, k3⟩ := g3 i o (bfi ops.toList i) ho (befs_get ho).1
        rw [hS i s1 k1, hS (i + 1) s2 k2]
        rw [Nat.zero_add] at k3; exact k3
      have hdst : ∀ (i : Nat) (o : Oper) (d : Tmp), ops.toList[i]? = some o → o.dst = some d → d < sz := by
        intro i o d ho hd
        unfold dstsOk at hds
        rw [List.all_eq_true] at hds
        have := hds o (List.mem_of_getElem? ho)
        rw [hd] at this
        exact blt_lt this
      have R : DRun C cf cr ops.toList S h.nx N a.tmps.size := by
        refine ⟨hpl, hrn, fun x hx => (s.res x hx).1, htop, fun i o d h1 h2 => by rw [hz]; exact hdst i o d h1 h2, by rw [hz]; exact hsz, ?_⟩
        intro i o ho hE hst p hp hw hwant
        have hws := wins_spec C (befs ops.toList) (wrs C ops.toList 0) ops.toList (befs ops.toList) 0 i o _ ho (befs_get ho).1
        rw [hE, hst] at hws
        simp only [Bool.or_false, cond_false, Nat.zero_add] at hws
        have hlt := (List.getElem?_eq_some_iff.1 ho).1
        have hk := chkL_spec _ _ _ _ c5 i o _ _ _ _ ho (befs_get ho).1 hws (hS' i (by omega)) (hS' (i + 1) (by omega))
        have hmem : p ∈ (0 :: (wrs C ops.toList 0).map Nat.succ).filter (win (befs ops.toList) (wrs C ops.toList 0) (bfi ops.toList i) i) := List.mem_filter.2 ⟨hp, hw⟩
        generalize (0 :: (wrs C ops.toList 0).map Nat.succ).filter (win (befs ops.toList) (wrs C ops.toList 0) (bfi ops.toList i) i) = ps at hk hmem
        cases ps with
        | nil => exact absurd hmem (by simp)
        | cons p0 ps =>
          unfold chkW at hk
          rw [hwant] at hk
          simp only [List.all_eq_true] at hk
          have hk := hk p hmem
          have hple : p ≤ ops.toList.length := by
            rcases List.mem_cons.1 hp with rfl | hp
            · omega
            · obtain ⟨e, he, rfl⟩ := List.mem_map.1 hp
              obtain ⟨m, oe, k1, k2, _⟩ := (wrs_spec C _ 0 e).1 he
              have := (List.getElem?_eq_some_iff.1 k2).1
              show e + 1 ≤ _
              omega
          unfold chk1 at hk
          rw [hS' p hple] at hk
          rw [hSn]
          cases hr : anyA C cf cr (restr (S i).T (looks ops.toList o)) (plc (S p).h sn.as (bfi ops.toList i) (S p).pm) o.op with
          | none => simp only [hr] at hk; exact absurd hk (by simp)
          | some r =>
            simp only [hr] at hk
            have := sameV_eq _ _ hk
            obtain ⟨v, h'⟩ := r
            exact ⟨h', by rw [← this]⟩
      refine wpIn_region_any hm ?_
      have hbel0 : Below N w { w with drawn := w.drawn + 1 } := ⟨rfl, rfl, rfl, Nat.le_refl _, fun _ _ => rfl⟩
      refine any_ok (Q := Q) (N := N) (S := S) (base := h.nx) (φ₀ := φ) (w₀ := { w with drawn := w.drawn + 1 }) (a₀ := a) K HO hF R ?_ ops.size (Array.replicate ops.size false) 0 a { w with drawn := w.drawn + 1 } φ (fun _ => none) ?_ ?_
      · intro L p a' w' φ' E D0 hall
        have hlen : ops.toList.length = ops.size := by simp
        have hbit : ∀ j, Nat.testBit (Nat.sub (Nat.pow 2 ops.toList.length) 1) j = true ↔ j < ops.toList.length := by
          intro j
          have : Nat.sub (Nat.pow 2 ops.toList.length) 1 = 2 ^ ops.toList.length - 1 := rfl
          rw [this, Nat.testBit_two_pow_sub_one]; simp
        have hni : ∀ ab ∈ (S ops.toList.length).as, ab.i < ops.toList.length := fun ab h => ((hrn.as_facts _ (Nat.le_refl _)).1 ab h).1
        have sp := D0.placed R (M := Nat.sub (Nat.pow 2 ops.toList.length) 1) (as := (S ops.toList.length).as) (R' := fun _ => False) (fun ab h _ => hall _ (by rw [← hlen]; exact hni ab h))
          (by
            intro j q hj hq
            rw [hbit] at hj ⊢
            rcases bs_or hq with h1 | rfl
            · have := hpl.back j q h1; omega
            · exact hj) (fun ab h => h) (fun ab h _ => h) (fun x hx => absurd hx (by simp))
        obtain ⟨st1, st2⟩ := hrn.still D0.cutle (Nat.le_refl _) (by
          intro e oe k1 k2 k3
          cases hw : isW C oe.op with
          | false => rfl
          | true =>
            have hew : e ∈ wrs C ops.toList 0 := (wrs_spec C _ 0 e).2 ⟨e, oe, by omega, k3, hw⟩
            have := (D0.wl e hew).1 (hall e (by omega))
            omega)
        rw [← st1, ← st2, hSn] at sp
        have hdom := D0.dom R
        have hmask : ∀ j q, j < ops.toList.length → bs ops.toList j q = true → Nat.testBit (Nat.sub (Nat.pow 2 ops.toList.length) 1) q = true := by
          intro j q hj hq
          rw [hbit]
          rcases bs_or hq with h1 | rfl
          · have := hpl.back j q h1; omega
          · exact hj
        refine hq a' w' _ (D0.le.trans (ext_le hdom)) ?_ (sp.weaken (fun k hk => .inl hk) (fun k hk => .inl hk) (fun k hk => .inl hk)) (hbel0.trans D0.bel) D0.sz (by rw [D0.df]; exact hD _ _ _ _ (D0.le.trans (ext_le hdom)) hd)
        intro t v hT
        rw [← hSn] at hT
        rcases hrn.temp (fun i o d h1 h2 => Nat.lt_of_lt_of_le (hdst i o d h1 h2) hsz) _ (Nat.le_refl _) t v hT with ⟨j, q, k1, k2, k3, k4, k5⟩ | ⟨k1, k2⟩
        · obtain ⟨v', m1, m2⟩ := D0.tmp1 t j q k2 k3 (hall j (by omega)) (by
            intro k q' h1 h2 _
            rcases Nat.lt_or_ge j k with h3 | h3
            · exact absurd h2 (k5 k q' h3 (List.getElem?_eq_some_iff.1 h1).1 h1)
            · exact h3)
          exact ⟨v', m1, by rw [k4]; exact m2.mono (ext_mono hdom (hmask j · k1))⟩
        · obtain ⟨v', m1, m2⟩ := D0.tmp0 t v (fun k q h1 h2 _ => k2 k q (List.getElem?_eq_some_iff.1 h1).1 h1 h2) k1
          exact ⟨v', m1, m2.mono (D0.le.trans (ext_le hdom))⟩
      · have hnot : ∀ j, ¬ Lst (Array.replicate ops.size false) j := by
          intro j hj
          unfold Lst at hj
          rw [Array.getD_eq_getD_getElem?, Array.getElem?_replicate] at hj
          split at hj <;> simp at hj
        refine ⟨by simp, .inl rfl, fun e he => ⟨fun h0 => absurd h0 (hnot e), fun h0 => absurd h0 (by omega)⟩, fun i j h0 => absurd h0 (hnot i), ?_, Le.refl φ, Below.refl N _, rfl, rfl, fun x e h0 => absurd h0 (by simp), fun ab _ h0 => absurd h0 (hnot _), fun x y e f h0 => absurd h0 (by simp), fun t j o _ _ h0 => absurd h0 (hnot j), ?_⟩
        · rw [hS0]
          exact (s.heap (w' := { w with drawn := w.drawn + 1 }) rfl).reserve _ htop _ (fun x hx => ⟨hx.1, hx.2.1⟩)
        · intro t v _ hT
          rw [hS0] at hT
          exact ht t v hT
      · simp
end
end Go.Ev
