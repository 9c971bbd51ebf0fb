/- The evaluator's appends are the model's. -/
import Derived.Test.YtkenjhchfidpbaaGreatDoorC11
import Derived.Laws.AppendOwn
import Derived.Lib.AppendZeros
namespace Go.Ev
open Go.RowKit
section
variable {C : Ctx} {P : Program} {N : Kp} {φ : Pl} {h h' : H} {w : World} {T : PT AV} {a : Act}

theorem Sim.draw (s : Sim N φ h w) : Sim N φ h w.drew := s.heap rfl

/-- A row is known anew, from a place in it on. -/
theorem Sim.move (s : Sim N φ h w) {i j off : Nat} {b0 b1 : Blk} (hb : h.b.get i = some b0) (hro : ro b0 = false) {b k : Nat} (hp : φ i = some (b, k)) (e : newB ⟨h.b.del i, h.nx⟩ b1 = some (j, h')) {w' : World} {cs : Array Value} {t : TypeId} {fr : Nat × Nat}
    (ho : w'.heap[b]? = some (.cells cs t fr)) (hoth : ∀ q, q ≠ b → w'.heap[q]? = w.heap[q]?) (hs : w'.heap.size = w.heap.size) (hk : k + φ.m i = cs.size) (hoff : off ≤ φ.m i) (hr : BR (add φ j (b, k + off) (φ.m i - off)) b1 (.cells cs t fr) (k + off)) :
    Sim N (add φ j (b, k + off) (φ.m i - off)) h' w' ∧ Le φ (add φ j (b, k + off) (φ.m i - off)) := by
  obtain ⟨rfl, rfl, hlt⟩ := newB_some e
  have hi : i < 5000000 := Nat.lt_of_lt_of_le (s.lt hb) s.low
  have hle : Le φ (add φ h.nx (b, k + off) (φ.m i - off)) := add_le (s.fresh _ (Nat.le_refl _))
  have old : ∀ q c, ((h.b.del i).put h.nx b1).get q = some c → (q = h.nx ∧ c = b1) ∨ (q ≠ h.nx ∧ q ≠ i ∧ h.b.get q = some c) := by
    intro q c hc
    rw [put_get _ _ _ _ hlt] at hc
    by_cases hq : q = h.nx
    · rw [if_pos hq] at hc; injection hc with hc; exact .inl ⟨hq, hc.symm⟩
    · rw [if_neg hq, del_get _ _ _ hi] at hc
      by_cases hqi : q = i
      · rw [if_pos hqi] at hc; exact absurd hc (by simp)
      · rw [if_neg hqi] at hc; exact .inr ⟨hq, hqi, hc⟩
  have away : ∀ q c r k', q ≠ i → h.b.get q = some c → φ q = some (r, k') → r ≠ b := by
    intro q c r k' hqi hc hq he
    subst he
    exact hqi (s.inj q i c b0 r k' k hc hb hq hp)
  refine ⟨⟨?_, ?_, ?_, ?_, ?_, ?_, hlt, ?_, ?_, ?_, ?_⟩, hle⟩
  · intro q c hc
    rcases old q c hc with ⟨rfl, rfl⟩ | ⟨h1, h2, h3⟩
    · exact ⟨b, k + off, _, add_at, ho, hr⟩
    · obtain ⟨r, k', o', e1, e2, e3⟩ := s.blk q c h3
      exact ⟨r, k', o', hle _ _ e1, by rw [hoth _ (away q c r k' h2 h3 e1)]; exact e2, e3.mono hle⟩
  · intro q1 q2 c1 c2 r k1 k2 hc1 hc2 e1 e2
    rcases old q1 c1 hc1 with ⟨rfl, _⟩ | ⟨h1, h2, h3⟩
    · rcases old q2 c2 hc2 with ⟨rfl, _⟩ | ⟨g1, g2, g3⟩
      · rfl
      · rw [add_at] at e1; injection e1 with e1; injection e1 with e1 _
        rw [add_ne g1] at e2
        exact absurd e1.symm (away q2 c2 r k2 g2 g3 e2)
    · rw [add_ne h1] at e1
      rcases old q2 c2 hc2 with ⟨rfl, _⟩ | ⟨g1, g2, g3⟩
      · rw [add_at] at e2; injection e2 with e2; injection e2 with e2 _
        exact absurd e2.symm (away q1 c1 r k1 h2 h3 e1)
      · rw [add_ne g1] at e2
        exact s.inj q1 q2 c1 c2 r k1 k2 h3 g3 e1 e2
  · intro q hq
    have hq' : h.nx + 1 ≤ q := hq
    have hne : q ≠ h.nx := by omega
    show add φ h.nx _ _ q = none
    rw [add_ne hne]; exact s.fresh q (by omega)
  · intro q c r k' hc hrq e1
    rcases old q c hc with ⟨rfl, rfl⟩ | ⟨h1, h2, h3⟩
    · rw [add_at] at e1; injection e1 with e1; injection e1 with e1 _
      rw [← e1]; exact s.own i b0 b k hb hro hp
    · rw [add_ne h1] at e1; exact s.own q c r k' h3 hrq e1
  · intro g hg; exact hle _ _ (s.glob g hg)
  · have := s.big; show 1000 ≤ h.nx + 1; omega
  · rw [hs]; exact s.size
  · intro q c r k' hc e1
    rcases old q c hc with ⟨rfl, rfl⟩ | ⟨h1, h2, h3⟩
    · rw [add_at] at e1; injection e1 with e1; injection e1 with e1 _
      rw [← e1]; exact s.hid i b0 b k hb hp
    · rw [add_ne h1] at e1; exact s.hid q c r k' h3 e1
  · intro q hq
    obtain ⟨x, y⟩ := s.res q hq
    have hne : q ≠ h.nx := by omega
    refine ⟨Nat.lt_succ_of_lt x, ?_⟩
    show add φ h.nx _ _ q = none
    rw [add_ne hne]; exact y
  · intro q c r k' cs' t' fr' hc e1 ho'
    rcases old q c hc with ⟨rfl, rfl⟩ | ⟨h1, h2, h3⟩
    · rw [add_at] at e1; injection e1 with e1; injection e1 with e1 e2
      subst e1 e2
      rw [ho] at ho'; injection ho' with ho'; injection ho' with ho' _ _
      rw [add_m, ← ho']; omega
    · rw [add_ne h1] at e1
      rw [hoth _ (away q c r k' h2 h3 e1)] at ho'
      rw [add_m_ne h1]
      exact s.rm q c r k' cs' t' fr' h3 e1 ho'

/-- A new row, and how long it is. -/
theorem newRow_relm (s : Sim N φ h w) {t : TypeId} {l : List AV} {fl i : Nat} (e : newRow h t l fl = some (i, h')) {cs : Array Value} {l' : List Value} (hl : VRs φ l l')
    (hcs : ∀ (j : Nat) (v : Value), l'[j]? = some v → cs[j]? = some v) (hsz : l'.length ≤ cs.size) (hx : fl = 0 ∨ fl = 2 → cs.size = l'.length) :
    ∃ ψ, Le φ ψ ∧ ψ i = some (w.heap.size, 0) ∧ ψ.m i = cs.size ∧ Sim N ψ h' (w.alloc (.cells cs t)) ∧ Below N w (w.alloc (.cells cs t)) := by
  obtain ⟨ψ, h1, h2, h3, h4⟩ := newRow_rel s e hl hcs hsz hx (fr := (0, 0)) (fun _ => rfl) (fun j _ => by simp)
  refine ⟨ψ, h1, h2, ?_, h3, h4⟩
  obtain ⟨_, _, e3⟩ := newRow_some e
  obtain ⟨e4, e5, hlt⟩ := newB_some e3
  have hg : h'.b.get i = some (.cells t (pt l 0 .e) l.length fl) := by rw [e4, e5, put_get _ _ _ _ hlt, if_pos rfl]
  have ho : (w.alloc (.cells cs t)).heap[w.heap.size]? = some (.cells cs t) := by show (w.heap.push _)[w.heap.size]? = _; simp
  have := h3.rm i _ _ _ cs t (0, 0) hg h2 ho
  omega

theorem zero_size {K : CtxOk C P} {e : TypeId} {zv : AV} (hz : zer C e = some zv) {z : Nat} (hlen : (cellsA zv).length = z) : ∃ i z', P.info? e = some i ∧ i.zero = some z' ∧ z'.cells.size = z ∧ ∀ φ, VR φ zv z' := by
  unfold zer at hz
  split at hz
  · rename_i i hi
    split at hz
    · rename_i v hv
      have hr : ∀ φ, VR φ zv v := fun φ => ofV_rel hz
      refine ⟨i, v, K.types e i hi, hv, ?_, hr⟩
      have := (cells_rel (hr ⟨fun _ => none, fun _ => 0⟩)).length
      rw [← hlen]; simpa using this
    · exact absurd hz (by simp)
  · exact absurd hz (by simp)

/-- Behind an append that grew. -/
theorem grow_made (s : Sim N φ h w) {e : TypeId} {z need fl j : Nat} {l : List AV} {l' : List Value} {zs : Array Value} (hz : 0 < z) (hzs : zs.size = z) (hl : VRs φ l l') (hlen : l'.length = need * z) (hfl : fl = 1 ∨ fl = 3)
    (en : newRow h e l fl = some (j, h')) (sCap : Nat) :
    ∃ ψ, Le φ ψ ∧ VR ψ (.sl j 0 need need z) (.slice (some ⟨w.heap.size, 0, none⟩) need (grownCap w need sCap e)) ∧
      Sim N ψ h' (w.drew.alloc (.cells (l'.toArray ++ Builtin.zeroCells zs (grownCap w need sCap e - need)) e)) ∧ Below N w (w.drew.alloc (.cells (l'.toArray ++ Builtin.zeroCells zs (grownCap w need sCap e - need)) e)) := by
  have hge := grownCap_ge w need sCap e
  have hzc : (Builtin.zeroCells zs (grownCap w need sCap e - need)).size = (grownCap w need sCap e - need) * z := by unfold Builtin.zeroCells; rw [hzs]; simp
  obtain ⟨ψ, h1, h2, h3, h4, h5⟩ := newRow_relm (s.draw) en (cs := l'.toArray ++ Builtin.zeroCells zs (grownCap w need sCap e - need)) hl (fun j v hj => by
      have hlt := (List.getElem?_eq_some_iff.1 hj).1
      rw [Array.getElem?_append_left (by simpa using hlt)]; simpa using hj) (by simp) (fun hh => by rcases hfl with e1 | e1 <;> (subst e1; rcases hh with hh | hh <;> exact absurd hh (by decide)))
  refine ⟨ψ, h1, ?_, h4, (Below.refl N w).drew.trans h5⟩
  have hh2 : ψ j = some (w.heap.size, 0) := h2
  have := VR.sl (φ := ψ) j 0 need need (grownCap w need sCap e) w.heap.size 0 z hh2 hge (fun h0 => absurd h0 (by omega)) (fun _ => by
    rw [h3, Array.size_append, hzc]
    simp only [List.size_toArray, hlen, Nat.zero_add]
    rw [← Nat.add_mul]
    exact Nat.mul_le_mul_right z (by omega))
  simpa using this

theorem allOne_right : ∀ (a b : List AV), allOne (a ++ b) = true → allOne b = true
  | [], _, h => h
  | x :: a, b, h => allOne_right a b (by simp only [List.cons_append, allOne, Bool.and_eq_true] at h; exact h.2)

theorem grow_le {need old b : Nat} (h : old < need) (hn : need ≤ 1000000) (hb : b ≤ 1000000) : Builtin.nextslicecap need old * b ≤ 281474976710656 :=
  growslice_fits h (Nat.le_trans (Nat.mul_le_mul hn hb) (by decide))

theorem appA_ok (K : CtxOk C P) (s : Sim N φ h w) {ts : Array TypeId} {x y v : AV} {x' y' : Value} (hx : VR φ x x') (hy : VR φ y y') (e : appA C h ts.toList x y = some (v, h')) (ty : TypeId) :
    Made P N φ w (Builtin.append_ ts ty #[x', y']) v h' := by
  unfold appA at e
  split at e
  · rename_i st xt hts
    have hts' : ts = #[st, xt] := by rw [← Array.toList_inj]; exact hts
    subst hts'
    clear hts
    split at e
    · rename_i el hu
      split at e
      · rename_i z b zv hs hb hzv
        have e1 := cond_some e
        clear e
        obtain ⟨hh, e⟩ := e1
        simp only [Bool.and_eq_true] at hh
        obtain ⟨⟨hz0, hbb⟩, hk, hzl⟩ := hh
        have hz0 : 0 < z := blt_lt hz0
        have hbb : b ≤ 1000000 := Nat.le_of_ble_eq_true hbb
        have hzl := Nat.eq_of_beq_eq_true hzl
        have ht := und_ok K hu
        obtain ⟨ti, zc, i1, i2, i3, _⟩ := zero_size (K := K) hzv hzl
        have i4 : ti.size = z := by
          obtain ⟨ti', q1, q2⟩ := siz_ok K hs
          rw [i1] at q1; injection q1 with q1; rw [q1]; exact q2
        have i5 : ti.bytes = b := by
          obtain ⟨ti', q1, q2⟩ := byt_ok K hb
          rw [i1] at q1; injection q1 with q1; rw [q1]; exact q2
        have hkind : (∃ e', P.underlying xt = some (.slice e')) ∨ P.underlying xt = some .string := by
          unfold srcKind at hk
          split at hk
          · rename_i e' he; exact .inl ⟨e', und_ok K he⟩
          · rename_i he; exact .inr (und_ok K he)
          · exact absurd hk (by simp)
        split at e
        · exact absurd e (by simp)
        · rename_i n l hsrc
          obtain ⟨g1, g2, g3⟩ := srcA_ok (P := P) s hy hsrc
          obtain ⟨l', f1, f2, f3⟩ := g2 n (Nat.le_refl _)
          rw [List.take_of_length_le (by omega)] at f2
          have hS : allOne l = true → Src P ti.size xt y' n l' w := fun ho => ⟨hkind, g1, by rw [i4]; exact f1 w rfl, by rw [i4]; exact f1 w.drew rfl, by rw [i4]; exact f3, allOne_cells f2 ho⟩
          split at e
          · -- nothing yet
            cases hx
            cases hn : Nat.beq n 0 with
            | true =>
              have hn' := Nat.eq_of_beq_eq_true hn
              subst hn'
              rw [hn] at e; simp only [cond_true] at e
              injection e with e; injection e with e1 e2; subst e1 e2
              have hl0 : l' = [] := List.eq_nil_of_length_eq_zero (by simpa using f3)
              subst hl0
              refine ⟨.slice none 0 0, w, φ, ?_, Le.refl φ, .nils, s, Below.refl N w⟩
              have f1 := f1 w rfl
              rw [← i4] at f1
              rcases hkind with ⟨e', hkk⟩ | hkk <;> simp [Builtin.append_, run_underlying ht, run_underlying hkk, sizeOf, typeInfo, i1, g1, f1]
            | false =>
              rw [hn] at e; simp only [cond_false] at e
              have hn0 : n ≠ 0 := by intro h0; subst h0; exact absurd hn (by simp)
              split at e
              · rename_i i k hnr
                injection e with e; injection e with e1 e2; subst e1 e2
                obtain ⟨a1, a2, _⟩ := newRow_some hnr
                have hle : n ≤ l.length := by rw [g3]; exact Nat.le_mul_of_pos_right n hz0
                have hr := run_append_grow_src (P := P) w st xt ty el ti zc ht i1 i2 none 0 0 [] (by simpa using run_firstCells_none w.drew ti.size 0 0 0) y' n l' (hS a1) (by omega) (by omega) (by rw [Nat.zero_add, i5]; exact grow_le (by omega) (by omega) hbb)
                rw [Nat.zero_add] at hr
                obtain ⟨ψ, m1, m2, m3, m4⟩ := grow_made s hz0 i3 f2 (by rw [f3]) (.inl rfl) hnr 0
                exact ⟨_, _, ψ, hr, m1, m2, m3, m4⟩
              · exact absurd e (by simp)
          · rename_i i off len cap zz
            cases hx with
            | sl _ _ _ _ c' bb k _ hp hc he hzz =>
              cases hcmp : Nat.ble (Nat.add len n) cap with
              | true =>
                rw [hcmp] at e; simp only [cond_true] at e
                have hle : len + n ≤ cap := Nat.le_of_ble_eq_true hcmp
                cases hn : Nat.beq n 0 with
                | true =>
                  have hn' := Nat.eq_of_beq_eq_true hn
                  subst hn'
                  rw [hn] at e; simp only [cond_true] at e
                  injection e with e; injection e with e1 e2; subst e1 e2
                  have hl0 : l' = [] := List.eq_nil_of_length_eq_zero (by simpa using f3)
                  have hl1 : l = [] := List.eq_nil_of_length_eq_zero (by simpa using g3)
                  subst hl0 hl1
                  have hr := run_append_room_src (P := P) w st xt ty el ti ht i1 bb (k + off) len c' y' 0 [] (hS rfl) (by omega) (by simp) (by simp)
                  exact ⟨_, _, φ, hr, Le.refl φ, .sl _ _ _ _ _ _ _ _ hp hc he hzz, s, Below.refl N w⟩
                | false =>
                  rw [hn] at e; simp only [cond_false] at e
                  split at e
                  · rename_i k' hst
                    injection e with e; injection e with e1 e2; subst e1 e2
                    obtain ⟨_, _, _, _, _, _, ho, _, _⟩ := storeC_row hst
                    obtain ⟨a1, a2, a3, a4⟩ := storeC_rel s hst f2 hp
                    have hoff : k + off + len * ti.size = k + (off + Nat.mul len z) := by rw [i4]; exact Nat.add_assoc _ _ _
                    have hr := run_append_room_src (P := P) w st xt ty el ti ht i1 bb (k + off) len c' y' n l' (hS ho) (by omega) (fun j hj => by rw [hoff]; exact (a3 j hj).1) (fun j hj => by rw [hoff]; exact (a3 j hj).2)
                    rw [hoff] at hr
                    exact ⟨_, _, φ, hr, Le.refl φ, .sl _ _ _ _ _ _ _ _ hp hc he hzz, a1, a2⟩
                  · exact absurd e (by simp)
              | false =>
                rw [hcmp] at e; simp only [cond_false] at e
                have hgt : cap < len + n := by
                  rcases Nat.lt_or_ge cap (len + n) with h1 | h1
                  · exact h1
                  · have : Nat.ble (Nat.add len n) cap = true := Nat.ble_eq_true_of_le h1
                    rw [this] at hcmp; exact absurd hcmp (by simp)
                unfold growA at e
                split at e
                · exact absurd e (by simp)
                · rename_i old hold
                  obtain ⟨o', d1, d2, d3⟩ := cells_ok (P := P) s hold hp
                  have d3 : o'.length = len * z := d3
                  have happ := d2.append f2
                  have hlen : (o' ++ l').length = (len + n) * z := by rw [List.length_append, d3, f3, Nat.add_mul]
                  have hal : (old ++ l).length = (len + n) * z := by rw [← happ.length, hlen]
                  have hgrow : ∀ (fl : Nat) (h0 : H) (j : Nat) (k0 : H), fl = 1 ∨ fl = 3 → Sim N φ h0 w → newRow h0 el (old ++ l) fl = some (j, k0) → c' < len + n →
                      Made P N φ w (Builtin.append_ #[st, xt] ty #[.slice (some ⟨bb, k + off, none⟩) len c', y']) (.sl j 0 (Nat.add len n) (Nat.add len n) z) k0 := by
                    intro fl h0 j k0 hfl s0 hnr hlt
                    obtain ⟨a1, a2, _⟩ := newRow_some hnr
                    have hle : len + n ≤ (len + n) * z := Nat.le_mul_of_pos_right _ hz0
                    have hr := run_append_grow_src (P := P) w st xt ty el ti zc ht i1 i2 (some ⟨bb, k + off, none⟩) len c' o' (by
                      show (loadCells ⟨bb, k + off, none⟩ (len * ti.size)).run P w.drew = _
                      rw [i4]; exact d1 w.drew rfl) y' n l' (hS (allOne_right _ _ a1)) hlt (by omega) (by rw [i5]; exact grow_le hlt (by omega) hbb)
                    obtain ⟨ψ, m1, m2, m3, m4⟩ := grow_made s0 hz0 i3 happ hlen hfl hnr c'
                    exact ⟨_, _, ψ, hr, m1, m2, m3, m4⟩
                  cases hz2 : Nat.beq zz 0 with
                  | true =>
                    rw [hz2] at e; simp only [cond_true] at e
                    have hcc := he (Nat.eq_of_beq_eq_true hz2)
                    split at e
                    · rename_i j k0 hnr
                      injection e with e; injection e with e1 e2; subst e1 e2
                      exact hgrow 1 h j k0 (.inl rfl) s hnr (by omega)
                    · exact absurd e (by simp)
                  | false =>
                    rw [hz2] at e; simp only [cond_false] at e
                    have e1 := cond_some e
                    clear e
                    obtain ⟨hzz2, e⟩ := e1
                    have hzz3 := Nat.eq_of_beq_eq_true hzz2
                    subst hzz3
                    have hzz4 := hzz (by omega)
                    split at e
                    · rename_i e' cc m fl hbk
                      cases hfl2 : (Nat.beq fl 2 || !(Nat.beq el e')) with
                      | true => rw [hfl2] at e; exact absurd e (by simp)
                      | false =>
                        rw [hfl2] at e; simp only [cond_false] at e
                        rw [Bool.or_eq_false_iff] at hfl2
                        have hne2 : fl ≠ 2 := by intro h0; rw [h0] at hfl2; exact absurd hfl2.1 (by simp)
                        have hee : el = e' := Nat.eq_of_beq_eq_true (by simpa using hfl2.2)
                        subst hee
                        split at e
                        · rename_i j k0 hnr
                          injection e with e; injection e with e1 e2; subst e1 e2
                          have hfl3 : (bif Nat.beq fl 3 then 3 else 1) = 1 ∨ (bif Nat.beq fl 3 then 3 else 1) = 3 := by cases Nat.beq fl 3 <;> simp
                          rcases Nat.lt_or_ge c' (len + n) with hlt | hge
                          · exact hgrow _ _ j k0 hfl3 (s.drop hbk) hnr hlt
                          · -- there is room behind what is known
                            obtain ⟨cs, fr, ho, hcr, hx2, hf2, hn2⟩ := s.row hbk hp
                            have hrm := s.rm i _ bb k cs el fr hbk hp ho
                            obtain ⟨a1, a2, enb⟩ := newRow_some hnr
                            have hro : ro (.cells el cc m fl) = false := by
                              unfold ro; split
                              · rename_i h2; injection h2 with _ _ _ h2; exact absurd h2 hne2
                              · rfl
                            have hown : ¬ N.o bb := s.own i _ bb k hbk hro hp
                            have hmul : (len + n) * zz ≤ c' * zz := Nat.mul_le_mul_right zz hge
                            have hsum : (len + n) * zz = len * zz + n * zz := Nat.add_mul _ _ _
                            have hcell : ∀ j, j < l'.length → k + off + len * ti.size + j < cs.size := by
                              intro j hj
                              rw [f3] at hj
                              rw [i4]; omega
                            have hr := run_append_room_src (P := P) w st xt ty el ti ht i1 bb (k + off) len c' y' n l' (hS (allOne_right _ _ a1)) hge
                              (fun j hj => by rw [cell_of (_k := k + off + len * ti.size + j) ho (Array.getElem?_eq_getElem (hcell j hj))]; rfl)
                              (fun j hj => by
                                simp only [World.frozen?, ho]
                                have := hn2 _ (hcell j hj)
                                simp; omega)
                            have hmove := s.move hbk hro hp enb (w' := w.setCells bb (k + off + len * ti.size) l') (heap_setCells l' _ w bb cs el fr ho) (fun q hq => heap_setCells_ne l' _ w bb q hq) (size_setCells' l' _ w bb) (by rw [stc_size]; exact hrm) (off := off) (by omega) ?_
                            · obtain ⟨m1, m2⟩ := hmove
                              refine ⟨_, _, _, hr, m2, ?_, m1, below_setCells' hown l' _ (Below.refl N w)⟩
                              have hj0 : add φ j (bb, k + off) (φ.m i - off) j = some (bb, k + off) := add_at
                              have := VR.sl (φ := add φ j (bb, k + off) (φ.m i - off)) j 0 (len + n) (len + n) c' bb (k + off) zz hj0 hge (fun h0 => absurd h0 (by omega)) (fun _ => by rw [add_m]; omega)
                              simpa using this
                            · refine .cells el _ _ _ _ fr (k + off) ⟨?_, a2, ?_⟩ ?_ ?_ ?_
                              · rw [stc_size, hal]; omega
                              · intro q v hq hv
                                rw [pt_get _ _ _ _ (by omega), if_pos ⟨Nat.zero_le _, by omega⟩] at hv
                                have hle2 : Le φ (add φ j (bb, k + off) (φ.m i - off)) := by
                                  obtain ⟨e4, _, _⟩ := newB_some enb
                                  rw [e4]; exact add_le (s.fresh _ (Nat.le_refl _))
                                obtain ⟨v', p1, p2⟩ := happ.get hv
                                refine ⟨v', ?_, p2.mono hle2⟩
                                rw [Nat.sub_zero, List.getElem?_append] at p1
                                rw [i4]
                                by_cases hqo : q < o'.length
                                · rw [if_pos hqo] at p1
                                  rw [stc_out _ _ _ _ (by omega)]
                                  obtain ⟨o2, _, o3, o4⟩ := loadC_rel s hold hp
                                  have hoo : o2 = o' := by
                                    have q1 := run_loadCells_list (P := P) w ⟨bb, k + off, none⟩ o2 (fun j v hj => by rw [Addr.add_mid]; exact o4 j v hj)
                                    have o1 : o2.length = len * zz := by have := o3.length; have h7 := d2.length; rw [this, ← h7, d3]
                                    rw [o1] at q1
                                    have q2 := d1 w rfl
                                    have q3 : Nat.mul len zz = len * zz := rfl
                                    rw [q3, q1] at q2
                                    injection q2 with q2
                                    exact List.toArray_inj q2
                                  subst hoo
                                  have hc7 := o4 q v' p1
                                  simp only [World.cell?, ho] at hc7
                                  exact hc7
                                · rw [if_neg hqo] at p1
                                  have hql : q - o'.length < l'.length := (List.getElem?_eq_some_iff.1 p1).1
                                  have := stc_in l' cs (k + off + len * zz) (q - o'.length) hql (by rw [f3]; omega)
                                  rw [show k + off + len * zz + (q - o'.length) = k + off + q by omega] at this
                                  rw [this]; exact p1
                              · intro h0; cases hq3 : Nat.beq fl 3 <;> (rw [hq3] at h0; exact absurd h0 (by simp))
                              · intro h0; exact hf2 (fun h3 => h0 (by rw [h3]; rfl))
                              · rw [stc_size]; exact hn2
                        · exact absurd e (by simp)
                    · exact absurd e (by simp)
          · cases hx with
            | slz ad c' =>
              cases hn : Nat.beq n 0 with
              | true =>
                have hn' := Nat.eq_of_beq_eq_true hn
                subst hn'
                rw [hn] at e; simp only [cond_true] at e
                injection e with e; injection e with e1 e2; subst e1 e2
                have hl0 : l' = [] := List.eq_nil_of_length_eq_zero (by simpa using f3)
                have hl1 : l = [] := List.eq_nil_of_length_eq_zero (by simpa using g3)
                subst hl0 hl1
                refine ⟨.slice (some ad) 0 c', w, φ, ?_, Le.refl φ, .slz _ _, s, Below.refl N w⟩
                have f1 := f1 w rfl
                rw [← i4] at f1
                rcases hkind with ⟨e', hkk⟩ | hkk <;> simp [Builtin.append_, run_underlying ht, run_underlying hkk, sizeOf, typeInfo, i1, g1, f1, storeCells]
              | false => rw [hn] at e; exact absurd e (by simp)
          · exact absurd e (by simp)
      · exact absurd e (by simp)
    · exact absurd e (by simp)
  · exact absurd e (by simp)

theorem appZ_ok (K : CtxOk C P) (s : Sim N φ h w) {ts : Array TypeId} {n : Nat} {v : AV} (e : appZ C h ts.toList n = some (v, h')) (k : IntKind) (ty : TypeId) :
    Made P N φ w (Builtin.append_ ts ty #[.slice none 0 0, .int k n]) v h' := by
  unfold appZ at e
  split at e
  · rename_i st xt hts
    have hts' : ts = #[st, xt] := by rw [← Array.toList_inj]; exact hts
    subst hts'
    clear hts
    split at e
    · rename_i el kx hu hx
      split at e
      · rename_i z b zv hs hb hzv
        have e1 := cond_some e
        clear e
        obtain ⟨hh, e⟩ := e1
        simp only [Bool.and_eq_true] at hh
        obtain ⟨⟨hz0, hbb⟩, hzl, hn0, hn⟩ := hh
        have hz0 : 0 < z := blt_lt hz0
        have hbb : b ≤ 1000000 := Nat.le_of_ble_eq_true hbb
        have hzl := Nat.eq_of_beq_eq_true hzl
        have hn0 : 0 < n := blt_lt hn0
        have hn : n ≤ 100000 := Nat.le_of_ble_eq_true hn
        have ht := und_ok K hu
        obtain ⟨ti, zc, i1, i2, i3, i6⟩ := zero_size (K := K) hzv hzl
        have i4 : ti.size = z := by
          obtain ⟨ti', q1, q2⟩ := siz_ok K hs
          rw [i1] at q1; injection q1 with q1; rw [q1]; exact q2
        have i5 : ti.bytes = b := by
          obtain ⟨ti', q1, q2⟩ := byt_ok K hb
          rw [i1] at q1; injection q1 with q1; rw [q1]; exact q2
        split at e
        · rename_i i k0 hnr
          injection e with e; injection e with e1 e2; subst e1 e2
          have hmul : n * ti.bytes ≤ 281474976710656 := by
            rw [i5]; exact Nat.le_trans (Nat.mul_le_mul hn hbb) (by decide)
          have hr := Go.Lib.run_append_nil_zeros (P := P) w st xt ty el ti zc k kx ht (und_ok K hx) i1 i2 n hn0 (by omega) (by omega) hmul
          have hrel : VRs φ (repl n (cellsA zv)) (Builtin.zeroCells zc.cells n).toList := by
            have := repl_rel (n := n) (cells_rel (i6 φ)) (hzl.trans i3.symm)
            unfold Builtin.zeroCells
            exact this
          have hlen : (Builtin.zeroCells zc.cells n).toList.length = n * z := by unfold Builtin.zeroCells; rw [i3]; simp
          obtain ⟨ψ, m1, m2, m3, m4⟩ := grow_made s hz0 i3 hrel hlen (.inl rfl) hnr 0
          rw [Array.toArray_toList] at m3 m4
          exact ⟨_, _, ψ, hr, m1, m2, m3, m4⟩
        · exact absurd e (by simp)
      · exact absurd e (by simp)
    · exact absurd e (by simp)
  · exact absurd e (by simp)
theorem appB_ok (K : CtxOk C P) (s : Sim N φ h w) {ts : Array TypeId} {x y v : AV} {x' y' : Value} (hx : VR φ x x') (hy : VR φ y y') (e : appB C h ts.toList x y = some (v, h')) (ty : TypeId) :
    Made P N φ w (Builtin.append_ ts ty #[x', y']) v h' := by
  unfold appB at e
  split at e
  · cases hx
    cases hy
    exact appZ_ok K s e _ ty
  · exact appA_ok K s hx hy e ty
end
end Go.Ev
