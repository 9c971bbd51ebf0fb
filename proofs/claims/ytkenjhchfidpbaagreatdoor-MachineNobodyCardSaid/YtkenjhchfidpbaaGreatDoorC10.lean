/- The evaluator's built values, made slices, cleared slices and maps, and the round's entry are the model's. -/
import Derived.Test.YtkenjhchfidpbaaGreatDoorC09
namespace Go.Ev
open Go.RowKit
section
variable {C : Ctx} {P : Program} {N : Kp} {φ : Pl} {h h' : H} {w : World} {T : PT AV} {a : Act}

theorem VRs.of_get : ∀ {l : List AV} {l' : List Value}, l'.length = l.length → (∀ (i : Nat) (v : AV), l[i]? = some v → ∃ v', l'[i]? = some v' ∧ VR φ v v') → VRs φ l l'
  | [], [], _, _ => .nil
  | [], _ :: _, hl, _ => absurd hl (by simp)
  | _ :: _, [], hl, _ => absurd hl (by simp)
  | v :: l, v' :: l', hl, hg => by
    obtain ⟨u, h1, h2⟩ := hg 0 v rfl
    injection h1 with h1; subst h1
    refine .cons _ _ _ _ h2 (VRs.of_get (by simpa using hl) fun i x hx => ?_)
    exact hg (i + 1) x (by simpa using hx)

theorem repl_len (n : Nat) (l : List AV) : (repl n l).length = n * l.length := by
  induction n with
  | zero => simp [repl]
  | succ n ih => rw [repl, List.length_append, ih, Nat.succ_mul, Nat.add_comm]
theorem repl_get (n : Nat) (l : List AV) (i : Nat) (hi : i < n * l.length) : (repl n l)[i]? = l[i % l.length]? := by
  induction n generalizing i with
  | zero => simp at hi
  | succ n ih =>
    rw [repl, List.getElem?_append]
    by_cases h : i < l.length
    · rw [if_pos h, Nat.mod_eq_of_lt h]
    · rw [if_neg h, ih _ (by rw [Nat.succ_mul] at hi; omega), ← Nat.mod_eq_sub_mod (by omega)]
/-- A row of n zero values. -/
theorem repl_rel {n s : Nat} {l : List AV} {b : Array Value} (hb : VRs φ l b.toList) (hs : l.length = s) : VRs φ (repl n l) ((Array.range (n * s)).map (b[· % b.size]!)).toList := by
  subst hs
  have hsz : b.size = l.length := by have := hb.length; simpa using this
  apply VRs.of_get
  · rw [repl_len]; simp
  · intro i v hv
    have hi : i < n * l.length := by rw [← repl_len]; exact (List.getElem?_eq_some_iff.1 hv).1
    rw [repl_get n l i hi] at hv
    obtain ⟨v', x, y⟩ := hb.get hv
    refine ⟨v', ?_, y⟩
    have x' : b[i % l.length]? = some v' := by simpa using x
    have h1 := (Array.getElem?_eq_some_iff.1 x').1
    simp [hi, hsz]
    rw [getElem!_pos b _ h1]
    exact (Array.getElem?_eq_some_iff.1 x').2

/-! Parts -/
inductive PS (φ : Pl) : List (Nat × AV) → List (Nat × Value) → Prop
  | nil : PS φ [] []
  | cons (i : Nat) (v : AV) (v' : Value) (l : List (Nat × AV)) (l' : List (Nat × Value)) (hv : VR φ v v') (t : PS φ l l') : PS φ ((i, v) :: l) ((i, v') :: l')
theorem partsA_ok (s : Sim N φ h w) (ht : TR φ T a.tmps) : ∀ {l : List (Nat × Operand)} {ps : List (Nat × AV)}, partsA T l = some ps → PS φ ps (l.map fun p => (p.1, a.eval p.2))
  | [], ps, e => by injection e with e; subst e; exact .nil
  | (i, x) :: l, ps, e => by
    unfold partsA at e
    split at e
    · rename_i v hv
      split at e
      · rename_i r hr
        injection e with e; subst e
        exact .cons _ _ _ _ _ (opnd_rel s ht hv) (partsA_ok s ht hr)
      · exact absurd e (by simp)
    · exact absurd e (by simp)

theorem over_len : ∀ (cs vs : List AV) (o : Nat), o + vs.length ≤ cs.length → (over cs vs o).length = cs.length
  | cs, [], o, _ => by cases cs <;> rfl
  | [], v :: vs, o, hl => by simp at hl
  | c :: cs, v :: vs, 0, hl => by rw [over, List.length_cons, over_len cs vs 0 (by simp at hl ⊢; omega)]; rfl
  | c :: cs, v :: vs, o + 1, hl => by rw [over, List.length_cons, over_len cs (v :: vs) o (by simp at hl ⊢; omega)]; rfl
theorem over_get : ∀ (cs vs : List AV) (o j : Nat), o + vs.length ≤ cs.length → (over cs vs o)[j]? = if o ≤ j ∧ j < o + vs.length then vs[j - o]? else cs[j]?
  | cs, [], o, j, _ => by
    rw [if_neg (by simp only [List.length_nil]; omega)]
    cases cs <;> rfl
  | [], v :: vs, o, j, hl => by simp at hl
  | c :: cs, v :: vs, 0, j, hl => by
    rw [over]
    cases j with
    | zero => simp
    | succ j =>
      rw [List.getElem?_cons_succ, over_get cs vs 0 j (by simp at hl ⊢; omega)]
      simp only [Nat.zero_le, true_and, Nat.zero_add, Nat.sub_zero, List.length_cons, List.getElem?_cons_succ, Nat.add_lt_add_iff_right]
  | c :: cs, v :: vs, o + 1, j, hl => by
    rw [over]
    cases j with
    | zero => simp
    | succ j =>
      rw [List.getElem?_cons_succ, over_get cs (v :: vs) o j (by simp at hl ⊢; omega)]
      have e1 : j + 1 - (o + 1) = j - o := by omega
      have e2 : (o + 1 ≤ j + 1 ∧ j + 1 < o + 1 + (v :: vs).length) = (o ≤ j ∧ j < o + (v :: vs).length) := by simp only [List.length_cons, eq_iff_iff]; omega
      simp only [e1, e2, List.getElem?_cons_succ]

theorem fold_stc : ∀ (l : List Value) (k off : Nat) (cs : Array Value), (l.zipIdx k).foldl (fun cs (p : Value × Nat) => cs.setIfInBounds (off + p.2) p.1) cs = stc cs (off + k) l
  | [], _, _, _ => rfl
  | v :: l, k, off, cs => by
    rw [List.zipIdx_cons, List.foldl_cons, fold_stc l (k + 1) off, stc]; rfl
theorem over_rel {cs vs : List AV} {cs' : Array Value} {vs' : List Value} (hc : VRs φ cs cs'.toList) (hv : VRs φ vs vs') {o : Nat} (hl : o + vs.length ≤ cs.length) : VRs φ (over cs vs o) (stc cs' o vs').toList := by
  have l1 : cs'.size = cs.length := by have := hc.length; simpa using this
  have l2 := hv.length
  apply VRs.of_get
  · rw [over_len _ _ _ hl, Array.length_toList, stc_size, l1]
  · intro i v hi
    rw [over_get _ _ _ _ hl] at hi
    rw [Array.getElem?_toList]
    by_cases c : o ≤ i ∧ i < o + vs.length
    · rw [if_pos c] at hi
      obtain ⟨v', x, y⟩ := hv.get hi
      refine ⟨v', ?_, y⟩
      have := stc_in vs' cs' o (i - o) (by omega) (by omega)
      rw [show o + (i - o) = i by omega] at this
      rw [this, x]
    · rw [if_neg c] at hi
      obtain ⟨v', x, y⟩ := hc.get hi
      exact ⟨v', by rw [stc_out vs' cs' o i (by omega)]; simpa using x, y⟩
theorem fillF_ok {pl pl' : Nat → Option (Nat × Nat)} (hpl : ∀ i x, pl i = some x → pl' i = some x) : ∀ {ps : List (Nat × AV)} {ps' : List (Nat × Value)} {cs l : List AV} {cs' : Array Value}, PS φ ps ps' → VRs φ cs cs'.toList →
    fillF pl cs ps = some l → ∃ l', Instr.fill pl' cs' ps' = some l' ∧ VRs φ l l'.toList := by
  intro ps
  induction ps with
  | nil =>
    intro ps' cs l cs' hp hc e
    cases hp
    have e' : some cs = some l := by simpa only [fillF] using e
    injection e' with e'; subst e'
    exact ⟨cs', rfl, hc⟩
  | cons p ps ih =>
    intro ps' cs l cs' hp hc e
    cases hp with
    | cons i v v' _ l' hv t =>
      unfold fillF at e
      split at e
      · rename_i o sz hpi
        cases hb : (Nat.beq (cellsA v).length sz && Nat.ble (Nat.add o sz) cs.length) with
        | false => rw [hb] at e; exact absurd e (by simp)
        | true =>
          rw [hb] at e; simp only [cond_true] at e
          simp only [Bool.and_eq_true] at hb
          have h1 := Nat.eq_of_beq_eq_true hb.1
          have h2 : o + sz ≤ cs.length := Nat.le_of_ble_eq_true hb.2
          have hcr := cells_rel hv
          have hsz : v'.cells.size = sz := by have := hcr.length; rw [← h1]; simpa using this
          have hcs : cs'.size = cs.length := by have := hc.length; simpa using this
          have hov := over_rel hc hcr (o := o) (by omega)
          obtain ⟨r, hr1, hr2⟩ := ih t hov e
          refine ⟨r, ?_, hr2⟩
          simp only [Instr.fill, hpl _ _ hpi]
          have hcond : ¬ ((decide (v'.cells.size ≠ sz) || decide (o + v'.cells.size > cs'.size)) = true) := by simp; omega
          rw [if_neg hcond]
          rw [← hr1]
          congr 1
          rw [← Array.foldl_toList, Array.toList_zipIdx]
          exact fold_stc _ 0 o _
      · exact absurd e (by simp)

theorem placesA_ok (K : CtxOk C P) : ∀ {fs : List Field} {pl : List (Nat × Nat)}, placesA C fs = some pl → ∀ w, (fs.mapM (m := Sem) fun f => do pure (f.offset, ← sizeOf f.type)).run P w = .ok pl w
  | [], pl, e, w => by
    have e' : some ([] : List (Nat × Nat)) = some pl := e
    injection e' with e'; subst e'; rw [List.mapM_nil]; rfl
  | f :: fs, pl, e, w => by
    unfold placesA at e
    split at e
    · rename_i sz hs
      split at e
      · rename_i r hr
        injection e with e; subst e
        rw [List.mapM_cons]
        simp only [Sem.run_bind, run_siz K hs, Result.andThen_ok, Sem.run_pure, placesA_ok K hr]
      · exact absurd e (by simp)
    · exact absurd e (by simp)
theorem buildA_ok (K : CtxOk C P) {t : TypeId} {ps : List (Nat × AV)} {ps' : Array (Nat × Value)} (hp : PS φ ps ps'.toList) {v : AV} (e : buildA C t ps = some v) : ∃ v', (Instr.build t ps').run P w = .ok v' w ∧ VR φ v v' := by
  unfold buildA at e
  split at e
  · rename_i z fs hz hu
    split at e
    · rename_i pl hpl
      split at e
      · rename_i l hf
        injection e with e; subst e
        obtain ⟨z', hz1, hz2⟩ := run_zer K hz w
        obtain ⟨l', f1, f2⟩ := fillF_ok (pl' := fun i => pl.toArray[i]?) (fun i x hx => by simpa using hx) hp (cells_rel (hz2 φ)) hf
        refine ⟨.agg l', ?_, .agg _ _ f2⟩
        have hm : (fs.mapM (m := Sem) fun f => do pure (f.offset, ← sizeOf f.type)).run P w = .ok pl.toArray w := by
          rw [Array.mapM_eq_mapM_toList]
          show Sem.run P ((fs.toList.mapM _ >>= fun x => pure x.toArray)) w = _
          rw [Sem.run_bind, placesA_ok K hpl]; rfl
        simp only [Instr.build, Sem.run_bind, hz1, run_und K hu, hm, Result.andThen_ok, f1, Sem.run_pure]
      · exact absurd e (by simp)
    · exact absurd e (by simp)
  · rename_i z n el hz hu
    split at e
    · rename_i sz hs
      split at e
      · rename_i l hf
        injection e with e; subst e
        obtain ⟨z', hz1, hz2⟩ := run_zer K hz w
        obtain ⟨l', f1, f2⟩ := fillF_ok (pl' := fun i => some (i * sz, sz)) (fun i x hx => hx) hp (cells_rel (hz2 φ)) hf
        refine ⟨.agg l', ?_, .agg _ _ f2⟩
        simp only [Instr.build, Sem.run_bind, hz1, run_und K hu, run_siz K hs, Result.andThen_ok, f1, Sem.run_pure]
      · exact absurd e (by simp)
    · exact absurd e (by simp)
  · exact absurd e (by simp)

theorem zero_row {K : CtxOk C P} {el : TypeId} {z : AV} (hz : zer C el = some z) {sz n : Nat} (hs : (cellsA z).length = sz) (w : World) :
    ∃ b : Array Value, (∀ {α : Type} (k : Array Value → Sem α), (if n * sz = 0 then (do let zero ← pure #[]; k zero) else (do let z ← zeroValue el; let zero ← pure z.cells; k zero)).run P w = (k b).run P w) ∧ ∀ φ, VRs φ (repl n (cellsA z)) ((Array.range (n * sz)).map (b[· % b.size]!)).toList := by
  obtain ⟨z', hz1, hz2⟩ := run_zer K hz w
  by_cases h0 : n * sz = 0
  · refine ⟨#[], fun k => by rw [if_pos h0]; rfl, fun φ => ?_⟩
    have : repl n (cellsA z) = [] := List.eq_nil_of_length_eq_zero (by rw [repl_len, hs, h0])
    rw [this, h0]; simpa using VRs.nil
  · refine ⟨z'.cells, fun k => by rw [if_neg h0]; simp only [Sem.run_bind, hz1, Result.andThen_ok, Sem.run_pure], fun φ => repl_rel (cells_rel (hz2 φ)) hs⟩

theorem newRow_made (s : Sim N φ h w) {el : TypeId} {l : List AV} {cs : Array Value} (hl : VRs φ l cs.toList) {i : Nat} (e : newRow h el l 0 = some (i, h')) :
    ∃ ψ, (Go.newRow el cs).run P w = .ok ⟨w.heap.size, 0, none⟩ (w.alloc (.cells cs el)) ∧ Le φ ψ ∧ ψ i = some (w.heap.size, 0) ∧ Sim N ψ h' (w.alloc (.cells cs el)) ∧ Below N w (w.alloc (.cells cs el)) := by
  obtain ⟨ψ, h1, h2, h3, h4⟩ := newRow_rel s e (cs := cs) (fr := (0, 0)) hl (fun j v hj => by simpa using hj) (by simp) (fun _ => by simp) (fun _ => rfl) (fun j _ => by simp)
  exact ⟨ψ, by simp only [Go.newRow, Sem.run_bind, newObj_run, Result.andThen_ok, Sem.run_pure], h1, h2, h3, h4⟩

theorem buildSl_ok (K : CtxOk C P) (s : Sim N φ h w) {t : TypeId} {n : Nat} {ps : List (Nat × AV)} {ps' : Array (Nat × Value)} (hp : PS φ ps ps'.toList) {v : AV} (e : buildSl C h t n ps = some (v, h')) : Made P N φ w (Instr.buildSlice t n ps') v h' := by
  unfold buildSl at e
  split at e
  · rename_i el hu
    split at e
    · rename_i sz z hs hz
      cases hb : (Nat.beq (cellsA z).length sz && Nat.ble (Nat.mul n sz) 100000) with
      | false => rw [hb] at e; exact absurd e (by simp)
      | true =>
        rw [hb] at e; simp only [cond_true] at e
        simp only [Bool.and_eq_true] at hb
        have h1 := Nat.eq_of_beq_eq_true hb.1
        have h2 : n * sz ≤ 100000 := Nat.le_of_ble_eq_true hb.2
        split at e
        · rename_i l hf
          split at e
          · rename_i i k hn
            injection e with e; injection e with e1 e2; subst e1 e2
            obtain ⟨b, b1, b2⟩ := zero_row (K := K) hz h1 w (n := n)
            obtain ⟨l', f1, f2⟩ := fillF_ok (pl' := fun i => some (i * sz, sz)) (fun i x hx => hx) hp (b2 φ) hf
            obtain ⟨ψ, r0, r1, r2, r3, r4⟩ := newRow_made (P := P) s f2 hn
            refine ⟨.slice (some ⟨w.heap.size, 0, none⟩) n n, _, ψ, ?_, r1, by simpa using VR.sl (φ := ψ) i 0 n n n w.heap.size 0 0 r2 (Nat.le_refl _) (fun _ => rfl) (fun h => absurd rfl h), r3, r4⟩
            have hno : ¬ n * sz > 2 ^ 24 := by omega
            simp only [Instr.buildSlice, Sem.run_bind, run_und K hu, run_siz K hs, Result.andThen_ok, hno, if_false, b1, f1, r0, Sem.run_pure]
          · exact absurd e (by simp)
        · exact absurd e (by simp)
    · exact absurd e (by simp)
  · exact absurd e (by simp)
end
end Go.Ev
