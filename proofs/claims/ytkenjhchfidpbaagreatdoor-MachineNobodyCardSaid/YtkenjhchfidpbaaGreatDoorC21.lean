/- Calls within operations: what the evaluator says of them, given what it says of calls and of rounds. -/
import Derived.Test.YtkenjhchfidpbaaGreatDoorC20
import Derived.RangeFuncRecord
namespace Go.Ev
open Go.RowKit

/-- Whatever comes of a call. -/
def Back (N : Kp) (φ : Pl) (w : World) (v : AV) (h' : H) (v' : Value) (w' : World) : Prop := ∃ ψ, Le φ ψ ∧ VR ψ v v' ∧ Sim N ψ h' w' ∧ Below N w w'
def BackE (N : Kp) (φ : Pl) (w : World) (v : AV) (h' : H) : Ending → World → Prop
  | .returned v', w' => Back N φ w v h' v' w'
  | _, _ => False
/-- What the evaluator says of a call of a function's number. -/
def CfOk (C : Ctx) (P : Program) (cf : CallA) : Prop :=
  ∀ {N : Kp} {φ : Pl} {h h' : H} {w : World} {g : FuncId} {args : List AV} {args' : Array Value} {v : AV}, Sim N φ h w → VRs φ args args'.toList → cf h g args = some (v, h') →
    (runs C g = false ∧ ∃ v' w', (callFunc g args').run P w = .ok (.value v') w' ∧ Back N φ w v h' v' w') ∨ ((callFunc g args').run P w = .ok (.enter g args') w ∧ ∀ n, CallsIn Fence.wide n P g args' w (BackE N φ w v h'))
/-- What it says of a round. -/
def CrOk (P : Program) (cr : RoundA) : Prop :=
  ∀ {N : Kp} {φ : Pl} {h h' : H} {w : World} {l r : Nat} {args : List AV} {args' : Array Value} {v : AV}, Sim N φ h w → φ l = some (r, 0) → VRs φ args args'.toList → cr h l args = some (v, h') →
    ∃ f tmps assign body, (Instr.yield r args').run P w = .ok (.round r f tmps assign body) w ∧ ∀ n, RoundIn Fence.wide n P r f tmps assign body w (BackE N φ w v h')

/-- The fences: none at all; in a round. -/
def Open (F : Fence) : Prop := F = Fence.wide ∨ ∃ l, F = Fence.wide.inRound l
theorem Open.fn {F : Fence} (h : Open F) : ∀ f, F.fn f := by
  rcases h with rfl | ⟨l, rfl⟩ <;> exact fun _ => trivial
theorem Open.depth {F : Fence} (h : Open F) {n : Nat} : F.depth.isSome = true → 1 ≤ n := by
  rcases h with rfl | ⟨l, rfl⟩ <;> intro h <;> exact absurd h (by simp [Fence.wide, Fence.inRound])
theorem Open.calls {F : Fence} (h : Open F) {n : Nat} {P : Program} {f : FuncId} {args : Array Value} {w : World} {R : Ending → World → Prop} (c : CallsIn Fence.wide n P f args w R) : CallsIn F n P f args w R := by
  rcases h with rfl | ⟨l, rfl⟩ <;> exact c
theorem Open.round {F : Fence} (h : Open F) {n : Nat} {P : Program} {l : Nat} {f : FuncId} {tmps : Array Value} {as bd : Code} {w : World} {R : Ending → World → Prop} (c : RoundIn Fence.wide n P l f tmps as bd w R) : RoundIn F n P l f tmps as bd w R := by
  rcases h with rfl | ⟨l, rfl⟩ <;> exact c

section
variable {C : Ctx} {P : Program} {cf : CallA} {cr : RoundA} {F : Fence} {n : Nat}

theorem ops_ok (K : CtxOk C P) (hcf : CfOk C P cf) (hcr : CrOk P cr) (hF : Open F) : ∀ N, OpsOk C P N cf cr F n := by
  intro N φ h h' w T a o v s ht e next Q hk
  by_cases hc : ∃ c, o.op = .call c
  · obtain ⟨c, hc⟩ := hc
    have hd : ∀ c, o.op ≠ .defer c := by intro c; rw [hc]; exact Op.noConfusion
    refine ⟨fun f _ => hF.fn f, ?_⟩
    rw [Oper.semAt_eq _ _ _ hd]
    rw [hc] at e
    obtain ⟨callee, args, ts⟩ := c
    cases callee with
    | invoke r m => exact absurd e (by simp [anyA, callA])
    | builtin b =>
      obtain ⟨l, h1, e⟩ := ob_some (show ob (opnds T args.toList) (fun l => builtA C h b ts.toList l) = some (v, h') from e)
      obtain ⟨v', w', ψ, r1, r2, r3, r4, r5⟩ := builtA_ok (P := P) K s (args' := args.map a.eval) (by rw [Array.toList_map]; exact opnds_rel s ht h1) e o.type (args.map fun | .const _ => true | _ => false)
      have hr : (execOp a.eval o).run P w = .ok (.value v') w' := by
        simp only [execOp, hc, resolve, Sem.run_bind, Sem.run_pure, Result.andThen_ok, invoke]
        exact r1
      rw [hr]
      exact hk v' w' ψ r2 r3 r4 r5
    | value f =>
      obtain ⟨fv, h1, e⟩ := vb_some (show vb (opnd T f) (fun f => ob (opnds T args.toList) fun l => callFn cf cr h l f) = some (v, h') from e)
      obtain ⟨l, h2, e⟩ := ob_some e
      have hv := opnd_rel s ht h1
      have hl := opnds_rel s ht h2
      generalize hq : a.eval f = q at hv
      unfold callFn at e
      split at e
      · rename_i g first cap _
        cases hv with
        | fn _ g' _ _ first' cap' hf ha hb =>
          cases hf
          have hargs : VRs φ (first ++ (l ++ cap)) ((first' ++ args.map a.eval) ++ cap').toList := by
            simp only [Array.toList_append, Array.toList_map, List.append_assoc]
            exact ha.append (hl.append hb)
          have hr : ∀ x w', (callFunc g ((first' ++ args.map a.eval) ++ cap')).run P w = .ok x w' → (execOp a.eval o).run P w = .ok x w' := by
            intro x w' hx
            simp only [execOp, hc, resolve, hq, Deferred.ofValue, Sem.run_bind, Sem.run_pure, Result.andThen_ok, invoke]
            exact hx
          rcases hcf s hargs e with ⟨_, v', w', c1, ψ, c2, c3, c4, c5⟩ | ⟨c1, c2⟩
          · rw [hr _ _ c1]
            exact hk v' w' ψ c2 c3 c4 c5
          · rw [hr _ _ c1]
            refine ⟨hF.depth, CallsIn.mono (hF.calls (c2 (n - 1))) ?_⟩
            intro e w' he
            cases e with
            | returned v' => obtain ⟨ψ, c2, c3, c4, c5⟩ := he; exact hk v' w' ψ c2 c3 c4 c5
            | panicked c => exact he.elim
            | outgrown => exact he.elim
      · rename_i r first cap _
        cases hv with
        | fn _ g' _ _ first' cap' hf ha hb =>
          cases hf with
          | yield _ r' hp =>
            have hargs : VRs φ (first ++ l) (first' ++ args.map a.eval).toList := by
              simp only [Array.toList_append, Array.toList_map]
              exact ha.append hl
            obtain ⟨f, tmps, as, bd, c1, c2⟩ := hcr s hp hargs e
            have hr : (execOp a.eval o).run P w = .ok (.round r' f tmps as bd) w := by
              simp only [execOp, hc, resolve, hq, Deferred.ofValue, Sem.run_bind, Sem.run_pure, Result.andThen_ok, invoke]
              exact c1
            rw [hr]
            refine ⟨hF.depth, RoundIn.mono (hF.round (c2 (n - 1))) ?_⟩
            intro e w' he
            cases e with
            | returned v' => obtain ⟨ψ, c2, c3, c4, c5⟩ := he; exact hk v' w' ψ c2 c3 c4 c5
            | panicked c => exact he.elim
            | outgrown => exact he.elim
      · exact absurd e (by simp)
  · have hc' : ∀ c, o.op ≠ .call c := fun c h => hc ⟨c, h⟩
    have hd : ∀ c, o.op ≠ .defer c := by
      intro c h0
      rw [h0] at e
      exact absurd e (by simp [anyA])
    exact oper_plain K s ht cf cr hc' hd e hk
end
end Go.Ev

/- Ranges over a function: what the evaluator says of them, given what it says of calls. -/
namespace Go.Ev
open Go.RowKit

/-- Outside of rounds: the marks of the deferred calls. -/
def DM (φ : Pl) : List Nat → List Deferred → Prop
  | [], l => l = []
  | i :: d, l => ∃ r l', l = { target := .collected r, args := #[] } :: l' ∧ φ i = some (r, 0) ∧ DM φ d l'
theorem DM.mono {φ ψ : Pl} (hl : Le φ ψ) : ∀ (d : List Nat) (l : List Deferred), DM φ d l → DM ψ d l
  | [], _, h => h
  | _ :: d, _, ⟨r, l', h1, h2, h3⟩ => ⟨r, l', h1, hl _ _ h2, DM.mono hl d l' h3⟩
/-- In a round of a loop. -/
def DR (l r : Nat) (φ : Pl) (d : List Nat) (k : List Deferred) : Prop := φ l = some (r, 0) ∧ d = [] ∧ k = []
theorem DR.mono {l r : Nat} {φ ψ : Pl} (hl : Le φ ψ) (d : List Nat) (k : List Deferred) (h : DR l r φ d k) : DR l r ψ d k := ⟨hl _ _ h.1, h.2⟩

theorem pendA_some {c : Option Code} {o : Out} (h : pendA c = some o) : (c = none ∧ o = .normal) ∨ (c = some .ret ∧ o = .ret) ∨ ∃ i, c = some (.exit i) ∧ o = .exit i := by
  unfold pendA at h
  split at h
  · injection h with h; exact .inl ⟨rfl, h.symm⟩
  · injection h with h; exact .inr (.inl ⟨rfl, h.symm⟩)
  · injection h with h; exact .inr (.inr ⟨_, rfl, h.symm⟩)
  · exact absurd h (by simp)

theorem Sim.loop {N : Kp} {φ : Pl} {h : H} {w : World} (s : Sim N φ h w) {i : Nat} {r : LoopR} (hb : h.b.get i = some (.loop r)) {b : Nat} (hp : φ i = some (b, 0)) : ∃ r', w.heap[b]? = some (.loop r') ∧ LR φ r r' := by
  obtain ⟨o, ho, hr⟩ := s.at hb hp
  cases hr with
  | loop _ r' h => exact ⟨r', ho, h⟩

section
variable {C : Ctx} {P : Program} {cf : CallA} {F : Fence} {n sz : Nat} {N : Kp} {D : Pl → List Nat → List Deferred → Prop} {φ ψ : Pl} {h h1 h2 h3 : H} {w w1 : World} {T : PT AV} {a : Act}

theorem range_core (hcf : CfOk C P cf) (hF : Open F) {fn fid : FuncId} {ps : Array Tmp} {as bd : Code} {df rd l : Nat} {f : Operand} {g : FuncId} {first cap : List AV} {x : AV} {r : LoopR} {o : Out} {mark : List Deferred} {d' : List Nat}
    (s1 : Sim N ψ h1 w1) (hl : Le φ ψ) (b1 : Below N w w1) (hdf : ψ df = some (rd, 0)) (ht : TR φ T a.tmps) (hz : a.tmps.size = sz)
    (hnew : newB h1 (.loop ⟨.ready, none, fid, T, sz, ps.toList, as, bd, df⟩) = some (l, h2))
    (henter : (Instr.enterLoop fn a.tmps ps as bd F.round).run P w = .ok (w1.heap.size, mark) (w1.alloc (.loop { state := .ready, pending := none, fn, tmps := a.tmps, params := ps, assign := as, body := bd, defers := rd })))
    (hop : opnd T f = some (.fn (.func g) first cap)) (hruns : runs C g = true) (hcall : cf h2 g (first ++ ([.fn (.yield l) [] []] ++ cap)) = some (x, h3)) (hb3 : h3.b.get l = some (.loop r)) (hst : r.state ≠ .busy) (hpend : pendA r.pending = some o)
    {Q : Exit → Act → World → Prop} (hq : Ends D N φ w a T d' ⟨h3.b.put l (.loop { r with state := .exhausted }), h3.nx⟩ (Q (outE o))) (hDm : ∀ χ, Le ψ χ → D χ d' (mark ++ a.defers)) :
    ∃ (l : Nat) (mark : List Deferred) (w₁ : World) (d : Deferred) (w₁' : World) (f' : FuncId) (args : Array Value) (w₂ : World),
      (Instr.enterLoop fn a.tmps ps as bd F.round).run P w = .ok (l, mark) w₁ ∧ (resolve a.eval (rangeCall f l) 0).run P w₁ = .ok d w₁' ∧ (∀ f', Target.leads P w₁' d.target d.args = some f' → F.fn f') ∧
      (invoke d.target d.args).run P w₁' = .ok (.enter f' args) w₂ ∧ (F.depth.isSome = true → 1 ≤ n) ∧ CallsIn F (n - 1) P f' args w₂ (rangePost F n P l Q { a with defers := mark ++ a.defers }) := by
  obtain ⟨χ, c1, c2, c3, c4⟩ := newObj_ok s1 hnew (o := .loop { state := .ready, pending := none, fn, tmps := a.tmps, params := ps, assign := as, body := bd, defers := rd }) (fun χ hl2 => .loop _ _ ⟨rfl, rfl, (ht.mono hl).mono hl2, hz, rfl, rfl, rfl, hl2.p _ _ hdf⟩)
  have hv := opnd_rel s1 (ht.mono hl) hop
  generalize hqv : a.eval f = q at hv
  cases hv with
  | fn _ g' _ _ first' cap' hf ha hb =>
    cases hf
    have hargs : VRs χ (first ++ ([.fn (.yield l) [] []] ++ cap)) ((first' ++ #[Value.func (.yield w1.heap.size) #[] #[]]) ++ cap').toList := by
      simp only [Array.toList_append, List.append_assoc]
      exact (ha.mono c1).append (VRs.append (.cons _ _ _ _ (.fn _ _ _ _ _ _ (.yield _ _ c2) .nil .nil) .nil) (hb.mono c1))
    rcases hcf c3 hargs hcall with ⟨k1, _⟩ | ⟨k1, k2⟩
    · rw [hruns] at k1; exact absurd k1 (by simp)
    · refine ⟨w1.heap.size, mark, _, { target := .fn (.func g) cap', args := first' ++ #[Value.func (.yield w1.heap.size) #[] #[]] }, w1.alloc (.loop { state := .ready, pending := none, fn, tmps := a.tmps, params := ps, assign := as, body := bd, defers := rd }), g, _, _, henter, ?_, fun f' _ => hF.fn f', ?_, hF.depth, CallsIn.mono (hF.calls (k2 (n - 1))) ?_⟩
      · simp only [resolve, hqv, Deferred.ofValue, Sem.run_pure, List.map_toArray, List.map_cons, List.map_nil]
        rfl
      · simp only [invoke]; exact k1
      · intro e w3 he
        cases e with
        | panicked c => exact he.elim
        | outgrown => exact he.elim
        | returned v' =>
          obtain ⟨θ, m1, m2, m3, m4⟩ := he
          obtain ⟨r', p1, p2⟩ := m3.loop hb3 (m1.p _ _ c2)
          refine ⟨r'.pending, _, run_endLoop p1 (by rw [p2.state]; exact hst), ?_⟩
          obtain ⟨u1, u2⟩ := m3.updO hb3 rfl (m1.p _ _ c2) p1 (b1 := .loop { r with state := .exhausted }) (o' := .loop { r' with state := .exhausted })
            (.loop _ _ ⟨rfl, p2.pending, p2.tmps, p2.size, p2.params, p2.assign, p2.body, p2.defers⟩)
          have hfin := hq { a with defers := mark ++ a.defers } _ θ (hl.trans (c1.trans m1)) (((ht.mono hl).mono c1).mono m1) u1 ((b1.trans c4).trans (m4.trans u2)) rfl (hDm θ (c1.trans m1))
          rw [p2.pending] at hfin ⊢
          rcases pendA_some hpend with ⟨e1, rfl⟩ | ⟨e1, rfl⟩ | ⟨i, e1, rfl⟩
          · rw [e1] at hfin ⊢; exact hfin
          · rw [e1] at hfin ⊢; exact wpIn_ret hfin
          · rw [e1] at hfin ⊢; exact wpIn_exit hfin

theorem rangeK_some {rnd : Option Nat} {fid : FuncId} {f : Operand} {ps : List Tmp} {as bd : Code} {d d' : List Nat} {o : Out} {T' : PT AV} {h' : H} (e : rangeK C cf fid sz rnd f ps as bd T d h = .ok o T' d' h') :
    ∃ df h1 l h2 g first cap x h3 r, (match (generalizing := false) rnd with | none => newB h (.dfr false) | some l => (match h.b.get l with | some (.loop r) => some (r.defers, h) | _ => none)) = some (df, h1) ∧
      newB h1 (.loop ⟨.ready, none, fid, T, sz, ps, as, bd, df⟩) = some (l, h2) ∧ opnd T f = some (.fn (.func g) first cap) ∧ runs C g = true ∧ cf h2 g (first ++ ([.fn (.yield l) [] []] ++ cap)) = some (x, h3) ∧
      h3.b.get l = some (.loop r) ∧ r.state ≠ .busy ∧ pendA r.pending = some o ∧ T' = T ∧ d' = (match (generalizing := false) rnd with | none => df :: d | some _ => d) ∧ h' = ⟨h3.b.put l (.loop { r with state := .exhausted }), h3.nx⟩ := by
  unfold rangeK at e
  split at e
  · exact absurd e (by simp)
  · rename_i df h1 hdf
    split at e
    · exact absurd e (by simp)
    · rename_i l h2 hl
      split at e
      · rename_i g first cap hop
        split at e
        · exact absurd e (by simp)
        · rename_i x h3 hc
          obtain ⟨hr, hc⟩ := iff_some hc
          split at e
          · rename_i r hb
            split at e
            · exact absurd e (by simp)
            · rename_i hst
              split at e
              · rename_i o' hp
                injection e with e1 e2 e3 e4
                subst e1
                exact ⟨df, h1, l, h2, g, first, cap, x, h3, r, hdf, hl, hop, hr, hc, hb, hst, hp, e2.symm, e3.symm, e4.symm⟩
              · exact absurd e (by simp)
          · exact absurd e (by simp)
      · exact absurd e (by simp)

/-- A range over a function, outside of rounds. -/
theorem range_out (hcf : CfOk C P cf) {fid : FuncId} (f : Operand) (ps : Array Tmp) (as bd : Code) : CodeOk DM P N Fence.wide n sz (rangeK C cf fid sz none f ps.toList as bd) (.rangeFunc f ps as bd) := by
  intro φ h h' w T T' a d d' o s ht hz hd e Q hq
  obtain ⟨df, h1, l, h2, g, first, cap, x, h3, r, e1, e2, e3, e4, e5, e6, e7, e8, rfl, e10, rfl⟩ := rangeK_some e
  obtain ⟨ψ, c1, c2, c3, c4⟩ := newObj_ok s e1 (o := .deferred (some [])) (fun ψ _ => .dfr)
  refine wpIn_rangeFunc fun fn _ => range_core hcf (.inl rfl) c3 c1 c4 c2 ht hz e2 (mark := [{ target := .collected w.heap.size, args := #[] }]) ?_ e3 e4 e5 e6 e7 e8 hq ?_
  · have := run_enterLoop_outer (P := P) (w := w) fn a.tmps ps as bd
    have hsz : (w.alloc (.deferred (some []))).heap.size = w.heap.size + 1 := World.size_alloc _ _
    rw [hsz]
    exact this
  · intro χ hl
    rw [e10]
    exact ⟨w.heap.size, a.defers, rfl, hl.p _ _ c2, DM.mono (c1.trans hl) _ _ hd⟩

/-- A range over a function, in a round of a loop. -/
theorem range_in (hcf : CfOk C P cf) {fid l0 r0 : Nat} (f : Operand) (ps : Array Tmp) (as bd : Code) : CodeOk (DR l0 r0) P N (Fence.wide.inRound r0) n sz (rangeK C cf fid sz (some l0) f ps.toList as bd) (.rangeFunc f ps as bd) := by
  intro φ h h' w T T' a d d' o s ht hz hd e Q hq
  obtain ⟨df, h1, l, h2, g, first, cap, x, h3, r, e1, e2, e3, e4, e5, e6, e7, e8, rfl, e10, rfl⟩ := rangeK_some e
  have e1 : (match h.b.get l0 with | some (.loop r) => some (r.defers, h) | _ => none) = some (df, h1) := e1
  split at e1
  · rename_i ro hro
    injection e1 with e1; injection e1 with e11 e12; subst e11 e12
    obtain ⟨ro', p1, p2⟩ := s.loop hro hd.1
    refine wpIn_rangeFunc fun fn _ => range_core hcf (.inr ⟨r0, rfl⟩) s (Le.refl φ) (Below.refl N w) p2.defers ht hz e2 (mark := []) ?_ e3 e4 e5 e6 e7 e8 hq ?_
    · show (Instr.enterLoop fn a.tmps ps as bd (some r0)).run P w = _
      unfold Instr.enterLoop
      simp only [Sem.run_bind, run_getLoop p1, run_newObj_alloc, Result.andThen, Sem.run_pure]
    · intro χ hl
      rw [e10]
      exact DR.mono hl _ _ hd
  · exact absurd e1 (by simp)
end
end Go.Ev

/- Rounds of loops over a function; calls of functions with code: the evaluator's are the model's. -/
namespace Go.Ev
open Go.RowKit
section
variable {C : Ctx} {P : Program} {cf : CallA} {cr : RoundA} {n : Nat} {N : Kp} {φ : Pl} {h h' : H} {w : World} {T : PT AV} {a : Act}

theorem VRs.take' {l : List AV} {l' : List Value} (hh : VRs φ l l') : l'.length = l.length := hh.length

/-- Parameters of a round. -/
theorem zipPut_ok {sz : Nat} (hsz : sz ≤ 5000000) : ∀ (ts : List Tmp) (vs : List AV) (vs' : List Value) (T T' : PT AV) (b : Array Value), TR φ T b → b.size = sz → VRs φ vs vs' → zipPut sz ts vs T = some T' →
    TR φ T' ((ts.zip vs').foldl (fun tmps (x : Tmp × Value) => tmps.setIfInBounds x.1 x.2) b) ∧ ((ts.zip vs').foldl (fun tmps (x : Tmp × Value) => tmps.setIfInBounds x.1 x.2) b).size = sz ∧ vs'.length = ts.length
  | [], [], vs', T, T', b, ht, hz, hv, e => by
    cases hv
    simp only [zipPut] at e
    injection e with e; subst e
    exact ⟨ht, hz, rfl⟩
  | t :: ts, v :: vs, vs', T, T', b, ht, hz, hv, e => by
    cases hv with
    | cons _ v' _ vs' h1 h2 =>
      simp only [zipPut] at e
      obtain ⟨hlt, e⟩ := cond_some e
      have hlt := blt_lt hlt
      obtain ⟨g1, g2, g3⟩ := zipPut_ok hsz ts vs vs' (T.put t v) T' (b.setIfInBounds t v') (ht.put (by omega) (by omega) h1) (by simpa using hz) h2 e
      exact ⟨g1, g2, by simp [g3]⟩
  | [], _ :: _, vs', T, T', b, ht, hz, hv, e => absurd e (by simp [zipPut])
  | _ :: _, [], vs', T, T', b, ht, hz, hv, e => absurd e (by simp [zipPut])

def outSt : Out → LoopState
  | .normal => .ready
  | _ => .done
def outB : Out → Bool
  | .normal => true
  | _ => false
theorem outPend_run {l : Nat} {r : Loop} (hl : w.heap[l]? = some (.loop r)) (o : Out) : (Instr.endRound l (outPend o)).run P w = .ok (.bool (outB o)) (w.putObj l (.loop { r with state := outSt o, pending := outPend o })) := by
  rw [run_endRound _ hl]
  cases o <;> rfl

/-- One round. -/
theorem round_ok (K : CtxOk C P) (hm : P.follows .mixedOrders = true) (hcf : CfOk C P cf) (hcr : CrOk P cr) (lf : Nat) : CrOk P (roundA C cf cr lf (drawC C cf cr)) := by
  intro N φ h h' w l r0 args args' v s hp hargs e
  unfold roundA at e
  split at e
  · rename_i r hb
    obtain ⟨r', p1, p2⟩ := s.loop hb hp
    split at e
    · exact absurd e (by simp)
    · rename_i T hT
      split at e
      · rename_i T1 h1 hc1
        have hsz : r.size ≤ 5000000 := by
          cases hs : Nat.ble r.size 5000000 with
          | true => exact Nat.le_of_ble_eq_true hs
          | false => rw [hs, iff_false] at hc1; exact absurd hc1 (by simp)
        have hs : Nat.ble r.size 5000000 = true := Nat.ble_eq_true_of_le hsz
        rw [hs, iff_true] at hc1
        obtain ⟨z1, z2, z3⟩ := zipPut_ok hsz r.params args args'.toList r.tmps T r'.tmps p2.tmps p2.size hargs hT
        have hpar : args'.size = r'.params.size := by
          have h0 := congrArg List.length p2.params
          simp only [Array.length_toList] at h0 z3
          omega
        have hfold : (r'.params.zip args').foldl (fun tmps (x : Tmp × Value) => tmps.setIfInBounds x.1 x.2) r'.tmps = (r.params.zip args'.toList).foldl (fun tmps (x : Tmp × Value) => tmps.setIfInBounds x.1 x.2) r'.tmps := by
          rw [← Array.foldl_toList, Array.toList_zip, p2.params]
        split at e
        · rename_i r1 hb1
          split at e
          · rename_i hst1
            split at e
            · rename_i o T2 h2 hc2
              split at e
              · rename_i r2 hb2
                injection e with e; injection e with e1 e2; subst e1 e2
                refine ⟨r'.fn, _, r'.assign, r'.body, run_yield p1 hpar, fun n => roundIn_of_wpIn trivial ?_⟩
                have hF : Open (Fence.wide.inRound r0) := .inr ⟨r0, rfl⟩
                have HO := ops_ok (F := Fence.wide.inRound r0) (n := n) K hcf hcr hF
                have code : ∀ c, CodeOk (DR l r0) P N (Fence.wide.inRound r0) n r.size (codeA C cf cr lf r.fn r.size (some l) (drawC C cf cr) c) c := codeA_ok (HO N) hF.fn (fun φ ψ d k hl hd => DR.mono hl d k hd) hsz
                  (fun id ops => draw_ok K hm HO hF.fn (fun φ ψ d k hl hd => DR.mono hl d k hd) hsz id ops) (fun f ps as bd => range_in hcf f ps as bd)
                rw [p2.assign, p2.body]
                have ht0 : TR φ T ((r'.params.zip args').foldl (fun tmps (x : Tmp × Value) => tmps.setIfInBounds x.1 x.2) r'.tmps) := by rw [hfold]; exact z1
                have hz0 : ((r'.params.zip args').foldl (fun tmps (x : Tmp × Value) => tmps.setIfInBounds x.1 x.2) r'.tmps).size = r.size := by rw [hfold]; exact z2
                refine code r.assign (a := { tmps := (r'.params.zip args').foldl (fun tmps (x : Tmp × Value) => tmps.setIfInBounds x.1 x.2) r'.tmps, defers := [] }) s ht0 hz0 ⟨hp, rfl, rfl⟩ hc1 _ ?_
                intro a1 w1 ψ g1 g2 g3 g4 g5 g6
                have hp1 : ψ l = some (r0, 0) := g1.p _ _ hp
                obtain ⟨r1', q1, q2⟩ := g3.loop hb1 hp1
                show ∃ w₂, (Instr.beginRound r0).run P w1 = .ok () w₂ ∧ r.body.wpIn (Fence.wide.inRound r0) n P (roundPost P r0 (BackE N φ w _ _)) a1 w₂
                refine ⟨_, run_beginRound q1 (by rw [q2.state, hst1]), ?_⟩
                obtain ⟨u1, u2⟩ := g3.updO hb1 rfl hp1 q1 (b1 := .loop { r1 with state := .busy }) (o' := .loop { r1' with state := .busy }) (.loop _ _ ⟨rfl, q2.pending, q2.tmps, q2.size, q2.params, q2.assign, q2.body, q2.defers⟩)
                refine code r.body (a := a1) u1 g2 (g5.trans hz0) g6 hc2 _ ?_
                intro a2 w2 χ k1 k2 k3 k4 k5 k6
                have hp2 : χ l = some (r0, 0) := k1.p _ _ hp1
                obtain ⟨r2', v1, v2⟩ := k3.loop hb2 hp2
                obtain ⟨m1, m2⟩ := k3.updO hb2 rfl hp2 v1 (b1 := .loop { r2 with state := outSt o, pending := outPend o })
                  (o' := .loop { r2' with state := outSt o, pending := outPend o }) (.loop _ _ ⟨rfl, rfl, v2.tmps, v2.size, v2.params, v2.assign, v2.body, v2.defers⟩)
                have fin : ∃ v' w', (Instr.endRound r0 (outPend o)).run P w2 = .ok v' w' ∧ BackE N φ w (.bool (outB o)) ⟨h2.b.put l (.loop { r2 with state := outSt o, pending := outPend o }), h2.nx⟩ (.returned v') w' :=
                  ⟨_, _, outPend_run v1 o, χ, g1.trans k1, .bool _, m1, ((g4.trans u2).trans k4).trans m2⟩
                cases o <;> exact fin
              · exact absurd e (by simp)
            · exact absurd e (by simp)
          · exact absurd e (by simp)
        · exact absurd e (by simp)
      · exact absurd e (by simp)
  · exact absurd e (by simp)

/-- The arguments' temporaries. -/
theorem argsT_ok : ∀ (l : List AV) (l' : List Value) (i : Nat) (T : PT AV) (b : Array Value), VRs φ l l' → TR φ T b → i + l.length ≤ b.size → b.size ≤ 5000000 → (∀ j, j < l.length → b[i + j]? = l'[j]?) → TR φ (argsT l i T) b
  | [], _, i, T, b, _, ht, _, _, _ => ht
  | x :: l, l', i, T, b, hv, ht, hi, hb, hg => by
    cases hv with
    | cons _ x' _ l' h1 h2 =>
      have h0 := hg 0 (by simp)
      simp only [Nat.add_zero, List.getElem?_cons_zero] at h0
      simp only [List.length_cons] at hi
      have hput : TR φ (T.put i x) b := by
        have := ht.put (d := i) (by omega) (by omega) h1
        have hset : b.setIfInBounds i x' = b := by
          apply Array.ext_getElem?
          intro k
          rw [Array.getElem?_setIfInBounds]
          by_cases hk : i = k
          · subst hk; rw [if_pos rfl, if_pos (by omega)]; exact h0.symm
          · rw [if_neg hk]
        rwa [hset] at this
      refine argsT_ok l l' (i + 1) (T.put i x) b h2 hput (by omega) hb ?_
      intro j hj
      have := hg (j + 1) (by simp; omega)
      simp only [List.getElem?_cons_succ] at this
      rw [← this]
      congr 1
      omega

/-- The marks are taken. -/
theorem takeD_ok {F : Fence} {fn : Func} {tmps : Array Value} {R : Ending → World → Prop} : ∀ (d : List Nat) (l : List Deferred) (h h' : H) (w : World), Sim N φ h w → DM φ d l → takeD h d = some h' →
    (∀ w', Sim N φ h' w' → Below N w w' → ∃ v, (results fn tmps).run P w' = .ok v w' ∧ R (.returned v) w') → LeavesInM F n P fn tmps R l .returning w
  | [], l, h, h', w, s, hd, e, hk => by
    have hd : l = [] := hd
    subst hd
    simp only [takeD] at e
    injection e with e; subst e
    exact hk w s (Below.refl N w)
  | i :: d, l, h, h', w, s, hd, e, hk => by
    obtain ⟨r, l', rfl, hp, hd⟩ := hd
    simp only [takeD] at e
    split at e
    · rename_i hb
      obtain ⟨o, ho, hr⟩ := s.at hb hp
      cases hr with
      | dfr =>
        obtain ⟨u1, u2⟩ := s.updO hb rfl hp ho (b1 := .dfr true) (o' := .deferred none) .dfrN
        refine ⟨by simp, .inl ⟨r, _, rfl, run_takeDeferred ho, ?_⟩⟩
        exact takeD_ok d l' _ h' _ u1 hd e (fun w' k1 k2 => hk w' k1 (u2.trans k2))
    · exact absurd e (by simp)

theorem resA_ok (K : CtxOk C P) (s : Sim N φ h w) {b : Array Value} (ht : TR φ T b) : ∀ (l : List ResultVar) (vs : List AV), resA C h T l = some vs →
    ∃ vs', (l.mapM fun x => (match x with | .tmp t => pure (b.getD t undef) | .cell a t => do loadVar t (← asAddr (b.getD a undef)) : Sem Value)).run P w = .ok vs' w ∧ VRs φ vs vs'
  | [], vs, e => by
    simp only [resA] at e
    injection e with e; subst e
    exact ⟨[], rfl, .nil⟩
  | .tmp t :: l, vs, e => by
    simp only [resA] at e
    split at e
    · rename_i v hv
      split at e
      · rename_i r hr
        injection e with e; subst e
        obtain ⟨v', k1, k2⟩ := ht _ _ hv
        obtain ⟨vs', m1, m2⟩ := resA_ok K s ht l r hr
        refine ⟨v' :: vs', ?_, .cons _ _ _ _ k2 m2⟩
        have hg : b.getD t undef = v' := by rw [Array.getD_eq_getD_getElem?, k1]; rfl
        simp only [List.mapM_cons, Sem.run_bind, Sem.run_pure, Result.andThen_ok, m1, hg]
      · exact absurd e (by simp)
    · exact absurd e (by simp)
  | .cell x t :: l, vs, e => by
    simp only [resA] at e
    split at e
    · rename_i v hv
      split at e
      · rename_i u hu
        split at e
        · rename_i r hr
          injection e with e; subst e
          obtain ⟨v', k1, k2⟩ := ht _ _ hv
          obtain ⟨vs', m1, m2⟩ := resA_ok K s ht l r hr
          obtain ⟨u', n1, n2⟩ := load_ok (P := P) K s k2 hu
          refine ⟨u' :: vs', ?_, .cons _ _ _ _ n2 m2⟩
          have hg : b.getD x undef = v' := by rw [Array.getD_eq_getD_getElem?, k1]; rfl
          obtain ⟨q, _, hq⟩ : ∃ p, asPtr v = some p ∧ v = .ptr p.1 p.2 := by
            obtain ⟨p, hp, _⟩ := ob_some hu
            exact ⟨p, hp, asPtr_some hp⟩
          subst hq
          cases k2
          have hl := n1
          simp only [Instr.loadAt, Instr.sureAddr, Sem.run_bind, Sem.run_pure, Result.andThen_ok] at hl
          have ha : ∀ q : Addr, asAddr (.pointer (some q)) = pure q := fun _ => rfl
          simp only [List.mapM_cons, Sem.run_bind, Sem.run_pure, Result.andThen_ok, m1, hg, ha, hl]
        · exact absurd e (by simp)
      · exact absurd e (by simp)
    · exact absurd e (by simp)
end
end Go.Ev
