/- Calls, so deep: the evaluator's are the model's. -/
import Derived.Test.YtkenjhchfidpbaaGreatDoorC21
import Derived.WalkKit
import Derived.WalkSpells
import Derived.MapKept
import Derived.Lib.Hide
import Derived.Deep.QuietTactic
import Derived.BigQuiet
import Derived.Deep.DeepCutAuto
import Derived.Deep.RegionHeld3
import Derived.IntWalk
namespace Go.Ev
open Go.RowKit

/-- Calls and rounds, so deep. -/
noncomputable def ev (C : Ctx) (lf : Nat) (n : Nat) : CallA × RoundA :=
  Nat.rec (motive := fun _ => CallA × RoundA) (fun _ _ _ => none, fun _ _ _ => none)
    (fun _ ih => (callF C ih.1 ih.2 lf (drawC C ih.1 ih.2), roundA C ih.1 ih.2 lf (drawC C ih.1 ih.2))) n
noncomputable def evF (C : Ctx) (lf n : Nat) : CallA := (ev C lf n).1

/-- What is taken of functions that are not run as they stand. -/
def Ext1 (C : Ctx) (P : Program) (g k : Nat) : Prop :=
  ∀ (cf : CallA), CfOk C P cf → ∀ {N : Kp} {φ : Pl} {h h' : H} {w : World} {args : List AV} {args' : Array Value} {v : AV}, Sim N φ h w → VRs φ args args'.toList → extA cf k args h = some (v, h') →
      (∃ v' w', (callFunc g args').run P w = .ok (.value v') w' ∧ Back N φ w v h' v' w') ∨ ((callFunc g args').run P w = .ok (.enter g args') w ∧ ∀ n, CallsIn Fence.wide n P g args' w (BackE N φ w v h'))
def ExtOk (C : Ctx) (P : Program) : Prop := ∀ g k : Nat, C.ext.get g = some k → Ext1 C P g k

section
variable {C : Ctx} {P : Program} {cf : CallA} {cr : RoundA}

theorem run_callFunc {g : FuncId} {fn : Func} (hf : P.funcs[g]? = some fn) (hn : fn.name ≠ "runtime.NumGoroutine") {c : Code} (hb : fn.body = some c) (args : Array Value) (w : World) : (callFunc g args).run P w = .ok (.enter g args) w := by
  have h1 : (fn.name == "runtime.NumGoroutine") = false := by simpa using hn
  simp only [callFunc, Sem.run_bind, run_program, Result.andThen_ok, hf, h1, hb, Option.isNone_some, Bool.false_eq_true, if_false, Sem.run_pure]

theorem call_ok (K : CtxOk C P) (hm : P.follows .mixedOrders = true) (hx : ExtOk C P) (hcf : CfOk C P cf) (hcr : CrOk P cr) (lf : Nat) : CfOk C P (callF C cf cr lf (drawC C cf cr)) := by
  intro N φ h h' w g args args' v s hargs e
  unfold callF at e
  split at e
  · exact absurd e (by simp)
  · rename_i fn hfn
    split at e
    · rename_i k hk
      rcases hx g k hk cf hcf s hargs e with h1 | h1
      · exact .inl ⟨by unfold runs; rw [hk], h1⟩
      · exact .inr h1
    · rename_i hk
      split at e
      · exact absurd e (by simp)
      · rename_i c hc
        split at e
        · rename_i o T d h1 hcode
          split at e
          · rename_i hout
            split at e
            · rename_i h2 htake
              split at e
              · rename_i l hres
                injection e with e; injection e with e1 e2; subst e1 e2
                have hPf := K.funcs g fn hfn
                refine .inr ⟨run_callFunc hPf (K.plain g fn hfn) hc args' w, fun n => callsIn_of_wp_marks hPf hc trivial ?_⟩
                have hb : (Nat.ble args.length fn.ntmps && Nat.ble fn.ntmps 5000000) = true := by
                  cases hb : (Nat.ble args.length fn.ntmps && Nat.ble fn.ntmps 5000000) with
                  | true => rfl
                  | false => rw [hb, iff_false] at hcode; exact absurd hcode (by simp)
                rw [hb, iff_true] at hcode
                rw [Bool.and_eq_true] at hb
                have hlen : args.length ≤ fn.ntmps := Nat.le_of_ble_eq_true hb.1
                have hsz : fn.ntmps ≤ 5000000 := Nat.le_of_ble_eq_true hb.2
                have hal : args'.size = args.length := by have := hargs.length; simpa using this
                have hz : (args' ++ Array.replicate (fn.ntmps - args'.size) undef).size = fn.ntmps := by simp; omega
                have ht : TR φ (argsT args 0 .e) (args' ++ Array.replicate (fn.ntmps - args'.size) undef) := by
                  refine argsT_ok args args'.toList 0 .e _ hargs (TR.empty φ _) (by rw [hz]; omega) (by rw [hz]; exact hsz) ?_
                  intro j hj
                  rw [Nat.zero_add, Array.getElem?_append_left (by omega), Array.getElem?_toList]
                have hF : Open Fence.wide := .inl rfl
                have HO := ops_ok (F := Fence.wide) (n := n) K hcf hcr hF
                have code : ∀ c, CodeOk DM P N Fence.wide n fn.ntmps (codeA C cf cr lf g fn.ntmps none (drawC C cf cr) c) c := codeA_ok (HO N) hF.fn (fun φ ψ d k hl hd => DM.mono hl d k hd) hsz
                  (fun id ops => draw_ok K hm HO hF.fn (fun φ ψ d k hl hd => DM.mono hl d k hd) hsz id ops) (fun f ps as bd => range_out hcf f ps as bd)
                refine code c (a := { tmps := args' ++ Array.replicate (fn.ntmps - args'.size) undef, defers := [] }) s ht hz (show DM φ [] [] from rfl) hcode _ ?_
                intro a1 w1 ψ g1 g2 g3 g4 g5 g6
                have fin : LeavesInM Fence.wide n P fn a1.tmps (BackE N φ w (resV l) h2) a1.defers .returning w1 := by
                  refine takeD_ok d a1.defers h1 h2 w1 g3 g6 htake ?_
                  intro w2 k1 k2
                  obtain ⟨vs', m1, m2⟩ := resA_ok K k1 g2 _ _ hres
                  have hr : (results fn a1.tmps).run P w2 = .ok (if h : vs'.toArray.size = 1 then vs'.toArray[0] else .tuple vs'.toArray) w2 := by
                    unfold results
                    have hmap : (fn.results.mapM fun x => (match x with | .tmp t => pure (a1.tmps.getD t undef) | .cell a t => do loadVar t (← asAddr (a1.tmps.getD a undef)) : Sem Value)).run P w2 = .ok vs'.toArray w2 := by
                      rw [Array.mapM_eq_mapM_toList]
                      have : ∀ (m : Sem (List Value)), m.run P w2 = .ok vs' w2 → (List.toArray <$> m).run P w2 = .ok vs'.toArray w2 := by
                        intro m hm
                        rw [map_eq_pure_bind]
                        simp only [Sem.run_bind, hm, Result.andThen_ok, Sem.run_pure]
                      exact this _ m1
                    simp only [Sem.run_bind, Sem.run_pure]
                    exact congrArg (fun r : Result (Array Value) => r.andThen fun a w' => Result.ok (if h : a.size = 1 then a[0] else Value.tuple a) w') hmap
                  refine ⟨_, hr, ψ, g1, ?_, k1, g4.trans k2⟩
                  have hlen := m2.length
                  cases l with
                  | nil =>
                    cases m2
                    simp only [List.size_toArray, List.length_nil]
                    exact .tup [] _ .nil
                  | cons x l =>
                    cases m2 with
                    | cons _ x' _ l' hx hl =>
                      cases l with
                      | nil =>
                        cases hl
                        simp only [List.size_toArray, List.length_cons, List.length_nil]
                        exact hx
                      | cons y l =>
                        cases hl with
                        | cons _ y' _ l' hy hl =>
                          have hne : ¬ (x' :: y' :: l').toArray.size = 1 := by simp
                          rw [dif_neg hne]
                          exact .tup _ _ (.cons _ _ _ _ hx (.cons _ _ _ _ hy hl))
                cases o with
                | normal => exact fin
                | ret => exact fin
                | exit i => exact absurd hout (by simp)
              · exact absurd e (by simp)
            · exact absurd e (by simp)
          · exact absurd e (by simp)
        · exact absurd e (by simp)

/-- However deep. -/
theorem ev_ok (K : CtxOk C P) (hm : P.follows .mixedOrders = true) (hx : ExtOk C P) (lf : Nat) : ∀ n, CfOk C P (ev C lf n).1 ∧ CrOk P (ev C lf n).2
  | 0 => ⟨fun _ _ e => absurd e (by simp [ev]), fun _ _ _ e => absurd e (by simp [ev])⟩
  | n + 1 => by
    obtain ⟨h1, h2⟩ := ev_ok K hm hx lf n
    exact ⟨call_ok K hm hx h1 h2 lf, round_ok K hm h1 h2 lf⟩
end
end Go.Ev

/- A closed call: the evaluator over a program's own tables; a world in which the listed arrays lie. -/
namespace Go.Ev
open Go.RowKit

/-- A program's own tables. -/
noncomputable def ctxOf (P : Program) (eqs : List TypeId) (ext : PT Nat) (lies : List (TypeId × Nat × Nat × TypeId)) : Ctx := ⟨ofList P.types.toList, ofList P.funcs.toList, eqs, ext, lies⟩
theorem ofList_get {α : Type} (l : List α) (hl : l.length ≤ 5000000) (i : Nat) : (ofList l).get i = l[i]? := by
  unfold ofList
  rw [pt_get l 0 .e i (by omega)]
  by_cases h : i < l.length
  · rw [if_pos ⟨Nat.zero_le _, by omega⟩]; rfl
  · rw [if_neg (by omega), get_e, List.getElem?_eq_none (by omega)]
theorem ctxOf_ok {P : Program} {eqs : List TypeId} {ext : PT Nat} {lies : List (TypeId × Nat × Nat × TypeId)} (h1 : P.types.size ≤ 5000000) (h2 : P.funcs.size ≤ 5000000)
    (h3 : eqs.all (fun t => !(P.stoodInHeld t) && !(P.eqGuardType P.depth t)) = true) (h4 : lies.all (fun x => liesAt P P.depth x.1 x.2.1 x.2.2.1 x.2.2.2 1) = true) (h5 : P.funcs.toList.all (fun fn => fn.name != "runtime.NumGoroutine") = true) :
    CtxOk (ctxOf P eqs ext lies) P := by
  refine ⟨?_, ?_, ?_, ?_, ?_⟩
  · intro t i h
    have h : (ofList P.types.toList).get t = some i := h
    rw [ofList_get _ (by simpa using h1), Array.getElem?_toList] at h
    show Tables.info? P.toTables t = some i
    unfold Tables.info?
    rw [if_pos (Array.getElem?_eq_some_iff.1 h).1]
    exact h
  · intro f fn h
    have h : (ofList P.funcs.toList).get f = some fn := h
    rw [ofList_get _ (by simpa using h2), Array.getElem?_toList] at h
    exact h
  · intro t h
    have h : eqs.any (Nat.beq t) = true := h
    rw [List.any_eq_true] at h
    obtain ⟨u, hu, hb⟩ := h
    rw [List.all_eq_true] at h3
    have := h3 u hu
    rw [← Nat.eq_of_beq_eq_true hb] at this
    simpa using this
  · intro x hx
    have hx : x ∈ lies := hx
    rw [List.all_eq_true] at h4
    exact h4 x hx
  · intro f fn h
    have h : (ofList P.funcs.toList).get f = some fn := h
    rw [ofList_get _ (by simpa using h2)] at h
    rw [List.all_eq_true] at h5
    have := h5 fn (List.mem_of_getElem? h)
    simpa using this

/-- Listed arrays: a block's number, its type, its cells. -/
noncomputable def heapOf (G : List (Nat × TypeId × List AV)) : H := ⟨List.rec .e (fun x _ ih => PT.put ih x.1 (.cells x.2.1 (pt x.2.2 0 .e) x.2.2.length 2)) G, 1000⟩
/-- They lie in a world. -/
def Lain (w : World) (G : List (Nat × TypeId × List AV)) : Prop := ∀ x ∈ G, x.1 < 1000 ∧ ∃ cs : Array Value, w.heap[x.1]? = some (.cells cs x.2.1) ∧ VRs ⟨fun _ => none, fun _ => 0⟩ x.2.2 cs.toList ∧ x.2.2.length ≤ 1000000
noncomputable def plOf (w : World) : Pl := ⟨fun i => if i < 1000 then some (i, 0) else none, fun i => match w.heap[i]? with | some (.cells cs _ _) => cs.size | _ => 0⟩
theorem heapOf_get (G : List (Nat × TypeId × List AV)) (hG : ∀ x ∈ G, x.1 < 1000) {i : Nat} {b : Blk} (h : (heapOf G).b.get i = some b) : ∃ x ∈ G, x.1 = i ∧ b = .cells x.2.1 (pt x.2.2 0 .e) x.2.2.length 2 := by
  induction G with
  | nil => exact absurd h (by simp [heapOf, get_e])
  | cons x G ih =>
    have h : (PT.put (heapOf G).b x.1 (.cells x.2.1 (pt x.2.2 0 .e) x.2.2.length 2)).get i = some b := h
    have := hG x List.mem_cons_self
    rw [put_get _ _ _ _ (by omega)] at h
    by_cases hi : i = x.1
    · rw [if_pos hi] at h; injection h with h; exact ⟨x, List.mem_cons_self, hi.symm, h.symm⟩
    · rw [if_neg hi] at h
      obtain ⟨y, h1, h2⟩ := ih (fun y hy => hG y (List.mem_cons_of_mem _ hy)) h
      exact ⟨y, List.mem_cons_of_mem _ h1, h2⟩
theorem lain_sim {w : World} {G : List (Nat × TypeId × List AV)} (hG : Lain w G) : Sim (below w.heap.size) (plOf w) (heapOf G) w := by
  have hlt : ∀ x ∈ G, x.1 < 1000 := fun x hx => (hG x hx).1
  have hle : Le ⟨fun _ => none, fun _ => 0⟩ (plOf w) := ⟨fun _ _ h => absurd h (by simp), fun _ _ h => absurd h (by simp)⟩
  have key : ∀ i b, (heapOf G).b.get i = some b → ∃ x ∈ G, x.1 = i ∧ b = .cells x.2.1 (pt x.2.2 0 .e) x.2.2.length 2 := fun i b h => heapOf_get G hlt h
  have plo : ∀ i, i < 1000 → plOf w i = some (i, 0) := fun i h => if_pos h
  have plo2 : ∀ i r k, plOf w i = some (r, k) → r = i ∧ k = 0 := by
    intro i r k h
    by_cases hi : i < 1000
    · rw [plo i hi] at h; injection h with h; injection h with a b; exact ⟨a.symm, b.symm⟩
    · have : plOf w i = none := if_neg hi
      rw [this] at h; exact absurd h (by simp)
  refine ⟨?_, ?_, ?_, ?_, plo, Nat.le_refl _, (show 1000 ≤ 5000000 by decide), ?_, ?_, ?_, ?_⟩
  · intro i b h
    obtain ⟨x, h1, h2, h3⟩ := key i b h
    obtain ⟨h4, cs, h5, h6, h7⟩ := hG x h1
    have hl := h6.length
    have hs : cs.size = x.2.2.length := by simpa using hl
    refine ⟨i, 0, _, plo i (by omega), by rw [← h2]; exact h5, ?_⟩
    rw [h3]
    refine .cells _ _ _ 2 cs (0, 0) 0 ⟨by omega, h7, ?_⟩ (fun _ => ⟨rfl, hs⟩) (fun _ => rfl) (fun j _ => by simp)
    intro j v hj hv
    rw [pt_get _ _ _ _ (by omega), if_pos ⟨Nat.zero_le _, by omega⟩] at hv
    obtain ⟨v', a, b⟩ := h6.get hv
    exact ⟨v', by rw [Nat.zero_add]; simpa using a, b.mono hle⟩
  · intro i j b c r k k' _ _ h1 h2
    have := (plo2 _ _ _ h1).1
    have := (plo2 _ _ _ h2).1
    omega
  · intro i hi
    have hi : 1000 ≤ i := hi
    exact if_neg (by omega)
  · intro i b r k h hro
    obtain ⟨x, h1, h2, h3⟩ := key i b h
    rw [h3] at hro; exact absurd hro (by simp [ro])
  · intro k hk
    rcases hk with hk | hk
    · exact hk
    · exact hk.elim
  · intro i b r k _ _ h; exact h
  · intro i h; exact h.elim
  · intro i b r k cs t fr h hp ho
    obtain ⟨e1, e2⟩ := plo2 _ _ _ hp
    subst e1 e2
    show 0 + (match w.heap[r]? with | some (.cells cs _ _) => cs.size | _ => 0) = cs.size
    rw [ho]; simp

/-- A closed call comes to what the evaluator says, and leaves all that was there. -/
theorem closed_call {C : Ctx} {P : Program} (K : CtxOk C P) (hm : P.follows .mixedOrders = true) (hx : ExtOk C P) {lf n : Nat} {g : FuncId} (hr : runs C g = true) {G : List (Nat × TypeId × List AV)} {v : AV} {h' : H} (e : evF C lf n (heapOf G) g [] = some (v, h'))
    {w : World} (hG : Lain w G) : Calls P g #[] w fun e w' => ∃ v' ψ, e = .returned v' ∧ VR ψ v v' ∧ Below (below w.heap.size) w w' := by
  obtain ⟨hcf, _⟩ := ev_ok K hm hx lf n
  rcases hcf (args' := #[]) (lain_sim hG) .nil e with ⟨h1, _⟩ | ⟨_, h2⟩
  · rw [hr] at h1; exact absurd h1 (by simp)
  · refine (callsIn_wide.1 (h2 0)).mono ?_
    intro e w' he
    cases e with
    | returned v' => obtain ⟨ψ, _, k2, _, k4⟩ := he; exact ⟨v', ψ, rfl, k2, k4⟩
    | panicked c => exact he.elim
    | outgrown => exact he.elim
noncomputable def saysTrue (r : Option (AV × H)) : Bool := match r with | some (.bool true, _) => true | _ => false
theorem closed_true {C : Ctx} {P : Program} (K : CtxOk C P) (hm : P.follows .mixedOrders = true) (hx : ExtOk C P) {lf n : Nat} {g : FuncId} (hr : runs C g = true) {G : List (Nat × TypeId × List AV)} (e : saysTrue (evF C lf n (heapOf G) g []) = true)
    {w : World} (hG : Lain w G) : Calls P g #[] w fun e w' => e = .returned (.bool true) ∧ Below (below w.heap.size) w w' := by
  cases hc : evF C lf n (heapOf G) g [] with
  | none => rw [hc] at e; exact absurd e (by simp [saysTrue])
  | some r =>
    obtain ⟨v, h'⟩ := r
    rw [hc] at e
    have hv : v = .bool true := by
      unfold saysTrue at e
      split at e
      · rename_i h0; injection h0 with h0; injection h0
      · exact absurd e (by simp)
    subst hv
    refine (closed_call K hm hx hr hc hG).mono ?_
    rintro e w' ⟨v', ψ, rfl, k1, k2⟩
    cases k1
    exact ⟨rfl, k2⟩

/-- No function but one that hands back what it is given. -/
noncomputable def noEscape (g : FuncId) : PT Nat := PT.put .e g 2
theorem noEscape_1 {C : Ctx} {P : Program} {g : FuncId} (hr : ∀ (x : Value) (w : World), (callFunc g #[x]).run P w = .ok (.value x) w) : Ext1 C P g 2 := by
  intro cf _ N φ h h' w args args' v s hargs e
  unfold extA at e
  split at e <;> first | (exfalso; simp at *; done) | skip
  · rename_i x _
    injection e with e; injection e with e1 e2; subst e1 e2
    obtain ⟨x', rfl, hx⟩ := args1 hargs
    exact .inl ⟨x', w, hr x' w, φ, Le.refl φ, hx, s, Below.refl N w⟩
  · exact absurd (show (none : Option (AV × H)) = some (v, h') from e) (by simp)
theorem ext_put {C : Ctx} {P : Program} {t : PT Nat} {g k : Nat} (hg : g < 5000000) (h : Ext1 C P g k) (ht : ∀ g k, t.get g = some k → Ext1 C P g k) : ∀ g' k', (PT.put t g k).get g' = some k' → Ext1 C P g' k' := by
  intro g' k' hk
  rw [put_get _ _ _ _ hg] at hk
  by_cases hgg : g' = g
  · rw [if_pos hgg] at hk; injection hk with hk; subst hgg; subst hk; exact h
  · rw [if_neg hgg] at hk; exact ht g' k' hk
theorem ext_none' {C : Ctx} {P : Program} : ∀ g k, (PT.e : PT Nat).get g = some k → Ext1 C P g k := fun g k h => absurd h (by simp [get_e])
theorem noEscape_ok {C : Ctx} {P : Program} {g : FuncId} (hg : g < 5000000) (hC : C.ext = noEscape g) (hr : ∀ (x : Value) (w : World), (callFunc g #[x]).run P w = .ok (.value x) w) : ExtOk C P := by
  intro g' k' h
  rw [hC] at h
  exact ext_put hg (noEscape_1 hr) ext_none' g' k' h
end Go.Ev

/- What a call may turn: 'Mods S w w'': of the blocks that were there, those in S alone. Plain lemmas over any program. -/
namespace Go.El
open Go.RowKit

structure Mods (S : List Nat) (w w' : World) : Prop where
  os : w'.os = w.os
  tape : w'.tape = w.tape
  output : w'.output = w.output
  size : w.heap.size ≤ w'.heap.size
  block : ∀ k, k < w.heap.size → k ∉ S → w'.heap[k]? = w.heap[k]?

/-- Nothing that was there has turned. -/
abbrev Ext (w w' : World) : Prop := Below w.heap.size w w'

theorem Ext.refl (w : World) : Ext w w := Below.refl _ _
theorem Ext.trans {a b c : World} (h : Ext a b) (k : Ext b c) : Ext a c := Below.trans h (Below.mono k h.size)
theorem Ext.alloc {a w : World} (h : Ext a w) (o : Obj) : Ext a (w.alloc o) := Below.alloc h h.size o
theorem Ext.drew {a w : World} (h : Ext a w) : Ext a w.drew := Below.drew h
theorem Ext.drewN {a w : World} (h : Ext a w) (n : Nat) : Ext a (w.drewN n) := ⟨h.os, h.tape, h.output, h.size, h.block⟩
theorem Ext.setCell {a w : World} (h : Ext a w) {p : Addr} (hp : a.heap.size ≤ p.block) (u : Value) : Ext a (w.setCell p u) := Below.setCell h hp u
theorem Ext.grown {a w w' : World} {row : Option Nat} (h : Ext a w) (hg : w.grownBy w' row) (hr : ∀ k, row = some k → a.heap.size ≤ k) : Ext a w' := Below.grown h hg h.size hr
theorem Ext.heap {w w' : World} (h : Ext w w') {k : Nat} {o : Obj} (hk : w.heap[k]? = some o) : w'.heap[k]? = some o :=
  (h.block k (Array.getElem?_eq_some_iff.1 hk).1).trans hk
theorem Ext.cell {w w' : World} (h : Ext w w') {p : Addr} {v : Value} (hc : w.cell? p = some v) : w'.cell? p = some v := by
  have hlt : p.block < w.heap.size := by
    rcases Nat.lt_or_ge p.block w.heap.size with h | h
    · exact h
    · simp [World.cell?, Array.getElem?_eq_none h] at hc
  exact (Below.cell h hlt).trans hc

theorem Mods.refl (S : List Nat) (w : World) : Mods S w w := ⟨rfl, rfl, rfl, Nat.le_refl _, fun _ _ _ => rfl⟩
theorem Mods.trans {S : List Nat} {a b c : World} (h : Mods S a b) (k : Mods S b c) : Mods S a c :=
  ⟨k.os.trans h.os, k.tape.trans h.tape, k.output.trans h.output, Nat.le_trans h.size k.size, fun i hi hS => (k.block i (Nat.lt_of_lt_of_le hi h.size) hS).trans (h.block i hi hS)⟩
theorem Mods.mono {S T : List Nat} {a b : World} (h : Mods S a b) (hs : ∀ k, k ∈ S → k ∈ T) : Mods T a b :=
  ⟨h.os, h.tape, h.output, h.size, fun k hk hT => h.block k hk (fun e => hT (hs k e))⟩
theorem Mods.ext {S : List Nat} {a b : World} (h : Ext a b) : Mods S a b := ⟨h.os, h.tape, h.output, h.size, fun k hk _ => h.block k hk⟩
theorem Mods.alloc {S : List Nat} {a w : World} (h : Mods S a w) (o : Obj) : Mods S a (w.alloc o) := h.trans (Mods.ext ((Ext.refl w).alloc o))
theorem Mods.drew {S : List Nat} {a w : World} (h : Mods S a w) : Mods S a w.drew := ⟨h.os, h.tape, h.output, h.size, h.block⟩
theorem Mods.drewN {S : List Nat} {a w : World} (h : Mods S a w) (n : Nat) : Mods S a (w.drewN n) := ⟨h.os, h.tape, h.output, h.size, h.block⟩
theorem Mods.setCell {S : List Nat} {a w : World} (h : Mods S a w) {p : Addr} (hp : p.block ∈ S ∨ a.heap.size ≤ p.block) (u : Value) : Mods S a (w.setCell p u) :=
  ⟨h.os, h.tape, h.output, by simpa [World.setCell] using h.size, fun k hk hS => (Below.heap_setCell w p u k (by
    rintro rfl
    rcases hp with hp | hp
    · exact hS hp
    · omega)).trans (h.block k hk hS)⟩
/-- A step that turns blocks of S, or blocks that lie beyond the start. -/
theorem Mods.step {S T : List Nat} {a b c : World} (h : Mods S a b) (k : Mods T b c) (hT : ∀ x, x ∈ T → x ∈ S ∨ a.heap.size ≤ x) : Mods S a c :=
  ⟨k.os.trans h.os, k.tape.trans h.tape, k.output.trans h.output, Nat.le_trans h.size k.size, fun i hi hS => (k.block i (Nat.lt_of_lt_of_le hi h.size) (fun e => by
    rcases hT i e with e | e
    · exact hS e
    · omega)).trans (h.block i hi hS)⟩
theorem Mods.below {S : List Nat} {B : Nat} {a b : World} (h : Mods S a b) (hB : B ≤ a.heap.size) (hS : ∀ k, k ∈ S → B ≤ k) : Below B a b :=
  ⟨h.os, h.tape, h.output, h.size, fun k hk => h.block k (Nat.lt_of_lt_of_le hk hB) (fun e => by have := hS k e; omega)⟩
theorem Mods.toExt {S : List Nat} {a b : World} (h : Mods S a b) (hS : ∀ k, k ∈ S → a.heap.size ≤ k) : Ext a b := h.below (Nat.le_refl _) hS
theorem Mods.heap {S : List Nat} {w w' : World} (h : Mods S w w') {k : Nat} {o : Obj} (hk : w.heap[k]? = some o) (hS : k ∉ S) : w'.heap[k]? = some o :=
  (h.block k (Array.getElem?_eq_some_iff.1 hk).1 hS).trans hk
theorem cell_of_heap {w w' : World} {p : Addr} (h : w'.heap[p.block]? = w.heap[p.block]?) : w'.cell? p = w.cell? p := World.cell?_of_block h
theorem Mods.cell {S : List Nat} {w w' : World} (h : Mods S w w') {p : Addr} {v : Value} (hc : w.cell? p = some v) (hS : p.block ∉ S) : w'.cell? p = some v := by
  have hlt : p.block < w.heap.size := by
    rcases Nat.lt_or_ge p.block w.heap.size with h | h
    · exact h
    · simp [World.cell?, Array.getElem?_eq_none h] at hc
  exact (cell_of_heap (h.block p.block hlt hS)).trans hc
theorem cell_lt {w : World} {p : Addr} {v : Value} (hc : w.cell? p = some v) : p.block < w.heap.size := by
  rcases Nat.lt_or_ge p.block w.heap.size with h | h
  · exact h
  · simp [World.cell?, Array.getElem?_eq_none h] at hc
theorem heap_lt {w : World} {k : Nat} {o : Obj} (hk : w.heap[k]? = some o) : k < w.heap.size := (Array.getElem?_eq_some_iff.1 hk).1

theorem new_ne {w : World} {p : Addr} {v : Value} (hc : w.cell? p = some v) : w.heap.size ≠ p.block := by have := cell_lt hc; omega

/-- A block of cells that is known whole, none frozen. -/
def Blk (w : World) (g : Nat) (t : TypeId) (cs : Array Value) : Prop := w.heap[g]? = some (.cells cs t (0, 0))
section
variable {w w' : World} {g : Nat} {t : TypeId} {cs : Array Value}
theorem Blk.lt (h : Blk w g t cs) : g < w.heap.size := heap_lt h
theorem Blk.cell (h : Blk w g t cs) (i : Nat) : w.cell? ⟨g, i, none⟩ = cs[i]? := cell_of_row w g i cs t (0, 0) h
theorem Blk.frozen (h : Blk w g t cs) (i : Nat) : w.frozen? ⟨g, i, none⟩ = false := by
  unfold Blk at h
  simp [World.frozen?, h]
theorem Blk.new (w : World) (t : TypeId) (cs : Array Value) : Blk (w.alloc (.cells cs t)) w.heap.size t cs := heap_alloc_new w _
theorem Blk.ext (h : Blk w g t cs) (he : Ext w w') : Blk w' g t cs := he.heap h
theorem Blk.mods {S : List Nat} (h : Blk w g t cs) (hm : Mods S w w') (hS : g ∉ S) : Blk w' g t cs := hm.heap h hS
theorem Blk.drewN (h : Blk w g t cs) (n : Nat) : Blk (w.drewN n) g t cs := h
theorem Blk.alloc (h : Blk w g t cs) (o : Obj) : Blk (w.alloc o) g t cs := h.ext ((Ext.refl w).alloc o)
theorem Blk.set_ (h : Blk w g t cs) (i : Nat) (u : Value) : Blk (w.setCell ⟨g, i, none⟩ u) g t (cs.setIfInBounds i u) := by
  unfold Blk at h ⊢
  simp [World.setCell, Array.getElem?_modify, h]
theorem Blk.far (h : Blk w g t cs) {p : Addr} (hp : g ≠ p.block) (u : Value) : Blk (w.setCell p u) g t cs := (Below.heap_setCell w p u g hp).trans h
end

/-- The world put behind a name of which only what is wanted is known. -/
theorem wp_abs {P : Program} {c : Code} {Q : Exit → Act → World → Prop} {a : Act} {w : World} (R : World → Prop) (h : R w) (k : ∀ w', R w' → c.wp P Q a w') : c.wp P Q a w := k w h
theorem wpList_abs {P : Program} {ops : Array Oper} {Q : Exit → Act → World → Prop} {l : List Oper} {a : Act} {w : World} (R : World → Prop) (h : R w) (k : ∀ w', R w' → wpList P ops Q l a w') : wpList P ops Q l a w := k w h

/-- A new block of cells, behind steps that turn nothing. -/
theorem new_cell {w w' : World} {cs : Array Value} {t : TypeId} (h : Ext (w.alloc (.cells cs t)) w') (i : Nat) : w'.cell? ⟨w.heap.size, i, none⟩ = cs[i]? :=
  ((Blk.new w t cs).ext h).cell i

end Go.El
