/- The evaluator's builtin functions, all of them. -/
import Derived.Test.YtkenjhchfidpbaaGreatDoorC13
import Derived.TacticsIn
namespace Go.Ev
open Go.RowKit
section
variable {C : Ctx} {P : Program} {N : Kp} {φ : Pl} {h h' : H} {w : World} {T : PT AV} {a : Act}

/-- What an operation that answers 'next' comes to. -/
def MadeN (P : Program) (N : Kp) (φ : Pl) (w : World) (s : Sem Next) (v : AV) (h' : H) : Prop :=
  ∃ v' w' ψ, s.run P w = .ok (.value v') w' ∧ Le φ ψ ∧ VR ψ v v' ∧ Sim N ψ h' w' ∧ Below N w w'
theorem Made.next {m : Sem Value} {v : AV} (hm : Made P N φ w m v h') {s : Sem Next} (e : s = (do Pure.pure (.value (← m)))) : MadeN P N φ w s v h' := by
  obtain ⟨v', w', ψ, m1, m2⟩ := hm
  refine ⟨v', w', ψ, ?_, m2⟩
  subst e
  simp only [Sem.run_bind, m1, Result.andThen_ok, Sem.run_pure]
theorem args1 {x : AV} {as : Array Value} (hh : VRs φ [x] as.toList) : ∃ x', as = #[x'] ∧ VR φ x x' := by
  obtain ⟨l⟩ := as
  cases hh with
  | cons _ x' _ l' hx t => cases t; exact ⟨x', rfl, hx⟩
theorem args2 {x y : AV} {as : Array Value} (hh : VRs φ [x, y] as.toList) : ∃ x' y', as = #[x', y'] ∧ VR φ x x' ∧ VR φ y y' := by
  obtain ⟨l⟩ := as
  cases hh with
  | cons _ x' _ l' hx t =>
    cases t with
    | cons _ y' _ l' hy t => cases t; exact ⟨x', y', rfl, hx, hy⟩
theorem val_some {r : Option AV} {v : AV} (e : val r h = some (v, h')) : r = some v ∧ h' = h := by
  cases r with
  | none => exact absurd e (by simp [val])
  | some x => simp only [val] at e; injection e with e; injection e with a b; exact ⟨by rw [a], b.symm⟩
theorem unit_some {r : Option H} {v : AV} (e : unit r = some (v, h')) : r = some h' ∧ v = .tup [] := by
  cases r with
  | none => exact absurd e (by simp [unit])
  | some x => simp only [unit] at e; injection e with e; injection e with a b; exact ⟨by rw [b], a.symm⟩
theorem vrunit : VR φ (.tup []) (.tuple #[]) := .tup [] #[] .nil

/-- unsafe.String of no byte. -/
theorem unsafeStr_none {ts : Array TypeId} (hts : ts.toList.isEmpty = false) (p : Option Addr) (ki : IntKind) (ty : TypeId) : (Builtin.unsafeString_ ts ty #[.pointer p, .int ki (Int.ofNat 0)]).run P w = .ok (.string .empty) w := by
  obtain ⟨pt, rest, hts'⟩ : ∃ pt rest, ts.toList = pt :: rest := by
    cases h : ts.toList with
    | nil => rw [h] at hts; exact absurd hts (by simp)
    | cons x l => exact ⟨x, l, rfl⟩
  have ht : ts[0]? = some pt := by rw [← Array.getElem?_toList, hts']; rfl
  have hmax : IntKind.i64.max = 9223372036854775807 := rfl
  cases p with
  | none =>
    have hdef : Builtin.unsafeString_ ts ty #[.pointer none, .int ki (Int.ofNat 0)] =
        (do
          let n ← asInt (.int ki (Int.ofNat 0))
          let some pt := ts[0]? | stuck "unsafe.String: no argument types"
          if n < 0 then runtimePanic (.error "unsafe.String: len out of range")
          if n > IntKind.i64.max then unsupported (.unsafePointer "String: a length above the largest int")
          if n = 0 then pure (.string .empty)
          else runtimePanic (.error "unsafe.String: ptr is nil and len is not zero")) := rfl
    rw [hdef]
    simp [asInt, asIntOf, hmax, ht]
  | some a =>
    have hdef : Builtin.unsafeString_ ts ty #[.pointer (some a), .int ki (Int.ofNat 0)] =
        (do
          let n ← asInt (.int ki (Int.ofNat 0))
          let some pt := ts[0]? | stuck "unsafe.String: no argument types"
          if n < 0 then runtimePanic (.error "unsafe.String: len out of range")
          if n > IntKind.i64.max then unsupported (.unsafePointer "String: a length above the largest int")
          if n = 0 then pure (.string .empty)
          else if ← variablesAt a (← elemOf pt) n.toNat then do
            let s ← loadBytes a .empty n.toNat
            freeze a n.toNat
            pure (.string s)
          else unsupported (.unsafePointer "String: not so many bytes at ptr")) := rfl
    rw [hdef]
    simp [asInt, asIntOf, hmax, ht]
theorem foldl_args {x : AV} {l : List AV} {as : Array Value} (hh : VRs φ (x :: l) as.toList) : ∃ x' l', as.toList = x' :: l' ∧ VR φ x x' ∧ VRs φ l l' := by
  obtain ⟨q⟩ := as
  cases hh with
  | cons _ x' _ l' hx t => exact ⟨x', l', rfl, hx, t⟩

theorem builtA_ok (K : CtxOk C P) (s : Sim N φ h w) {b : Builtin} {ts : Array TypeId} {args : List AV} {args' : Array Value} (ha : VRs φ args args'.toList) {v : AV} (e : builtA C h b ts.toList args = some (v, h')) (ty : TypeId) (cs : Array Bool) :
    MadeN P N φ w (builtin b ts ty cs args') v h' := by
  unfold builtA at e
  split at e
  · obtain ⟨x', y', rfl, hx, hy⟩ := args2 ha
    exact (appB_ok K s hx hy e ty).next rfl
  · obtain ⟨x', rfl, hx⟩ := args1 ha
    obtain ⟨e1, rfl⟩ := val_some e
    obtain ⟨v', r1, r2⟩ := capA_ok (P := P) (w := w) K hx e1 ty
    exact (Made.pure s r1 r2).next rfl
  · obtain ⟨x', rfl, hx⟩ := args1 ha
    obtain ⟨e1, rfl⟩ := unit_some e
    obtain ⟨w', r1, r2, r3⟩ := clearA_ok (P := P) K s hx e1 ty
    exact Made.next (m := Builtin.clear_ ts ty #[x']) ⟨_, w', φ, r1, Le.refl φ, vrunit, r2, r3⟩ rfl
  · obtain ⟨x', y', rfl, hx, hy⟩ := args2 ha
    exact (copyA_ok K s hx hy e ty).next rfl
  · obtain ⟨x', y', rfl, hx, hy⟩ := args2 ha
    split at e
    · rename_i t rest hts
      have ht : ts[0]? = some t := by rw [← Array.getElem?_toList, hts]; rfl
      obtain ⟨e1, rfl⟩ := unit_some e
      obtain ⟨w', r1, r2, r3⟩ := delA_ok (P := P) K s ht hx hy e1 ty
      exact Made.next (m := Builtin.delete_ ts ty #[x', y']) ⟨_, w', φ, r1, Le.refl φ, vrunit, r2, r3⟩ rfl
    · exact absurd e (by simp)
  · obtain ⟨x', rfl, hx⟩ := args1 ha
    obtain ⟨e1, rfl⟩ := val_some e
    obtain ⟨v', r1, r2⟩ := lenA_ok (P := P) K s hx e1 ty
    exact (Made.pure s r1 r2).next rfl
  · rename_i i o n c z
    obtain ⟨x', rfl, hx⟩ := args1 ha
    cases hc0 : Nat.beq c 0 with
    | true => rw [hc0] at e; exact absurd e (by simp)
    | false =>
      rw [hc0] at e; simp only [cond_false] at e
      injection e with e; injection e with e1 e2; subst e1 e2
      cases hx with
      | sl _ _ _ _ c' bb k _ hp hc he hz =>
        have hne : c' ≠ 0 := by intro h0; subst h0; have : c = 0 := by omega
                                subst this; exact absurd hc0 (by simp)
        exact (Made.pure s (Go.Lib.run_unsafeSliceData_row w ts ty ⟨bb, k + o, none⟩ n c' hne) (.ptr _ _ _ _ hp)).next rfl
  · obtain ⟨x', rfl, hx⟩ := args1 ha
    cases hx
    injection e with e; injection e with e1 e2; subst e1 e2
    exact (Made.pure s (Go.Lib.run_unsafeSliceData_nil w ts ty 0 0) .nilp).next rfl
  · rename_i ki n
    obtain ⟨x', y', rfl, hx, hy⟩ := args2 ha
    cases hx
    cases hy
    have e1 := cond_some e
    clear e
    obtain ⟨hh, e⟩ := e1
    injection e with e; injection e with e1 e2; subst e1 e2
    rw [Bool.and_eq_true] at hh
    have hn0 := Nat.eq_of_beq_eq_true hh.1
    subst hn0
    exact (Made.pure s (unsafeStr_none (by simpa using hh.2) none ki ty) (vrstr _ _ rfl)).next rfl
  · rename_i i o ki n
    obtain ⟨x', y', rfl, hx, hy⟩ := args2 ha
    cases hx with
    | ptr _ _ bb k hp =>
      cases hy
      cases hn : Nat.beq n 0 with
      | true =>
        rw [hn] at e; simp only [cond_true] at e
        have hn0 := Nat.eq_of_beq_eq_true hn
        subst hn0
        obtain ⟨he, e⟩ := cond_none' e
        injection e with e; injection e with e1 e2; subst e1 e2
        exact (Made.pure s (unsafeStr_none he _ ki ty) (vrstr _ _ rfl)).next rfl
      | false =>
        rw [hn] at e; simp only [cond_false] at e
        split at e
        · rename_i t rest el cc m fl hts hb
          have ht : ts[0]? = some t := by rw [← Array.getElem?_toList, hts]; rfl
          split at e
          · rename_i u hu
            have e1 := cond_some e
            clear e
            obtain ⟨hh, e⟩ := e1
            simp only [Bool.and_eq_true] at hh
            obtain ⟨⟨h1, h2⟩, h3, h4⟩ := hh
            split at e
            · rename_i l hl
              split at e
              · rename_i q hq
                injection e with e; injection e with e1 e2; subst e1 e2
                have hz : siz C el = some 1 := by
                  split at h4
                  · rename_i z hz; rw [hz, Nat.eq_of_beq_eq_true h4]
                  · exact absurd h4 (by simp)
                exact Made.next (unsafeStr_ok (_it := t) K s hb (by intro h0; rw [h0] at h3; exact absurd h3 (by simp)) hu (Nat.eq_of_beq_eq_true h1) hz (Nat.le_of_ble_eq_true h2) (by intro h0; rw [h0] at hn; exact absurd hn (by simp)) hl hq hp ki ty ht) rfl
              · exact absurd e (by simp)
            · exact absurd e (by simp)
          · exact absurd e (by simp)
        · exact absurd e (by simp)
  · obtain ⟨x', l', hl, hx, ht⟩ := foldl_args ha
    obtain ⟨e1, rfl⟩ := val_some e
    obtain ⟨v', r1, r2⟩ := mmA_ok (P := P) (w := w) true Builtin.max2 rfl _ _ _ _ _ hx ht e1
    refine Made.next (m := Builtin.max_ ts ty args') (Made.pure s (v' := v') ?_ r2) rfl
    unfold Builtin.max_
    rw [hl]; exact r1
  · obtain ⟨x', l', hl, hx, ht⟩ := foldl_args ha
    obtain ⟨e1, rfl⟩ := val_some e
    obtain ⟨v', r1, r2⟩ := mmA_ok (P := P) (w := w) false Builtin.min2 rfl _ _ _ _ _ hx ht e1
    refine Made.next (m := Builtin.min_ ts ty args') (Made.pure s (v' := v') ?_ r2) rfl
    unfold Builtin.min_
    rw [hl]; exact r1
  · exact absurd e (by simp)
end
end Go.Ev

/- Every operation that is no call: the evaluator's is the model's. -/
namespace Go.Ev
open Go.RowKit
section
variable {C : Ctx} {P : Program} {N : Kp} {φ : Pl} {h h' : H} {w : World} {T : PT AV} {a : Act}

/-- What an operation comes to: a value, or none (then it yields 'nothing'). -/
def Done (P : Program) (N : Kp) (φ : Pl) (w : World) (s : Sem Next) (v : AV) (h' : H) : Prop :=
  ∃ r v' w' ψ, s.run P w = .ok r w' ∧ (r = .value v' ∨ (r = .skip ∧ v' = undef)) ∧ Le φ ψ ∧ VR ψ v v' ∧ Sim N ψ h' w' ∧ Below N w w'
theorem Made.done {m : Sem Value} {v : AV} (hm : Made P N φ w m v h') : Done P N φ w (do Pure.pure (.value (← m))) v h' := by
  obtain ⟨v', w', ψ, m1, m2⟩ := hm
  exact ⟨.value v', v', w', ψ, by simp only [Sem.run_bind, m1, Result.andThen_ok, Sem.run_pure], .inl rfl, m2⟩
theorem pure_done (s : Sim N φ h w) {v : AV} {v' : Value} (hv : VR φ v v') : Done P N φ w (Pure.pure (.value v')) v h :=
  ⟨.value v', v', w, φ, rfl, .inl rfl, Le.refl φ, hv, s, Below.refl N w⟩
theorem skip_done {m : Sem Unit} {w' : World} (e : m.run P w = .ok () w') (s : Sim N φ h' w') (b : Below N w w') : Done P N φ w (do m; Pure.pure .skip) (.tup []) h' :=
  ⟨.skip, undef, w', φ, by simp only [Sem.run_bind, e, Result.andThen_ok, Sem.run_pure], .inr ⟨rfl, rfl⟩, Le.refl φ, vrunit, s, b⟩
theorem read_done (s : Sim N φ h w) {m : Sem Value} {v : AV} (e : ∃ v', m.run P w = .ok v' w ∧ VR φ v v') : Done P N φ w (do Pure.pure (.value (← m))) v h := by
  obtain ⟨v', r1, r2⟩ := e
  exact (Made.pure s r1 r2).done
theorem partsA_map (ps : Array (Nat × Operand)) : (ps.map fun (i, x) => (i, a.eval x)).toList = ps.toList.map fun p => (p.1, a.eval p.2) := by rw [Array.toList_map]

theorem anyA_ok (K : CtxOk C P) (s : Sim N φ h w) (ht : TR φ T a.tmps) (cf : CallA) (cr : RoundA) {o : Oper} (hc : ∀ c, o.op ≠ .call c) {v : AV} (e : anyA C cf cr T h o.op = some (v, h')) : Done P N φ w (execOp a.eval o) v h' := by
  obtain ⟨dst, op, type, pos, after, guard⟩ := o
  cases op with
  | move x =>
    obtain ⟨e1, rfl⟩ := vv_some e
    exact pure_done s (opnd_rel s ht e1)
  | assign x =>
    obtain ⟨e1, rfl⟩ := vv_some e
    exact pure_done s (opnd_rel s ht e1)
  | pick c x y =>
    obtain ⟨u, h1, e⟩ := vb_some e
    have hu := opnd_rel s ht h1
    unfold pickK at e
    split at e
    · obtain ⟨e1, rfl⟩ := vv_some e
      have hv := opnd_rel s ht e1
      refine ⟨_, a.eval x, w, φ, ?_, .inl rfl, Le.refl φ, hv, s, Below.refl N w⟩
      generalize hq : a.eval c = q at hu
      cases hu
      simp only [execOp, hq, asBool, Sem.run_bind, Sem.run_pure, Result.andThen_ok, if_true]
    · obtain ⟨e1, rfl⟩ := vv_some e
      have hv := opnd_rel s ht e1
      refine ⟨_, a.eval y, w, φ, ?_, .inl rfl, Le.refl φ, hv, s, Below.refl N w⟩
      generalize hq : a.eval c = q at hu
      cases hu
      simp only [execOp, hq, asBool, Sem.run_bind, Sem.run_pure, Result.andThen_ok, Bool.false_eq_true, if_false]
    · exact absurd e (by simp)
  | alloc t =>
    obtain ⟨z, h1, e⟩ := vb_some e
    exact (alloc_ok K s h1 e).done
  | box t x =>
    obtain ⟨u, h1, e⟩ := vb_some e
    exact (box_ok s (opnd_rel s ht h1) e).done
  | build t ps =>
    have e' : buildK C T h t ps.toList = some (v, h') := e
    unfold buildK at e'
    split at e'
    · rename_i l hl
      obtain ⟨e1, rfl⟩ := vv_some e'
      exact read_done s (buildA_ok K (by rw [partsA_map]; exact partsA_ok s ht hl) e1)
    · exact absurd e' (by simp)
  | buildSlice t n ps =>
    have e' : buildSlK C T h t n ps.toList = some (v, h') := e
    unfold buildSlK at e'
    split at e'
    · rename_i l hl
      exact (buildSl_ok K s (by rw [partsA_map]; exact partsA_ok s ht hl) e').done
    · exact absurd e' (by simp)
  | insert t m k x =>
    obtain ⟨m1, h1, e⟩ := vb_some e
    obtain ⟨k1, h2, e⟩ := vb_some e
    obtain ⟨x1, h3, e⟩ := vb_some e
    obtain ⟨e1, rfl⟩ := unit_some e
    obtain ⟨w', r1, r2, r3⟩ := updA_ok (P := P) K s (opnd_rel s ht h1) (opnd_rel s ht h2) (opnd_rel s ht h3) e1
    exact skip_done r1 r2 r3
  | load t x =>
    obtain ⟨u, h1, e⟩ := vb_some e
    obtain ⟨e1, rfl⟩ := vv_some e
    exact read_done s (load_ok K s (opnd_rel s ht h1) e1)
  | store t x y =>
    obtain ⟨u, h1, e⟩ := vb_some e
    obtain ⟨q, h2, e⟩ := vb_some e
    obtain ⟨e1, rfl⟩ := unit_some e
    obtain ⟨w', r1, r2, r3⟩ := store_ok (P := P) K s (opnd_rel s ht h1) (opnd_rel s ht h2) e1
    exact skip_done r1 r2 r3
  | nilCheck x =>
    obtain ⟨u, h1, e⟩ := vb_some e
    have hu := opnd_rel s ht h1
    unfold nilK at e
    generalize hq : a.eval x = q at hu
    split at e
    · injection e with e; injection e with e1 e2; subst e1 e2
      cases hu with
      | ptr _ _ b k hp =>
        refine ⟨_, _, w, φ, ?_, .inl rfl, Le.refl φ, .ptr _ _ b k hp, s, Below.refl N w⟩
        simp only [execOp, hq, Sem.run_pure]
    · injection e with e; injection e with e1 e2; subst e1 e2
      cases hu with
      | fn f g x1 x2 y1 y2 hf ha hb =>
        cases hf
        refine ⟨_, _, w, φ, ?_, .inl rfl, Le.refl φ, .fn _ _ _ _ _ _ (.func _) ha hb, s, Below.refl N w⟩
        simp only [execOp, hq, Sem.run_pure]
    · injection e with e; injection e with e1 e2; subst e1 e2
      cases hu with
      | fn f g x1 x2 y1 y2 hf ha hb =>
        cases hf with
        | yield l r hl =>
          refine ⟨_, _, w, φ, ?_, .inl rfl, Le.refl φ, .fn _ _ _ _ _ _ (.yield _ _ hl) ha hb, s, Below.refl N w⟩
          simp only [execOp, hq, Sem.run_pure]
    · exact absurd e (by simp)
  | binOp op t x y q =>
    obtain ⟨u, h1, e⟩ := vb_some e
    obtain ⟨u2, h2, e⟩ := vb_some e
    obtain ⟨e1, rfl⟩ := vv_some e
    exact read_done s (binA_ok K s (opnd_rel s ht h1) (opnd_rel s ht h2) e1)
  | unOp op t x =>
    obtain ⟨u, h1, e⟩ := vb_some e
    obtain ⟨e1, rfl⟩ := vv_some e
    exact read_done s (unA_ok (opnd_rel s ht h1) e1)
  | convert sr ds x =>
    obtain ⟨u, h1, e⟩ := vb_some e
    exact (convA_ok K s (opnd_rel s ht h1) e).done
  | makeInterface t x =>
    obtain ⟨u, h1, e⟩ := vb_some e
    have hu := opnd_rel s ht h1
    unfold ifcK at e
    split at e
    · exact absurd e (by simp)
    · rename_i d hd hne
      injection e with e; injection e with e1 e2; subst e1 e2
      refine read_done s ⟨.iface t (a.eval x), ?_, .ifc _ _ _ hu⟩
      simp only [Instr.makeInterface, Sem.run_bind, run_und K hne, Result.andThen_ok]
      cases d <;> first | rfl | exact absurd rfl (hd _)
    · exact absurd e (by simp)
  | makeFunc f x y =>
    have e' : funcK T h f x.toList y.toList = some (v, h') := e
    unfold funcK at e'
    split at e'
    · rename_i g p q hp hq
      injection e' with e'; injection e' with e1 e2; subst e1 e2
      refine read_done s ⟨.func (.func g) (x.map a.eval) (y.map a.eval), rfl, .fn _ _ _ _ _ _ (.func g) (by rw [Array.toList_map]; exact opnds_rel s ht hp) (by rw [Array.toList_map]; exact opnds_rel s ht hq)⟩
    · exact absurd e' (by simp)
  | makeMap t r => exact (makeK_ok K s ht e).done
  | makeSlice t x y =>
    obtain ⟨u, h1, e⟩ := vb_some e
    obtain ⟨u2, h2, e⟩ := vb_some e
    exact (makeSl_ok K s (opnd_rel s ht h1) (opnd_rel s ht h2) e).done
  | slice t x lo hi mx =>
    obtain ⟨u, h1, e⟩ := vb_some e
    obtain ⟨e1, rfl⟩ := vv_some e
    exact read_done s (sliceA_ok K s ht (opnd_rel s ht h1) e1)
  | fieldAddr t x f =>
    obtain ⟨u, h1, e⟩ := vb_some e
    obtain ⟨e1, rfl⟩ := vv_some e
    exact read_done s (field_ok K (opnd_rel s ht h1) e1)
  | field t x f =>
    obtain ⟨u, h1, e⟩ := vb_some e
    obtain ⟨rfl, r⟩ := fieldK_ok (P := P) (w := w) K (opnd_rel s ht h1) e
    exact read_done s r
  | indexAddr t x i =>
    obtain ⟨u, h1, e⟩ := vb_some e
    obtain ⟨u2, h2, e⟩ := vb_some e
    obtain ⟨e1, rfl⟩ := vv_some e
    exact read_done s (indexPl_ok K (opnd_rel s ht h1) (opnd_rel s ht h2) e1)
  | index t x i =>
    obtain ⟨u, h1, e⟩ := vb_some e
    obtain ⟨u2, h2, e⟩ := vb_some e
    obtain ⟨e1, rfl⟩ := vv_some e
    exact read_done s (indexA_ok K (opnd_rel s ht h1) (opnd_rel s ht h2) e1)
  | lookup t m k ok =>
    obtain ⟨u, h1, e⟩ := vb_some e
    obtain ⟨u2, h2, e⟩ := vb_some e
    obtain ⟨e1, rfl⟩ := vv_some e
    exact read_done s (lookA_ok K s (opnd_rel s ht h1) (opnd_rel s ht h2) e1)
  | mapUpdate t m k x =>
    obtain ⟨m1, h1, e⟩ := vb_some e
    obtain ⟨k1, h2, e⟩ := vb_some e
    obtain ⟨x1, h3, e⟩ := vb_some e
    obtain ⟨e1, rfl⟩ := unit_some e
    obtain ⟨w', r1, r2, r3⟩ := updA_ok (P := P) K s (opnd_rel s ht h1) (opnd_rel s ht h2) (opnd_rel s ht h3) e1
    exact skip_done r1 r2 r3
  | mapEntry t m k =>
    obtain ⟨m1, h1, e⟩ := vb_some e
    obtain ⟨k1, h2, e⟩ := vb_some e
    obtain ⟨w', v', r0, r1, r2, r3⟩ := entA_ok (P := P) K s (opnd_rel s ht h1) (opnd_rel s ht h2) e
    exact Made.done ⟨v', w', φ, r0, Le.refl φ, r1, r2, r3⟩
  | entryStore t m b x =>
    obtain ⟨m1, h1, e⟩ := vb_some e
    obtain ⟨k1, h2, e⟩ := vb_some e
    obtain ⟨x1, h3, e⟩ := vb_some e
    obtain ⟨e1, rfl⟩ := unit_some e
    obtain ⟨w', r1, r2, r3⟩ := entSt_ok (P := P) (t := t) s (opnd_rel s ht h1) (opnd_rel s ht h2) (opnd_rel s ht h3) e1
    exact skip_done r1 r2 r3
  | range t x =>
    obtain ⟨u, h1, e⟩ := vb_some e
    exact (rangeA_ok K s (opnd_rel s ht h1) e).done
  | next it is =>
    obtain ⟨u, h1, e⟩ := vb_some e
    exact (nextA_ok s (opnd_rel s ht h1) e type).done
  | entry it =>
    obtain ⟨u, h1, e⟩ := vb_some e
    obtain ⟨e1, rfl⟩ := vv_some e
    exact read_done s (entryA_ok s (opnd_rel s ht h1) e1)
  | extract t i =>
    obtain ⟨u, h1, e⟩ := vb_some e
    obtain ⟨rfl, r⟩ := extrK_ok (P := P) (w := w) (opnd_rel s ht h1) e
    exact read_done s r
  | call c => exact absurd rfl (hc c)
  | _ => exact absurd e (by simp [anyA])
end
end Go.Ev

/- An operation under the calculus of fenced runs: what the evaluator says of it. -/
namespace Go.Ev
open Go.RowKit
section
variable {C : Ctx} {P : Program} {N : Kp} {φ : Pl} {h h' : H} {w : World} {T : PT AV} {a : Act}

/-- Whatever may come of it, the next one takes. -/
def Takes (N : Kp) (φ : Pl) (w : World) (v : AV) (h' : H) (K : Value → World → Prop) : Prop :=
  ∀ v' w' ψ, Le φ ψ → VR ψ v v' → Sim N ψ h' w' → Below N w w' → K v' w'

theorem oper_plain (K : CtxOk C P) (s : Sim N φ h w) (ht : TR φ T a.tmps) (cf : CallA) (cr : RoundA) {o : Oper} (hc : ∀ c, o.op ≠ .call c) (hd : ∀ c, o.op ≠ .defer c) {v : AV} (e : anyA C cf cr T h o.op = some (v, h'))
    {F : Fence} {n : Nat} {next : Act → World → Prop} {Q : Exit → Act → World → Prop} (hk : Takes N φ w v h' fun v' w' => next (a.put o.dst v') w') : o.wpIn F n P a w next Q := by
  obtain ⟨r, v', w', ψ, h1, h2, h3, h4, h5, h6⟩ := anyA_ok K s ht cf cr hc e
  refine ⟨?_, ?_⟩
  · intro f hf
    unfold Oper.about at hf
    split at hf
    · rename_i c hcc; exact absurd hcc (hc c)
    · exact absurd hf (by simp)
  · rw [Oper.semAt_eq _ _ _ hd, h1]
    rcases h2 with rfl | ⟨rfl, rfl⟩
    · exact hk _ _ _ h3 h4 h5 h6
    · exact hk _ _ _ h3 h4 h5 h6

/-- Temporaries behind an operation. -/
theorem TR.step (ht : TR φ T a.tmps) {dst : Option Tmp} (hd : ∀ d, dst = some d → d < a.tmps.size) (hb : a.tmps.size ≤ 5000000) {ψ : Pl} (hl : Le φ ψ) {v : AV} {v' : Value} (hv : VR ψ v v') : TR ψ (putT T dst v) (a.put dst v').tmps := by
  cases dst with
  | none => exact ht.mono hl
  | some d => exact (ht.mono hl).put (hd d rfl) (Nat.lt_of_lt_of_le (hd d rfl) hb) hv
end
end Go.Ev

/- A region in its text's order: what the evaluator says of it. -/
namespace Go.Ev
open Go.RowKit
section
variable {C : Ctx} {P : Program} {N : Kp} {φ : Pl} {h h' : H} {w : World} {T T' : PT AV} {a : Act}

theorem wantG_ok (ht : TR φ T a.tmps) {ops : Array Oper} {g : Nat × Bool} {r : Bool} (e : wantG ops.toList T g = some r) : (yielded ops a.tmps g.1 == some g.2) = r := by
  unfold wantG at e
  rw [Array.getElem?_toList] at e
  unfold yielded
  split at e
  · rename_i p hp
    rw [hp]
    split at e
    · rename_i d hd
      simp only [Option.bind_some, hd]
      split at e
      · rename_i b hT
        obtain ⟨v', h1, h2⟩ := ht _ _ hT
        cases h2
        rw [h1]
        injection e with e
        subst e
        cases b <;> cases g.2 <;> rfl
      · rename_i x hx hne
        injection e with e; subst e
        obtain ⟨v', h1, h2⟩ := ht _ _ hne
        rw [h1]
        cases h2 <;> first | rfl | exact absurd rfl (hx _)
      · exact absurd e (by simp)
    · rename_i hd
      injection e with e; subst e
      simp only [Option.bind_some, hd, Option.bind_none]
      rfl
  · rename_i hp
    injection e with e; subst e
    rw [hp]
    rfl
theorem wantA_ok (ht : TR φ T a.tmps) {ops : Array Oper} {o : Oper} {r : Bool} (e : wantA ops.toList T o = some r) : Region.wanted o (yielded ops a.tmps) = r := by
  unfold wantA at e
  unfold Region.wanted
  cases hg : o.guard with
  | none => rw [hg] at e; injection e
  | some g => rw [hg] at e; exact wantG_ok ht e

/-- Every operation is what the evaluator says: the calls too. -/
def OpsOk (C : Ctx) (P : Program) (N : Kp) (cf : CallA) (cr : RoundA) (F : Fence) (n : Nat) : Prop :=
  ∀ {φ : Pl} {h h' : H} {w : World} {T : PT AV} {a : Act} {o : Oper} {v : AV}, Sim N φ h w → TR φ T a.tmps → anyA C cf cr T h o.op = some (v, h') →
    ∀ (next : Act → World → Prop) (Q : Exit → Act → World → Prop), Takes N φ w v h' (fun v' w' => next (a.put o.dst v') w') → o.wpIn F n P a w next Q

theorem put_size (a : Act) (dst : Option Tmp) (v : Value) : (a.put dst v).tmps.size = a.tmps.size := by
  cases dst <;> simp [Act.put]
theorem put_defers (a : Act) (dst : Option Tmp) (v : Value) : (a.put dst v).defers = a.defers := by
  cases dst <;> rfl

theorem opsA_ok {cf : CallA} {cr : RoundA} {F : Fence} {n : Nat} (H : OpsOk C P N cf cr F n) (hF : ∀ f, F.fn f) {ops : Array Oper} {Q : Exit → Act → World → Prop} :
    ∀ (l : List Oper) {φ : Pl} {h h' : Go.Ev.H} {w : World} {T T' : PT AV} {a : Act}, Sim N φ h w → TR φ T a.tmps → dstsOk a.tmps.size l = true → a.tmps.size ≤ 5000000 → opsA C cf cr ops.toList l T h = some (T', h') →
      (∀ a' w' ψ, Le φ ψ → TR ψ T' a'.tmps → Sim N ψ h' w' → Below N w w' → a'.tmps.size = a.tmps.size → a'.defers = a.defers → Q .normal a' w') → wpListIn F n P ops Q l a w
  | [], φ, h, h', w, T, T', a, s, ht, _, _, e, hq => by
    have e' : some (T, h) = some (T', h') := e
    injection e' with e'; injection e' with e1 e2; subst e1 e2
    exact hq a w φ (Le.refl φ) ht s (Below.refl N w) rfl rfl
  | o :: l, φ, h, h', w, T, T', a, s, ht, hd, hb, e, hq => by
    have hd' : (match o.dst with | some d => Nat.blt d a.tmps.size | none => true) = true ∧ dstsOk a.tmps.size l = true := by
      unfold dstsOk at hd ⊢
      rwa [List.all_cons, Bool.and_eq_true] at hd
    have hdst : ∀ d, o.dst = some d → d < a.tmps.size := by
      intro d hd2
      have := hd'.1
      rw [hd2] at this
      exact blt_lt this
    obtain ⟨wt, h1, e⟩ := ob_some (show ob (wantA ops.toList T o) (fun w => iff' w (ob (anyA C cf cr T h o.op) fun r => opsA C cf cr ops.toList l (putT T o.dst r.1) r.2) (opsA C cf cr ops.toList l (putT T o.dst (.tup [])) h)) = some (T', h') from e)
    have hw := wantA_ok ht h1
    unfold wpListIn
    rw [hw]
    cases wt with
    | true =>
      rw [iff_true] at e
      obtain ⟨r, h2, e⟩ := ob_some e
      obtain ⟨v, h0⟩ := r
      rw [if_pos rfl]
      refine H s ht h2 _ _ ?_
      intro v' w' ψ hl hv s' hbw
      refine opsA_ok H hF l s' (ht.step hdst hb hl hv) (by rw [put_size]; exact hd'.2) (by rw [put_size]; exact hb) e ?_
      intro a' w2 χ g1 g2 g3 g4 g5 g6
      exact hq a' w2 χ (hl.trans g1) g2 g3 (hbw.trans g4) (by rw [g5, put_size]) (by rw [g6, put_defers])
    | false =>
      rw [iff_false] at e
      rw [if_neg (by simp)]
      refine ⟨fun f _ => hF f, ?_⟩
      refine opsA_ok H hF l s (ht.step hdst hb (Le.refl φ) vrunit) (by rw [put_size]; exact hd'.2) (by rw [put_size]; exact hb) e ?_
      intro a' w2 χ g1 g2 g3 g4 g5 g6
      exact hq a' w2 χ g1 g2 g3 g4 (by rw [g5, put_size]) (by rw [g6, put_defers])
end
end Go.Ev
