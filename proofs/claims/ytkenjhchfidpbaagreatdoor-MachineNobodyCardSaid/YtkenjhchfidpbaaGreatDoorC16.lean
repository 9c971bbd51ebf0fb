/- What reads alone: the world, the heap and the places stay as they are (turned out of texts 19 and 22 by gen/ev29.py). -/
import Derived.Test.YtkenjhchfidpbaaGreatDoorC15
namespace Go.Ev
open Go.RowKit
section
variable {C : Ctx} {P : Program} {N : Kp} {φ : Pl} {h h' : H} {w : World} {T : PT AV} {a : Act}
theorem convR_ok (K : CtxOk C P) (s : Sim N φ h w) {src dst : TypeId} {x v : AV} {x' : Value} (hx : VR φ x x') (hns : ∀ e, und C dst ≠ some (.slice e)) (e : convA C h src dst x = some (v, h')) :
    h' = h ∧ ∃ v', (convert src dst x').run P w = .ok v' w ∧ VR φ v v' := by
  unfold convA at e
  split at e
  · rename_i ks kd _ n hs hd
    cases hx
    injection e with e; injection e with e1 e2; subst e1 e2
    refine ⟨rfl, .int kd (kd.wrap n), ?_, (by rw [wr_eq]; exact .int _ _)⟩
    simp only [convert, Sem.run_bind, run_und K hs, run_und K hd, Result.andThen_ok, Conv.intToInt, Sem.run_pure]
  · rename_i ks _ n hs hd
    cases hx
    have e1 := cond_some e
    clear e
    obtain ⟨hn, e⟩ := e1
    injection e with e; injection e with e1 e2; subst e1 e2
    have hlt := blt_lt hn
    refine ⟨rfl, .string (Utf8.encode (Int.ofNat n)), ?_, (vrstr _ _ ?_)⟩
    · simp only [convert, Sem.run_bind, run_und K hs, run_und K hd, Result.andThen_ok, Conv.intToString, Sem.run_pure]
    · have h0 : Int.ofNat n = (n : Int) := rfl
      have h1 := Go.Extern.FmtText.enc1 n hlt
      unfold nats
      rw [h0, h1]
      simp
      omega
  · rename_i q hs hd
    cases hx
    rename_i b
    injection e with e; injection e with e1 e2; subst e1 e2
    refine ⟨rfl, .string b, ?_, (.str b)⟩
    simp only [convert, Sem.run_bind, run_und K hs, run_und K hd, Result.andThen_ok, Sem.run_pure]
  · rename_i el q hs hd
    exact absurd hd (hns el)
  · rename_i el y hs hd
    split at e
    · rename_i hu
      split at e
      · cases hx
        injection e with e; injection e with e1 e2; subst e1 e2
        refine ⟨rfl, .string .empty, ?_, (vrstr _ _ rfl)⟩
        simp only [convert, Sem.run_bind, run_und K hs, run_und K hd, run_und K hu, Result.andThen_ok, Conv.bytesToString, Sem.run_pure]
      · cases hx with
        | slz ad c' =>
          injection e with e; injection e with e1 e2; subst e1 e2
          refine ⟨rfl, .string .empty, ?_, (vrstr _ _ rfl)⟩
          have := run_bytesToString (P := P) w ad 0 c' [] rfl
          simp only [convert, Sem.run_bind, run_und K hs, run_und K hd, run_und K hu, Result.andThen_ok]
          exact this
      · rename_i i off n c zz
        cases hx with
        | sl _ _ _ _ c' b k _ hp hc he hz =>
          split at e
          · rename_i l hl
            split at e
            · rename_i q hq
              injection e with e; injection e with e1 e2; subst e1 e2
              obtain ⟨l', d1, d2, d3⟩ := cells_ok (P := P) s hl hp
              obtain ⟨b1, b2⟩ := bytesOk_rel hq d2
              have hm : l' = (q.map (fun n : Nat => (n : Int))).map (Value.int .u8) := by rw [b1, List.map_map]; rfl
              have := run_bytesToString (P := P) w ⟨b, k + off, none⟩ n c' (q.map (fun n : Nat => (n : Int))) (by rw [← hm]; exact d1 w rfl)
              refine ⟨rfl, _, ?_, (vrstr _ _ (push_nats q ByteArray.empty b2))⟩
              simp only [convert, Sem.run_bind, run_und K hs, run_und K hd, run_und K hu, Result.andThen_ok]
              exact this
            · exact absurd e (by simp)
          · exact absurd e (by simp)
      · exact absurd e (by simp)
    · exact absurd e (by simp)
  · rename_i d d' _ hs hd _ _ _ _
    unfold val0 at e
    split at e
    · rename_i v0 hv0
      injection e with e; injection e with e1 e2; subst e1 e2
      obtain ⟨v', r1, r2⟩ := uptr_ok (P := P) K s hs hd hx hv0
      exact ⟨rfl, _, r1, r2⟩
    · exact absurd e (by simp)
  · exact absurd e (by simp)
theorem read_any {m : Sem Value} {v : AV} {v' : Value} (r1 : m.run P w = .ok v' w) (r2 : VR φ v v') : h = h ∧ ∃ v', (do Pure.pure (.value (← m)) : Sem Next).run P w = .ok (.value v') w ∧ VR φ v v' :=
  ⟨rfl, v', by simp only [Sem.run_bind, r1, Result.andThen_ok, Sem.run_pure], r2⟩
theorem anyR_ok (K : CtxOk C P) (s : Sim N φ h w) (ht : TR φ T a.tmps) (cf : CallA) (cr : RoundA) {o : Oper} (hc : ∀ c, o.op ≠ .call c) (hE : isE C o.op = false) {v : AV} (e : anyA C cf cr T h o.op = some (v, h')) :
    h' = h ∧ ∃ v', (execOp a.eval o).run P w = .ok (.value v') w ∧ VR φ v v' := by
  obtain ⟨dst, op, type, pos, after, guard⟩ := o
  cases op with
  | move x =>
    obtain ⟨e1, rfl⟩ := vv_some e
    exact ⟨rfl, _, rfl, opnd_rel s ht e1⟩
  | assign x =>
    obtain ⟨e1, rfl⟩ := vv_some e
    exact ⟨rfl, _, rfl, opnd_rel s ht e1⟩
  | pick c x y =>
    obtain ⟨u, h1, e⟩ := vb_some e
    have hu := opnd_rel s ht h1
    unfold pickK at e
    split at e
    · obtain ⟨e1, rfl⟩ := vv_some e
      have hv := opnd_rel s ht e1
      refine ⟨rfl, a.eval x, ?_, hv⟩
      generalize hq : a.eval c = q at hu
      cases hu
      simp only [execOp, hq, asBool, Sem.run_bind, Sem.run_pure, Result.andThen_ok, if_true]
    · obtain ⟨e1, rfl⟩ := vv_some e
      have hv := opnd_rel s ht e1
      refine ⟨rfl, a.eval y, ?_, hv⟩
      generalize hq : a.eval c = q at hu
      cases hu
      simp only [execOp, hq, asBool, Sem.run_bind, Sem.run_pure, Result.andThen_ok, Bool.false_eq_true, if_false]
    · exact absurd e (by simp)
  | alloc t => exact absurd hE (by simp [isE])
  | box t x => exact absurd hE (by simp [isE])
  | build t ps =>
    have e' : buildK C T h t ps.toList = some (v, h') := e
    unfold buildK at e'
    split at e'
    · rename_i l hl
      obtain ⟨e1, rfl⟩ := vv_some e'
      obtain ⟨v', r1, r2⟩ := buildA_ok K (by rw [partsA_map]; exact partsA_ok s ht hl) e1; exact read_any r1 r2
    · exact absurd e' (by simp)
  | buildSlice t n ps => exact absurd hE (by simp [isE])
  | insert t m k x => exact absurd hE (by simp [isE])
  | load t x =>
    obtain ⟨u, h1, e⟩ := vb_some e
    obtain ⟨e1, rfl⟩ := vv_some e
    obtain ⟨v', r1, r2⟩ := load_ok K s (opnd_rel s ht h1) e1; exact read_any r1 r2
  | store t x y => exact absurd hE (by simp [isE])
  | nilCheck x =>
    obtain ⟨u, h1, e⟩ := vb_some e
    have hu := opnd_rel s ht h1
    unfold nilK at e
    generalize hq : a.eval x = q at hu
    split at e
    · injection e with e; injection e with e1 e2; subst e1 e2
      cases hu with
      | ptr _ _ b k hp =>
        refine ⟨rfl, _, ?_, .ptr _ _ b k hp⟩
        simp only [execOp, hq, Sem.run_pure]
    · injection e with e; injection e with e1 e2; subst e1 e2
      cases hu with
      | fn f g x1 x2 y1 y2 hf ha hb =>
        cases hf
        refine ⟨rfl, _, ?_, .fn _ _ _ _ _ _ (.func _) ha hb⟩
        simp only [execOp, hq, Sem.run_pure]
    · injection e with e; injection e with e1 e2; subst e1 e2
      cases hu with
      | fn f g x1 x2 y1 y2 hf ha hb =>
        cases hf with
        | yield l r hl =>
          refine ⟨rfl, _, ?_, .fn _ _ _ _ _ _ (.yield _ _ hl) ha hb⟩
          simp only [execOp, hq, Sem.run_pure]
    · exact absurd e (by simp)
  | binOp op t x y q =>
    obtain ⟨u, h1, e⟩ := vb_some e
    obtain ⟨u2, h2, e⟩ := vb_some e
    obtain ⟨e1, rfl⟩ := vv_some e
    obtain ⟨v', r1, r2⟩ := binA_ok K s (opnd_rel s ht h1) (opnd_rel s ht h2) e1; exact read_any r1 r2
  | unOp op t x =>
    obtain ⟨u, h1, e⟩ := vb_some e
    obtain ⟨e1, rfl⟩ := vv_some e
    obtain ⟨v', r1, r2⟩ := unA_ok (opnd_rel s ht h1) e1; exact read_any r1 r2
  | convert sr ds x =>
    obtain ⟨u, h1, e⟩ := vb_some e
    have hns : ∀ e, und C ds ≠ some (.slice e) := by
      intro el hel
      simp only [isE, hel] at hE
      exact absurd hE (by simp)
    obtain ⟨rfl, v', r1, r2⟩ := convR_ok (P := P) K s (opnd_rel s ht h1) hns e
    exact read_any r1 r2
  | makeInterface t x =>
    obtain ⟨u, h1, e⟩ := vb_some e
    have hu := opnd_rel s ht h1
    unfold ifcK at e
    split at e
    · exact absurd e (by simp)
    · rename_i d hd hne
      injection e with e; injection e with e1 e2; subst e1 e2
      refine read_any (v' := .iface t (a.eval x)) ?_ (.ifc _ _ _ hu)
      simp only [Instr.makeInterface, Sem.run_bind, run_und K hne, Result.andThen_ok]
      cases d <;> first | rfl | exact absurd rfl (hd _)
    · exact absurd e (by simp)
  | makeFunc f x y =>
    have e' : funcK T h f x.toList y.toList = some (v, h') := e
    unfold funcK at e'
    split at e'
    · rename_i g p q hp hq
      injection e' with e'; injection e' with e1 e2; subst e1 e2
      exact read_any (v' := .func (.func g) (x.map a.eval) (y.map a.eval)) rfl (.fn _ _ _ _ _ _ (.func g) (by rw [Array.toList_map]; exact opnds_rel s ht hp) (by rw [Array.toList_map]; exact opnds_rel s ht hq))
    · exact absurd e' (by simp)
  | makeMap t r => exact absurd hE (by simp [isE])
  | makeSlice t x y => exact absurd hE (by simp [isE])
  | slice t x lo hi mx =>
    obtain ⟨u, h1, e⟩ := vb_some e
    obtain ⟨e1, rfl⟩ := vv_some e
    obtain ⟨v', r1, r2⟩ := sliceA_ok K s ht (opnd_rel s ht h1) e1; exact read_any r1 r2
  | fieldAddr t x f =>
    obtain ⟨u, h1, e⟩ := vb_some e
    obtain ⟨e1, rfl⟩ := vv_some e
    obtain ⟨v', r1, r2⟩ := field_ok K (opnd_rel s ht h1) e1; exact read_any r1 r2
  | field t x f =>
    obtain ⟨u, h1, e⟩ := vb_some e
    obtain ⟨rfl, r⟩ := fieldK_ok (P := P) (w := w) K (opnd_rel s ht h1) e
    obtain ⟨v', r1, r2⟩ := r; exact read_any r1 r2
  | indexAddr t x i =>
    obtain ⟨u, h1, e⟩ := vb_some e
    obtain ⟨u2, h2, e⟩ := vb_some e
    obtain ⟨e1, rfl⟩ := vv_some e
    obtain ⟨v', r1, r2⟩ := indexPl_ok K (opnd_rel s ht h1) (opnd_rel s ht h2) e1; exact read_any r1 r2
  | index t x i =>
    obtain ⟨u, h1, e⟩ := vb_some e
    obtain ⟨u2, h2, e⟩ := vb_some e
    obtain ⟨e1, rfl⟩ := vv_some e
    obtain ⟨v', r1, r2⟩ := indexA_ok K (opnd_rel s ht h1) (opnd_rel s ht h2) e1; exact read_any r1 r2
  | lookup t m k ok =>
    obtain ⟨u, h1, e⟩ := vb_some e
    obtain ⟨u2, h2, e⟩ := vb_some e
    obtain ⟨e1, rfl⟩ := vv_some e
    obtain ⟨v', r1, r2⟩ := lookA_ok K s (opnd_rel s ht h1) (opnd_rel s ht h2) e1; exact read_any r1 r2
  | mapUpdate t m k x => exact absurd hE (by simp [isE])
  | mapEntry t m k => exact absurd hE (by simp [isE])
  | entryStore t m b x => exact absurd hE (by simp [isE])
  | range t x => exact absurd hE (by simp [isE])
  | next it is => exact absurd hE (by simp [isE])
  | entry it =>
    obtain ⟨u, h1, e⟩ := vb_some e
    obtain ⟨e1, rfl⟩ := vv_some e
    obtain ⟨v', r1, r2⟩ := entryA_ok s (opnd_rel s ht h1) e1; exact read_any r1 r2
  | extract t i =>
    obtain ⟨u, h1, e⟩ := vb_some e
    obtain ⟨rfl, r⟩ := extrK_ok (P := P) (w := w) (opnd_rel s ht h1) e
    obtain ⟨v', r1, r2⟩ := r; exact read_any r1 r2
  | call c => exact absurd rfl (hc c)
  | _ => exact absurd e (by simp [anyA])

theorem builtR_ok (K : CtxOk C P) (s : Sim N φ h w) {b : Builtin} (hb : b = .len ∨ b = .cap ∨ b = .max ∨ b = .min) {ts : Array TypeId} {args : List AV} {args' : Array Value} (ha : VRs φ args args'.toList) {v : AV} (e : builtA C h b ts.toList args = some (v, h')) (ty : TypeId) (cs : Array Bool) :
    h' = h ∧ ∃ v', (builtin b ts ty cs args').run P w = .ok (.value v') w ∧ VR φ v v' := by
  rcases hb with rfl | rfl | rfl | rfl
  · unfold builtA at e
    split at e <;> first | (exfalso; simp at *; done) | skip
    · obtain ⟨x', rfl, hx⟩ := args1 ha
      obtain ⟨e1, rfl⟩ := val_some e
      obtain ⟨v', r1, r2⟩ := lenA_ok (P := P) K s hx e1 ty
      exact read_any r1 r2
  · unfold builtA at e
    split at e <;> first | (exfalso; simp at *; done) | skip
    · obtain ⟨x', rfl, hx⟩ := args1 ha
      obtain ⟨e1, rfl⟩ := val_some e
      obtain ⟨v', r1, r2⟩ := capA_ok (P := P) (w := w) K hx e1 ty
      exact read_any r1 r2
  · unfold builtA at e
    split at e <;> first | (exfalso; simp at *; done) | skip
    · obtain ⟨x', l', hl, hx, ht⟩ := foldl_args ha
      obtain ⟨e1, rfl⟩ := val_some e
      obtain ⟨v', r1, r2⟩ := mmA_ok (P := P) (w := w) true Builtin.max2 rfl _ _ _ _ _ hx ht e1
      refine read_any (m := Builtin.max_ ts ty args') (v' := v') ?_ r2
      unfold Builtin.max_
      rw [hl]; exact r1
  · unfold builtA at e
    split at e <;> first | (exfalso; simp at *; done) | skip
    · obtain ⟨x', l', hl, hx, ht⟩ := foldl_args ha
      obtain ⟨e1, rfl⟩ := val_some e
      obtain ⟨v', r1, r2⟩ := mmA_ok (P := P) (w := w) false Builtin.min2 rfl _ _ _ _ _ hx ht e1
      refine read_any (m := Builtin.min_ ts ty args') (v' := v') ?_ r2
      unfold Builtin.min_
      rw [hl]; exact r1

/-- An operation that reads alone, under the calculus. -/
theorem operR_ok (K : CtxOk C P) (s : Sim N φ h w) (ht : TR φ T a.tmps) (cf : CallA) (cr : RoundA) {o : Oper} (hE : isE C o.op = false) {v : AV} (e : anyA C cf cr T h o.op = some (v, h')) :
    h' = h ∧ ∃ v', VR φ v v' ∧ ∀ (F : Fence) (n : Nat) (next : Act → World → Prop) (Q : Exit → Act → World → Prop), (∀ f, F.fn f) → next (a.put o.dst v') w → o.wpIn F n P a w next Q := by
  have fin : ∀ v', (∀ c, o.op ≠ .defer c) → (execOp a.eval o).run P w = .ok (.value v') w → ∀ (F : Fence) (n : Nat) (next : Act → World → Prop) (Q : Exit → Act → World → Prop), (∀ f, F.fn f) → next (a.put o.dst v') w → o.wpIn F n P a w next Q := by
    intro v' hd hr F n next Q hF hk
    refine ⟨fun f _ => hF f, ?_⟩
    rw [Oper.semAt_eq _ _ _ hd, hr]
    exact hk
  by_cases hc : ∃ c, o.op = .call c
  · obtain ⟨c, hc⟩ := hc
    obtain ⟨callee, args, ts⟩ := c
    have hd : ∀ c, o.op ≠ .defer c := by intro c; rw [hc]; exact Op.noConfusion
    rw [hc] at hE e
    cases callee with
    | value f => exact absurd hE (by simp [isE])
    | invoke r m => exact absurd hE (by simp [isE])
    | builtin b =>
      have hb : b = .len ∨ b = .cap ∨ b = .max ∨ b = .min := by
        cases b <;> first | (exfalso; simp [isE] at hE; done) | simp
      obtain ⟨l, h1, e⟩ := ob_some (show ob (opnds T args.toList) (fun l => builtA C h b ts.toList l) = some (v, h') from e)
      obtain ⟨rfl, v', r1, r2⟩ := builtR_ok (P := P) (w := w) K s hb (args' := args.map a.eval) (by rw [Array.toList_map]; exact opnds_rel s ht h1) e o.type (args.map fun | .const _ => true | _ => false)
      refine ⟨rfl, v', r2, fin v' hd ?_⟩
      simp only [execOp, hc, resolve, Sem.run_bind, Sem.run_pure, Result.andThen_ok, invoke]
      exact r1
  · have hc' : ∀ c, o.op ≠ .call c := fun c h => hc ⟨c, h⟩
    obtain ⟨rfl, v', r1, r2⟩ := anyR_ok (P := P) K s ht cf cr hc' hE e
    refine ⟨rfl, v', r2, fin v' ?_ r1⟩
    intro c h0
    rw [h0] at hE
    exact absurd hE (by simp [isE])

/-- What is steady does not hang on the heap. -/
theorem binA_steady {op : BinOp} (hop : (match op with | .eql | .neq => false | _ => true) = true) (h g : H) (t : TypeId) (c : Bool) (x y : AV) : binA C h op t c x y = binA C g op t c x y := by
  cases op <;> first | (exfalso; simp at hop; done) | skip
  all_goals (cases x <;> cases y <;> rfl)
theorem steady_ok {cf : CallA} {cr : RoundA} {o : Op} (hs : steady o = true) {v : AV} {g : H} (e : anyA C cf cr T h o = some (v, h')) : anyA C cf cr T g o = some (v, g) := by
  cases o <;> first | (exfalso; simp [steady] at hs; done) | skip
  · exact vv_of e
  · exact vv_of e
  · refine vb_of e fun u e => ?_
    unfold pickK at e ⊢
    split at e
    · exact vv_of e
    · exact vv_of e
    · exact absurd e (by simp)
  · rename_i t ps
    have e' : buildK C T h t ps.toList = some (v, h') := e
    show buildK C T g t ps.toList = some (v, g)
    unfold buildK at e' ⊢
    split at e'
    · exact vv_of e'
    · exact absurd e' (by simp)
  · refine vb_of e fun u e => ?_
    unfold nilK at e ⊢
    split at e <;> first | (injection e with e; injection e with e1 e2; rw [e1]) | exact absurd e (by simp)
  · refine vb_of e fun u e => vb_of e fun u2 e => ?_
    rw [binA_steady hs g h]
    exact vv_of e
  · exact vb_of e fun u e => vv_of e
  · refine vb_of e fun u e => ?_
    unfold ifcK at e ⊢
    split at e <;> first | (injection e with e; injection e with e1 e2; rw [e1]) | exact absurd e (by simp)
  · rename_i f x y
    have e' : funcK T h f x.toList y.toList = some (v, h') := e
    show funcK T g f x.toList y.toList = some (v, g)
    unfold funcK at e' ⊢
    split at e' <;> first | (injection e' with e; injection e with e1 e2; rw [e1]) | exact absurd e' (by simp)
  · exact vb_of e fun u e => vv_of e
  · exact vb_of e fun u e => vv_of e
  · refine vb_of e fun u e => ?_
    unfold fieldK at e ⊢
    split at e
    · split at e
      · exact vv_of e
      · exact absurd e (by simp)
    · exact absurd e (by simp)
  · exact vb_of e fun u e => vb_of e fun u2 e => vv_of e
  · exact vb_of e fun u e => vb_of e fun u2 e => vv_of e
  · refine vb_of e fun u e => ?_
    unfold extrK at e ⊢
    split at e
    · exact vv_of e
    · exact absurd e (by simp)
end
end Go.Ev

/- Operations that make a new block, of a number that was kept free. -/
namespace Go.Ev
open Go.RowKit
section
variable {C : Ctx} {P : Program} {N : Kp} {φ : Pl} {h h' : H} {w : World} {T : PT AV} {a : Act}

/-- What an operation that makes a block comes to. -/
def MadeB (P : Program) (φ : Pl) (w : World) (s : Sem Value) (i : Nat) (v : AV) (b : Blk) : Prop :=
  ∃ v' o m, s.run P w = .ok v' (w.alloc o) ∧ BR (add φ i (w.heap.size, 0) m) b o 0 ∧ (∀ cs t fr, o = .cells cs t fr → m = cs.size) ∧ VR (add φ i (w.heap.size, 0) m) v v'

theorem newRow_madeB {i k : Nat} {h' : H} (hφ : φ i = none) {el : TypeId} {l : List AV} {cs : Array Value} (hl : VRs φ l cs.toList) (e : newRow ⟨.e, i⟩ el l 0 = some (k, h')) :
    k = i ∧ ∃ b, h'.b.get i = some b ∧ (Go.newRow el cs).run P w = .ok ⟨w.heap.size, 0, none⟩ (w.alloc (.cells cs el)) ∧ BR (add φ i (w.heap.size, 0) cs.size) b (.cells cs el) 0 := by
  obtain ⟨h1, h2, e⟩ := newRow_some e
  obtain ⟨e1, e2, e3⟩ := newB_some e
  have hlen := hl.length
  have hle : Le φ (add φ i (w.heap.size, 0) cs.size) := add_le hφ
  refine ⟨e1, _, by rw [e2]; show (PT.put PT.e i _).get i = _; rw [put_get _ _ _ _ e3, if_pos rfl], by simp only [Go.newRow, Sem.run_bind, newObj_run, Result.andThen_ok, Sem.run_pure], ?_⟩
  have hs : cs.size = l.length := by simpa using hlen
  refine .cells el _ _ 0 cs (0, 0) 0 ⟨by omega, h2, ?_⟩ (fun _ => ⟨rfl, hs⟩) (fun _ => rfl) (fun j _ => by simp)
  intro j v hj hv
  rw [pt_get _ _ _ _ (by omega), if_pos ⟨Nat.zero_le _, by omega⟩] at hv
  obtain ⟨v', x, y⟩ := hl.get hv
  exact ⟨v', by rw [Nat.zero_add]; simpa using x, y.mono hle⟩

theorem newVar_madeB {i : Nat} (hφ : φ i = none) {t : TypeId} {z : AV} {z' : Value} (hz : VR φ z z') {v : AV} (e : ptr0 (newRow ⟨.e, i⟩ t (cellsA z) 0) = some (v, h')) :
    ∃ b, h'.b.get i = some b ∧ MadeB P φ w (do pure (.pointer (some (← newVar t z')))) i v b := by
  obtain ⟨k, e1, rfl⟩ := ptr0_some e
  obtain ⟨rfl, b, b1, b2, b3⟩ := newRow_madeB (P := P) (w := w) hφ (cs := z'.cells) (cells_rel hz) e1
  refine ⟨b, b1, .pointer (some ⟨w.heap.size, 0, none⟩), _, _, ?_, b3, (fun _ _ _ e => by injection e with e; rw [e]), ?_⟩
  · simp only [newVar, b2, Sem.run_bind, Result.andThen_ok, Sem.run_pure]
  · have := VR.ptr (φ := add φ k (w.heap.size, 0) z'.cells.size) k 0 w.heap.size 0 add_at
    simpa using this

theorem makeSl_madeB (K : CtxOk C P) {i : Nat} (hφ : φ i = none) {t : TypeId} {l c v : AV} {l' c' : Value} (hl : VR φ l l') (hc : VR φ c c') (e : makeSl C ⟨.e, i⟩ t l c = some (v, h')) :
    ∃ b, h'.b.get i = some b ∧ MadeB P φ w (Instr.makeSlice t l' c') i v b := by
  unfold makeSl at e
  split at e
  · rename_i el kl ln kc cn hu
    cases hl
    cases hc
    split at e
    · rename_i sz z b hs hz hb
      obtain ⟨hh, e1⟩ := cond_some e
      clear e
      simp only [Bool.and_eq_true] at hh
      obtain ⟨⟨⟨⟨h1, h2⟩, h3⟩, h4⟩, h5⟩ := hh
      have h1 : ln ≤ cn := Nat.le_of_ble_eq_true h1
      have h2 : cn * sz ≤ 100000 := Nat.le_of_ble_eq_true h2
      have h3 : cn * b ≤ 1000000 := Nat.le_of_ble_eq_true h3
      have h4 : cn ≤ 1000000 := Nat.le_of_ble_eq_true h4
      have h5 := Nat.eq_of_beq_eq_true h5
      split at e1
      · rename_i j k hn
        injection e1 with e1; injection e1 with e1 e2; subst e1 e2
        obtain ⟨bb, b1, b2⟩ := zero_row (K := K) hz h5 w (n := cn)
        obtain ⟨rfl, blk, c0, r0, c3⟩ := newRow_madeB (P := P) (w := w) hφ (b2 φ) hn
        refine ⟨blk, c0, .slice (some ⟨w.heap.size, 0, none⟩) ln cn, _, _, ?_, c3, (fun _ _ _ e => by injection e with e; rw [e]), by simpa using VR.sl (φ := add φ j (w.heap.size, 0) _) j 0 ln cn cn w.heap.size 0 0 add_at (Nat.le_refl _) (fun _ => rfl) (fun h => absurd rfl h)⟩
        obtain ⟨ti, t1, t2⟩ := byt_ok K hb
        have w1 : IntKind.i64.wrap (Int.ofNat ln) = (ln : Int) := wrap_nat .i64 ln (by simp only [lim]; omega)
        have w2 : IntKind.i64.wrap (Int.ofNat cn) = (cn : Int) := wrap_nat .i64 cn (by simp only [lim]; omega)
        have hty : (typeInfo el).run P w = .ok ti w := by simp [typeInfo, t1]
        have c1 : ¬ ((cn : Int) < 0) := by omega
        have c2 : ¬ ((ti.bytes : Int) * (cn : Int) > 2 ^ 48) := by
          rw [t2]
          have : ((b : Int) * (cn : Int)) = ((cn * b : Nat) : Int) := by rw [Nat.mul_comm]; simp
          rw [this]; omega
        have c3 : ¬ ((ln : Int) < 0) := by omega
        have c4 : ¬ ((ln : Int) > (cn : Int)) := by omega
        have hroom : ¬ (cn * ti.bytes > roomBytes) := by rw [t2]; unfold roomBytes; omega
        simp only [Instr.makeSlice, Sem.run_bind, run_und K hu, Result.andThen_ok, asInt, asIntOf, Sem.run_pure, hty, w1, w2, c1, c2, c3, c4, decide_false, Bool.or_false, Bool.false_eq_true, if_false, Int.toNat_natCast, askRoom, hroom, run_siz K hs, b1, r0]
      · exact absurd e1 (by simp)
    · exact absurd e (by simp)
  · exact absurd e (by simp)

theorem buildSl_madeB (K : CtxOk C P) {i : Nat} (hφ : φ i = none) {t : TypeId} {n : Nat} {ps : List (Nat × AV)} {ps' : Array (Nat × Value)} (hp : PS φ ps ps'.toList) {v : AV} (e : buildSl C ⟨.e, i⟩ t n ps = some (v, h')) :
    ∃ b, h'.b.get i = some b ∧ MadeB P φ w (Instr.buildSlice t n ps') i v b := by
  unfold buildSl at e
  split at e
  · rename_i el hu
    split at e
    · rename_i sz z hs hz
      cases hb : (Nat.beq (cellsA z).length sz && Nat.ble (Nat.mul n sz) 100000) with
      | false => rw [hb] at e; exact absurd e (by simp)
      | true =>
        rw [hb] at e; simp only [cond_true] at e
        simp only [Bool.and_eq_true] at hb
        have h1 := Nat.eq_of_beq_eq_true hb.1
        have h2 : n * sz ≤ 100000 := Nat.le_of_ble_eq_true hb.2
        split at e
        · rename_i l hf
          split at e
          · rename_i j k hn
            injection e with e; injection e with e1 e2; subst e1 e2
            obtain ⟨b, b1, b2⟩ := zero_row (K := K) hz h1 w (n := n)
            obtain ⟨l', f1, f2⟩ := fillF_ok (pl' := fun i => some (i * sz, sz)) (fun i x hx => hx) hp (b2 φ) hf
            obtain ⟨rfl, blk, c0, r0, c3⟩ := newRow_madeB (P := P) (w := w) hφ f2 hn
            refine ⟨blk, c0, .slice (some ⟨w.heap.size, 0, none⟩) n n, _, _, ?_, c3, (fun _ _ _ e => by injection e with e; rw [e]), by simpa using VR.sl (φ := add φ j (w.heap.size, 0) _) j 0 n n n w.heap.size 0 0 add_at (Nat.le_refl _) (fun _ => rfl) (fun h => absurd rfl h)⟩
            have hno : ¬ n * sz > 2 ^ 24 := by omega
            simp only [Instr.buildSlice, Sem.run_bind, run_und K hu, run_siz K hs, Result.andThen_ok, hno, if_false, b1, f1, r0, Sem.run_pure]
          · exact absurd e (by simp)
        · exact absurd e (by simp)
    · exact absurd e (by simp)
  · exact absurd e (by simp)

theorem makeK_madeB (K : CtxOk C P) {i : Nat} (_hφ : φ i = none) (s : Sim N φ h w) (ht : TR φ T a.tmps) {t : TypeId} {r : Option Operand} {v : AV} (e : makeK C T ⟨.e, i⟩ t r = some (v, h')) :
    ∃ b, h'.b.get i = some b ∧ MadeB P φ w (Instr.makeMap t (r.map a.eval)) i v b := by
  have key : ∀ {v : AV} {hint : Option Value}, (match hint with | none => True | some u => ∃ k n, u = .int k n) → (∃ k el, und C t = some (.map k el)) → map0 (newB ⟨.e, i⟩ (.map [] 0)) = some (v, h') →
      ∃ b, h'.b.get i = some b ∧ MadeB P φ w (Instr.makeMap t hint) i v b := by
    intro v hint hh hu e
    obtain ⟨j, e1, rfl⟩ := map0_some e
    clear e
    obtain ⟨e2, e3, e4⟩ := newB_some e1
    obtain ⟨k, el, hu⟩ := hu
    refine ⟨.map [] 0, by rw [e3]; show (PT.put PT.e i _).get i = _; rw [put_get _ _ _ _ e4, if_pos rfl], .map (some w.heap.size), .map #[] 0, 0, ?_, .map [] #[] 0 .nil, fun _ _ _ e => Obj.noConfusion e, .map _ _ (by rw [e2]; exact add_at)⟩
    cases hint with
    | none => rfl
    | some u =>
      obtain ⟨kk, n, rfl⟩ := hh
      simp only [Instr.makeMap, Sem.run_bind, run_und K hu, Result.andThen_ok, asInt, asIntOf, Sem.run_pure]
      rfl
  unfold makeK at e
  split at e
  · rename_i k el hu
    exact key (hint := none) trivial ⟨k, el, hu⟩ e
  · rename_i k el x hu
    obtain ⟨u, hx, e⟩ := vb_some e
    have hv := opnd_rel s ht hx
    split at e
    · rename_i kk n
      refine key (hint := some (a.eval x)) ?_ ⟨k, el, hu⟩ e
      generalize a.eval x = q at hv
      cases hv
      exact ⟨_, _, rfl⟩
    · exact absurd e (by simp)
  · exact absurd e (by simp)

/-- Any operation that makes a new block. -/
theorem mkA_ok (K : CtxOk C P) (s : Sim N φ h w) (ht : TR φ T a.tmps) {o : Oper} (hA : isA o.op = true) {i : Nat} (hφ : φ i = none) {v : AV} {b : Blk} (e : mkA C T o.op i = some (v, b)) :
    ∃ v' ob m, (execOp a.eval o).run P w = .ok (.value v') (w.alloc ob) ∧ BR (add φ i (w.heap.size, 0) m) b ob 0 ∧ (∀ cs t fr, ob = .cells cs t fr → m = cs.size) ∧ VR (add φ i (w.heap.size, 0) m) v v' := by
  obtain ⟨r, e1, e⟩ := ob_some e
  obtain ⟨b', e2, e⟩ := ob_some e
  injection e with e; injection e with e3 e4; subst e3 e4
  obtain ⟨v, h'⟩ := r
  have fin : ∀ {m : Sem Value} {b : Blk}, h'.b.get i = some b → MadeB P φ w m i v b → (∃ v' ob mm, (do Pure.pure (.value (← m)) : Sem Next).run P w = .ok (.value v') (w.alloc ob) ∧ BR (add φ i (w.heap.size, 0) mm) b' ob 0 ∧ (∀ cs t fr, ob = .cells cs t fr → mm = cs.size) ∧ VR (add φ i (w.heap.size, 0) mm) v v') := by
    intro m b hb ⟨v', ob, mm, m1, m2⟩
    have hbb : b' = b := by
      have e2 : h'.b.get i = some b' := e2
      rw [hb] at e2; injection e2 with e2; exact e2.symm
    subst hbb
    exact ⟨v', ob, mm, by simp only [Sem.run_bind, m1, Result.andThen_ok, Sem.run_pure], m2⟩
  obtain ⟨dst, op, type, pos, after, guard⟩ := o
  cases op with
  | alloc t =>
    obtain ⟨z, h1, e⟩ := vb_some e1
    obtain ⟨z', hz1, hz2⟩ := run_zer K h1 w
    obtain ⟨b, c1, v', ob, mm, c2, c3⟩ := newVar_madeB (P := P) (w := w) hφ (hz2 φ) e
    refine fin (m := Instr.alloc t true (.tuple #[])) c1 ⟨v', ob, mm, ?_, c3⟩
    simp only [Instr.alloc, Sem.run_bind, hz1, Result.andThen_ok]
    simpa only [Sem.run_bind] using c2
  | box t x =>
    obtain ⟨u, h1, e⟩ := vb_some e1
    obtain ⟨b, c1, c2⟩ := newVar_madeB (P := P) (w := w) hφ (opnd_rel s ht h1) e
    exact fin (m := Instr.box t (a.eval x)) c1 c2
  | buildSlice t n ps =>
    have e' : buildSlK C T ⟨.e, i⟩ t n ps.toList = some (v, h') := e1
    unfold buildSlK at e'
    split at e'
    · rename_i l hl
      obtain ⟨b, c1, c2⟩ := buildSl_madeB (P := P) (w := w) K hφ (ps' := ps.map fun (i, x) => (i, a.eval x)) (by rw [partsA_map]; exact partsA_ok s ht hl) e'
      exact fin c1 c2
    · exact absurd e' (by simp)
  | makeMap t r =>
    obtain ⟨b, c1, c2⟩ := makeK_madeB (P := P) (w := w) K hφ s ht (show makeK C T ⟨.e, i⟩ t r = some (v, h') from e1)
    exact fin c1 c2
  | makeSlice t x y =>
    obtain ⟨u, h1, e⟩ := vb_some e1
    obtain ⟨u2, h2, e⟩ := vb_some e
    obtain ⟨b, c1, c2⟩ := makeSl_madeB (P := P) (w := w) K hφ (opnd_rel s ht h1) (opnd_rel s ht h2) e
    exact fin c1 c2
  | _ => exact absurd hA (by simp [isA])
end
end Go.Ev
