/- The evaluator's new blocks and iterators are the model's. -/
import Derived.Test.YtkenjhchfidpbaaGreatDoorC08
namespace Go.Ev
open Go.RowKit
section
variable {C : Ctx} {P : Program} {N : Kp} {φ : Pl} {h h' : H} {w : World} {T : PT AV} {a : Act}

/-- What an operation that makes or writes comes to. -/
def Made (P : Program) (N : Kp) (φ : Pl) (w : World) (s : Sem Value) (v : AV) (h' : H) : Prop :=
  ∃ v' w' ψ, s.run P w = .ok v' w' ∧ Le φ ψ ∧ VR ψ v v' ∧ Sim N ψ h' w' ∧ Below N w w'

theorem newObj_run (o : Obj) : (newObj o).run P w = .ok w.heap.size (w.alloc o) := rfl
theorem no_frozen (n : Nat) : ∀ j, j < n → ¬ ((0, 0) : Nat × Nat).1 ≤ j ∨ ¬ j < ((0, 0) : Nat × Nat).2 := fun j _ => .inr (by simp)

theorem ptr0_some {r : Option (Nat × H)} {v : AV} (e : ptr0 r = some (v, h')) : ∃ i, r = some (i, h') ∧ v = .ptr i 0 := by
  obtain ⟨x, hx, e⟩ := ob_some e
  injection e with e; injection e with e1 e2
  exact ⟨x.1, by rw [hx, ← e2], e1.symm⟩
theorem map0_some {r : Option (Nat × H)} {v : AV} (e : map0 r = some (v, h')) : ∃ i, r = some (i, h') ∧ v = .map i := by
  obtain ⟨x, hx, e⟩ := ob_some e
  injection e with e; injection e with e1 e2
  exact ⟨x.1, by rw [hx, ← e2], e1.symm⟩

/-- A new variable. -/
theorem newVar_ok (s : Sim N φ h w) {t : TypeId} {z : AV} {z' : Value} (hz : VR φ z z') {i : Nat} (e : newRow h t (cellsA z) 0 = some (i, h')) :
    Made P N φ w (do pure (.pointer (some (← newVar t z')))) (.ptr i 0) h' := by
  have hr := cells_rel hz
  obtain ⟨ψ, h1, h2, h3, h4⟩ := newRow_rel s e (cs := z'.cells) (fr := (0, 0)) hr (fun j v hj => by simpa using hj) (by simp) (fun _ => by simp) (fun _ => rfl) (fun j _ => by simp)
  refine ⟨.pointer (some ⟨w.heap.size, 0, none⟩), _, ψ, ?_, h1, ?_, h3, h4⟩
  · simp only [newVar, Go.newRow, Sem.run_bind, newObj_run, Result.andThen_ok, Sem.run_pure]
  · have := VR.ptr (φ := ψ) i 0 w.heap.size 0 h2
    simpa using this
theorem alloc_ok (K : CtxOk C P) (s : Sim N φ h w) {t : TypeId} {z : AV} (hz : zer C t = some z) {v : AV} (e : ptr0 (newRow h t (cellsA z) 0) = some (v, h')) : Made P N φ w (Instr.alloc t true (.tuple #[])) v h' := by
  obtain ⟨i, e1, rfl⟩ := ptr0_some e
  clear e
  obtain ⟨z', hz1, hz2⟩ := run_zer K hz w
  obtain ⟨v', w', ψ, a1, a2, a3, a4, a5⟩ := newVar_ok (P := P) s (hz2 φ) e1
  refine ⟨v', w', ψ, ?_, a2, a3, a4, a5⟩
  simp only [Instr.alloc, Sem.run_bind, hz1, Result.andThen_ok]
  simpa only [Sem.run_bind] using a1
theorem box_ok (s : Sim N φ h w) {t : TypeId} {x v : AV} {x' : Value} (hx : VR φ x x') (e : ptr0 (newRow h t (cellsA x) 0) = some (v, h')) : Made P N φ w (Instr.box t x') v h' := by
  obtain ⟨i, e1, rfl⟩ := ptr0_some e
  clear e
  exact newVar_ok s hx e1

/-- A new block that is no row. -/
theorem newObj_ok (s : Sim N φ h w) {b : Blk} {i : Nat} (e : newB h b = some (i, h')) {o : Obj} (hb : ∀ ψ, Le φ ψ → BR ψ b o 0) (hno : ∀ cs t fr, o ≠ .cells cs t fr := by intros; exact Obj.noConfusion) :
    ∃ ψ, Le φ ψ ∧ ψ i = some (w.heap.size, 0) ∧ Sim N ψ h' (w.alloc o) ∧ Below N w (w.alloc o) := by
  have hi := (newB_some e).1
  have hle : Le φ (add φ i (w.heap.size, 0) 0) := by rw [hi]; exact add_le (s.fresh _ (Nat.le_refl _))
  obtain ⟨a, b, c⟩ := s.new e (hb _ hle) (fun cs t fr h => absurd h (hno cs t fr))
  exact ⟨_, b, add_at, a, c⟩
theorem makeK_ok (K : CtxOk C P) (s : Sim N φ h w) (ht : TR φ T a.tmps) {t : TypeId} {r : Option Operand} {v : AV} (e : makeK C T h t r = some (v, h')) : Made P N φ w (Instr.makeMap t (r.map a.eval)) v h' := by
  have key : ∀ {v : AV} {hint : Option Value}, (match hint with | none => True | some u => ∃ k n, u = .int k n) → (∃ k el, und C t = some (.map k el)) → map0 (newB h (.map [] 0)) = some (v, h') → Made P N φ w (Instr.makeMap t hint) v h' := by
    intro v hint hh hu e
    obtain ⟨i, e1, rfl⟩ := map0_some e
    clear e
    obtain ⟨k, el, hu⟩ := hu
    obtain ⟨ψ, h1, h2, h3, h4⟩ := newObj_ok s e1 (o := .map #[] 0) (fun ψ _ => .map [] #[] 0 .nil)
    refine ⟨.map (some w.heap.size), _, ψ, ?_, h1, .map _ _ h2, h3, h4⟩
    cases hint with
    | none => rfl
    | some u =>
      obtain ⟨kk, n, rfl⟩ := hh
      simp only [Instr.makeMap, Sem.run_bind, run_und K hu, Result.andThen_ok, asInt, asIntOf, Sem.run_pure]
      rfl
  unfold makeK at e
  split at e
  · rename_i k el hu
    exact key (hint := none) trivial ⟨k, el, hu⟩ e
  · rename_i k el x hu
    obtain ⟨u, hx, e⟩ := vb_some e
    have hv := opnd_rel s ht hx
    split at e
    · rename_i kk n
      refine key (hint := some (a.eval x)) ?_ ⟨k, el, hu⟩ e
      generalize a.eval x = q at hv
      cases hv
      exact ⟨_, _, rfl⟩
    · exact absurd e (by simp)
  · exact absurd e (by simp)

theorem rangeA_ok (K : CtxOk C P) (s : Sim N φ h w) {t : TypeId} {x v : AV} {x' : Value} (hx : VR φ x x') (e : rangeA C h t x = some (v, h')) : Made P N φ w (Instr.range t x') v h' := by
  unfold rangeA at e
  split at e
  · rename_i b hu
    cases hx
    rename_i b
    split at e
    · rename_i i k hn
      injection e with e; injection e with e1 e2; subst e1 e2
      obtain ⟨ψ, h1, h2, h3, h4⟩ := newObj_ok s hn (o := .stringIter b 0) (fun ψ _ => .sit b 0)
      refine ⟨.pointer (some ⟨w.heap.size, 0, none⟩), _, ψ, ?_, h1, by simpa using VR.ptr (φ := ψ) i 0 w.heap.size 0 h2, h3, h4⟩
      simp only [Instr.range, Sem.run_bind, run_und K hu, Result.andThen_ok, Sem.run_pure, newObj_run]
    · exact absurd e (by simp)
  · rename_i hu
    cases hx
    split at e
    · rename_i i k hn
      injection e with e; injection e with e1 e2; subst e1 e2
      obtain ⟨ψ, h1, h2, h3, h4⟩ := newObj_ok s hn (o := .mapIter none 0 #[] 0) (fun ψ _ => .mit0 0 #[] 0)
      refine ⟨.pointer (some ⟨w.heap.size, 0, none⟩), _, ψ, ?_, h1, by simpa using VR.ptr (φ := ψ) i 0 w.heap.size 0 h2, h3, h4⟩
      simp only [Instr.range, Sem.run_bind, run_und K hu, Result.andThen_ok, Sem.run_pure, newObj_run]
    · exact absurd e (by simp)
  · rename_i m hu
    cases hx with
    | map _ r hr =>
      split at e
      · rename_i es ck hb
        obtain ⟨es', ho, her⟩ := s.map hb hr
        split at e
        · rename_i i k hn
          injection e with e; injection e with e1 e2; subst e1 e2
          obtain ⟨ψ, h1, h2, h3, h4⟩ := newObj_ok s hn (o := .mapIter (some r) ck #[] ck) (fun ψ hl => .mit m r (hl _ _ hr) ck #[] ck)
          refine ⟨.pointer (some ⟨w.heap.size, 0, none⟩), _, ψ, ?_, h1, by simpa using VR.ptr (φ := ψ) i 0 w.heap.size 0 h2, h3, h4⟩
          have hg : (getObj r).run P w = .ok (.map es' ck) w := getObj_run ho (by intro c e f; exact Obj.noConfusion)
          simp only [Instr.range, Sem.run_bind, run_und K hu, Result.andThen_ok, hg, Sem.run_pure, newObj_run]
        · exact absurd e (by simp)
      · exact absurd e (by simp)
  · exact absurd e (by simp)

theorem decode_ascii (b : ByteArray) (i c : Nat) (h : (nats b)[i]? = some c) (hc : c < 128) : Utf8.decode b i = (c, 1) := by
  rw [nats_get] at h
  cases hb : b[i]? with
  | none => rw [hb] at h; exact absurd h (by simp)
  | some u =>
    rw [hb] at h
    have hcu : c = u.toNat := by simpa using h.symm
    have hg : b.get! i = u := by
      have hlt : i < b.size := by
        rcases Nat.lt_or_ge i b.size with h | h
        · exact h
        · rw [getElem?_neg b i (by omega)] at hb; exact absurd hb (by simp)
      rw [getElem?_pos b i hlt] at hb
      injection hb with hb
      rw [← hb]
      simp only [ByteArray.get!]
      exact getElem!_pos b.data i hlt
    subst hcu
    unfold Utf8.decode
    simp only [Nat.add_zero, hg]
    rw [if_pos (by omega)]

/-- Where an iterator lies. -/
theorem Sim.it (s : Sim N φ h w) {i : Nat} {x' : Value} (hx : VR φ (.ptr i 0) x') {b : Blk} (hb : h.b.get i = some b) (hnc : ∀ e c n fl, b ≠ .cells e c n fl) :
    ∃ r o, φ i = some (r, 0) ∧ x' = .pointer (some ⟨r, 0, none⟩) ∧ w.heap[r]? = some o ∧ BR φ b o 0 ∧ (∀ c e f, o ≠ .cells c e f) := by
  cases hx with
  | ptr _ _ r k hr =>
    obtain ⟨o, ho, hbr⟩ := s.at hb hr
    cases hbr with
    | cells e c n fl cs fr k h hx hf hn => exact absurd rfl (hnc e c n fl)
    | map es es' ck h => exact ⟨r, _, hr, rfl, ho, .map es es' ck h, by intro c e f; exact Obj.noConfusion⟩
    | sit b pos => exact ⟨r, _, hr, rfl, ho, .sit b pos, by intro c e f; exact Obj.noConfusion⟩
    | mit0 a b c => exact ⟨r, _, hr, rfl, ho, .mit0 a b c, by intro c e f; exact Obj.noConfusion⟩
    | mit m q hm a b c => exact ⟨r, _, hr, rfl, ho, .mit m q hm a b c, by intro c e f; exact Obj.noConfusion⟩
    | loop p q h => exact ⟨r, _, hr, rfl, ho, .loop p q h, by intro c e f; exact Obj.noConfusion⟩
    | dfr => exact ⟨r, _, hr, rfl, ho, .dfr, by intro c e f; exact Obj.noConfusion⟩
    | dfrN => exact ⟨r, _, hr, rfl, ho, .dfrN, by intro c e f; exact Obj.noConfusion⟩

theorem ER.filter {l : List (AV × AV × Nat)} {l' : List MapEntry} (hh : ER φ l l') (p : Nat → Bool) : ER φ (l.filter fun e => p e.2.2) (l'.filter fun e => p e.born) := by
  induction hh with
  | nil => exact .nil
  | cons k v n l k' v' l' a b _ ih =>
    simp only [List.filter_cons]
    cases p n
    · exact ih
    · exact .cons _ _ _ _ _ _ _ a b ih
theorem ER.all {l : List (AV × AV × Nat)} {l' : List MapEntry} (hh : ER φ l l') (p : Nat → Bool) : (l.all fun e => p e.2.2) = (l'.all fun e => p e.born) := by
  induction hh with
  | nil => rfl
  | cons k v n l k' v' l' a b _ ih => simp only [List.all_cons, ih]
theorem ER.isEmpty {l : List (AV × AV × Nat)} {l' : List MapEntry} (hh : ER φ l l') : l.isEmpty = l'.isEmpty := by cases hh <;> rfl

theorem any_contains (seen : Array Nat) (n : Nat) : seen.contains n = seen.toList.any (Nat.beq n) := by
  rw [← Array.contains_toList]
  induction seen.toList with
  | nil => rfl
  | cons x l ih => rw [List.contains_cons, List.any_cons, ih]; congr 1; rw [Bool.eq_iff_iff, beq_iff_eq, Nat.beq_eq]
theorem ge_ble (a b : Nat) : decide (b ≥ a) = Nat.ble a b := by
  cases h : Nat.ble a b with
  | true => exact decide_eq_true (Nat.le_of_ble_eq_true h)
  | false => exact decide_eq_false (fun hh => by rw [Nat.ble_eq_true_of_le hh] at h; exact absurd h (by simp))
theorem lt_blt (a b : Nat) : decide (b < a) = Nat.blt b a := ge_ble (b + 1) a
theorem ge_blt (a b : Nat) : decide (b ≥ a) = !Nat.blt b a := by
  rw [← lt_blt, ← decide_not]; exact decide_eq_decide.2 (by omega)
theorem cond_none' {α : Type} {b : Bool} {x : Option α} {v : α} (h : (bif b then none else x) = some v) : b = false ∧ x = some v := by
  cases b
  · exact ⟨rfl, h⟩
  · exact absurd h (by simp)
theorem forced_one : (choose (.mapNext 1)).run P w = .ok 0 w := rfl
/-- One step over a map, its candidates forced. -/
theorem next_map {r q since last : Nat} {seen : Array Nat} {es : List (AV × AV × Nat)} {es' : Array MapEntry} {ck : Nat} (ty : TypeId)
    (hg : (getObj r).run P w = .ok (.mapIter (some q) since seen last) w) (hgm : (getObj q).run P w = .ok (.map es' ck) w) (her : ER φ es es'.toList)
    (hc : (!seen.toList.isEmpty && !es.isEmpty && es.all (fun e => Nat.ble last e.2.2)) = false) :
    ∀ old new, old = (es.filter fun e => !(seen.toList.any (Nat.beq e.2.2))).filter (fun e => Nat.blt e.2.2 since) →
      new = (es.filter fun e => !(seen.toList.any (Nat.beq e.2.2))).filter (fun e => !Nat.blt e.2.2 since) →
      (old = [] → new = [] → (Instr.next (.pointer (some ⟨r, 0, none⟩)) false ty).run P w = .ok (.tuple #[.bool false]) w) ∧
      (∀ k v n, old = [(k, v, n)] → new = [] → ∃ k' v', VR φ k k' ∧ VR φ v v' ∧ (Instr.next (.pointer (some ⟨r, 0, none⟩)) false ty).run P w = ((setObj r (.mapIter (some q) since (seen.push n) ck)).run P w).andThen fun _ w => .ok (.tuple #[.bool true, k', v']) w) := by
  intro old new hold hnew
  have h1 := her.filter (fun b => !(seen.toList.any (Nat.beq b)))
  have hO := h1.filter (fun b => Nat.blt b since)
  have hN := h1.filter (fun b => !Nat.blt b since)
  rw [← hold] at hO
  rw [← hnew] at hN
  have hc' : (!seen.isEmpty && !es'.isEmpty && es'.all (fun e => decide (e.born ≥ last))) = false := by
    rw [← hc]
    have a1 : seen.isEmpty = seen.toList.isEmpty := by rw [Array.isEmpty_toList]
    have a2 : es'.isEmpty = es.isEmpty := by rw [her.isEmpty, Array.isEmpty_toList]
    have a3 : es'.all (fun e => decide (e.born ≥ last)) = es.all (fun e => Nat.ble last e.2.2) := by
      rw [her.all (fun b => Nat.ble last b), ← Array.all_toList]
      congr 1; funext e; exact ge_ble _ _
    rw [a1, a2, a3]
  have hleft : (es'.filter fun e => !seen.contains e.born).toList = es'.toList.filter (fun e => !(seen.toList.any (Nat.beq e.born))) := by
    rw [Array.toList_filter]; congr 1; funext e; rw [any_contains]
  have hold' : ((es'.filter fun e => !seen.contains e.born).filter (fun e => decide (e.born < since))).toList = (es'.toList.filter (fun e => !(seen.toList.any (Nat.beq e.born)))).filter (fun e => Nat.blt e.born since) := by
    rw [Array.toList_filter, hleft]; congr 1; funext e; exact lt_blt _ _
  have hnew' : ((es'.filter fun e => !seen.contains e.born).filter (fun e => decide (e.born ≥ since))).toList = (es'.toList.filter (fun e => !(seen.toList.any (Nat.beq e.born)))).filter (fun e => !Nat.blt e.born since) := by
    rw [Array.toList_filter, hleft]; congr 1; funext e; exact ge_blt _ _
  rw [← hold'] at hO
  rw [← hnew'] at hN
  generalize hA : (es'.filter fun e => !seen.contains e.born).filter (fun e => decide (e.born < since)) = A at hO
  generalize hB : (es'.filter fun e => !seen.contains e.born).filter (fun e => decide (e.born ≥ since)) = B at hN
  constructor
  · intro e1 e2
    subst e1 e2
    have hA0 : A = #[] := by cases hO' : A.toList with
      | nil => exact Array.toList_eq_nil_iff.1 hO'
      | cons x l => rw [hO'] at hO; cases hO
    have hB0 : B = #[] := by cases hO' : B.toList with
      | nil => exact Array.toList_eq_nil_iff.1 hO'
      | cons x l => rw [hO'] at hN; cases hN
    subst hA0 hB0
    have hs : ((if (#[] : Array MapEntry).isEmpty = true then #[none] else #[]) ++ Array.map some (#[] ++ #[] : Array MapEntry)) = #[none] := by simp
    have hone : (#[none] : Array (Option MapEntry)).size = 1 := rfl
    simp only [Instr.next, Sem.run_bind, hg, hgm, Result.andThen_ok, hc', Bool.false_eq_true, if_false, hA, hB, hs, hone, forced_one]
    rfl
  · intro k v n e1 e2
    subst e1 e2
    have hB0 : B = #[] := by cases hO' : B.toList with
      | nil => exact Array.toList_eq_nil_iff.1 hO'
      | cons x l => rw [hO'] at hN; cases hN
    subst hB0
    obtain ⟨k', v', hk, hv, hA1⟩ : ∃ k' v', VR φ k k' ∧ VR φ v v' ∧ A = #[⟨k', v', n⟩] := by
      cases hO' : A.toList with
      | nil => rw [hO'] at hO; cases hO
      | cons x l =>
        rw [hO'] at hO
        cases hO with
        | cons _ _ _ _ k' v' _ hk hv t =>
          cases t
          exact ⟨k', v', hk, hv, by rw [← Array.toList_inj, hO']⟩
    subst hA1
    refine ⟨k', v', hk, hv, ?_⟩
    have hs : ((if (#[⟨k', v', n⟩] : Array MapEntry).isEmpty = true then #[none] else #[]) ++ Array.map some (#[⟨k', v', n⟩] ++ #[] : Array MapEntry)) = #[some ⟨k', v', n⟩] := by simp
    have hone : (#[some ⟨k', v', n⟩] : Array (Option MapEntry)).size = 1 := rfl
    have hi : (#[some ⟨k', v', n⟩] : Array (Option MapEntry))[0]? = some (some ⟨k', v', n⟩) := rfl
    simp only [Instr.next, Sem.run_bind, hg, hgm, Result.andThen_ok, hc', Bool.false_eq_true, if_false, hA, hB, hs, hone, forced_one, hi]
    rfl

theorem nextA_ok (s : Sim N φ h w) {x v : AV} {x' : Value} {is : Bool} (hx : VR φ x x') (e : nextA h x is = some (v, h')) (ty : TypeId) : Made P N φ w (Instr.next x' is ty) v h' := by
  unfold nextA at e
  split at e
  · rename_i r
    split at e
    · rename_i s0 pos hb
      obtain ⟨rr, o, hr, rfl, ho, hbr, hnc⟩ := s.it hx hb (by intros; exact Blk.noConfusion)
      cases hbr with
      | sit b _ =>
        have hg : (getObj rr).run P w = .ok (.stringIter b pos) w := getObj_run ho hnc
        have hset : ∀ o', (setObj rr o').run P w = .ok () (setO w rr o') := fun o' => setObj_run ho hnc
        split at e
        · rename_i c hc
          cases hlt : Nat.blt c 128 with
          | false => rw [hlt] at e; exact absurd e (by simp)
          | true =>
            rw [hlt] at e; simp only [cond_true] at e
            injection e with e; injection e with e1 e2; subst e1 e2
            have hdec := decode_ascii b pos c hc (blt_lt hlt)
            have hpos : pos < b.size := by
              rw [← nats_len]
              exact (List.getElem?_eq_some_iff.1 hc).1
            obtain ⟨z1, z2⟩ := s.updO hb rfl hr ho (o' := .stringIter b (pos + 1)) (b1 := .sit (nats b) (pos + 1)) (.sit b (pos + 1))
            refine ⟨.tuple #[.bool true, goInt pos, .int .i32 c], _, φ, ?_, Le.refl φ, .tup _ _ (.cons _ _ _ _ (.bool true) (.cons _ _ _ _ (.int _ _) (.cons _ _ _ _ (.int _ _) .nil))), z1, z2⟩
            simp only [Instr.next, Sem.run_bind, hg, Result.andThen_ok, hpos, if_true, hdec, hset, Sem.run_pure]
        · rename_i hc
          injection e with e; injection e with e1 e2; subst e1 e2
          have hpos : ¬ pos < b.size := by
            rw [← nats_len]
            exact Nat.not_lt.2 (List.getElem?_eq_none_iff.1 hc)
          refine ⟨.tuple #[.bool false], w, φ, ?_, Le.refl φ, .tup _ _ (.cons _ _ _ _ (.bool false) .nil), s, Below.refl N w⟩
          simp only [Instr.next, Sem.run_bind, hg, Result.andThen_ok, hpos, if_false, Sem.run_pure]
    · rename_i hb
      obtain ⟨rr, o, hr, rfl, ho, hbr, hnc⟩ := s.it hx hb (by intros; exact Blk.noConfusion)
      injection e with e; injection e with e1 e2; subst e1 e2
      cases hbr with
      | mit0 _ _ _ =>
        exact ⟨.tuple #[.bool false], w, φ, by simp only [Instr.next, Sem.run_bind, getObj_run ho hnc, Result.andThen_ok, Sem.run_pure], Le.refl φ, .tup _ _ (.cons _ _ _ _ (.bool false) .nil), s, Below.refl N w⟩
    · rename_i m since seen last hb
      obtain ⟨rr, o, hr, rfl, ho, hbr, hnc⟩ := s.it hx hb (by intros; exact Blk.noConfusion)
      cases hbr with
      | mit _ q hm _ seen' _ =>
        have hg : (getObj rr).run P w = .ok (.mapIter (some q) since seen' last) w := getObj_run ho hnc
        have hset : ∀ o', (setObj rr o').run P w = .ok () (setO w rr o') := fun o' => setObj_run ho hnc
        split at e
        · rename_i es ck hbm
          obtain ⟨es', hom, her⟩ := s.map hbm hm
          have hgm : (getObj q).run P w = .ok (.map es' ck) w := getObj_run hom (by intro c e f; exact Obj.noConfusion)
          obtain ⟨hc, e⟩ := cond_none' e
          dsimp only at e
          obtain ⟨n1, n2⟩ := next_map (P := P) ty hg hgm her hc _ _ rfl rfl
          split at e
          · rename_i ho1 hn1
            injection e with e; injection e with e1 e2; subst e1 e2
            exact ⟨.tuple #[.bool false], w, φ, n1 ho1 hn1, Le.refl φ, .tup _ _ (.cons _ _ _ _ (.bool false) .nil), s, Below.refl N w⟩
          · rename_i en ho1 hn1
            obtain ⟨k0, v0, n0⟩ := en
            injection e with e; injection e with e1 e2; subst e1 e2
            obtain ⟨k', v', hk, hv, hrun⟩ := n2 k0 v0 n0 ho1 hn1
            have hb1 : BR φ (.mit (some m) since (seen'.toList ++ [n0]) ck) (.mapIter (some q) since (seen'.push n0) ck) 0 := by
              have := BR.mit (φ := φ) m q hm since (seen'.push n0) ck
              rwa [Array.toList_push] at this
            obtain ⟨z1, z2⟩ := s.updO hb rfl hr ho (o' := .mapIter (some q) since (seen'.push n0) ck) hb1
            exact ⟨.tuple #[.bool true, k', v'], _, φ, by rw [hrun, hset]; rfl, Le.refl φ, .tup _ _ (.cons _ _ _ _ (.bool true) (.cons _ _ _ _ hk (.cons _ _ _ _ hv .nil))), z1, z2⟩
          · exact absurd e (by simp)
        · exact absurd e (by simp)
    · exact absurd e (by simp)
  · exact absurd e (by simp)
end
end Go.Ev
