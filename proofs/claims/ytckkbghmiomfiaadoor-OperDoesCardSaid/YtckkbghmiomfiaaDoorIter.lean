/- 'for k, v := range m' over a map whose entries are written out: what is still to come, as a list. Over any program. -/
import Derived.Test.YtckkbghmiomfiaaDoorMap
import Derived.Maps.RangeRun
import Derived.Sort.MapsRangeIn
import Derived.RangeFuncGives
namespace Go.El
open Go.RowKit Go.MapKept
open Go.ChangeMaps (setBlock)

section
variable {α : Type}

theorem filter_other {l1 l2 : List MapEntry} {e : MapEntry} (h : ((l1 ++ e :: l2).map (·.born)).Nodup) : (l1 ++ e :: l2).filter (fun x => !(x.born == e.born)) = l1 ++ l2 := by
  rw [List.map_append, List.map_cons] at h
  obtain ⟨_, h2, h3⟩ := List.nodup_append.1 h
  obtain ⟨h4, _⟩ := List.nodup_cons.1 h2
  have f1 : l1.filter (fun x => !(x.born == e.born)) = l1 := List.filter_eq_self.2 fun x hx => by
    have := h3 x.born (List.mem_map.2 ⟨x, hx, rfl⟩) e.born (by simp)
    simpa using this
  have f2 : l2.filter (fun x => !(x.born == e.born)) = l2 := List.filter_eq_self.2 fun x hx => by
    have : x.born ≠ e.born := fun e1 => h4 (List.mem_map.2 ⟨x, hx, e1⟩)
    simpa using this
  rw [List.filter_append, List.filter_cons, f1, f2]
  simp

/-- A walk over map m, its iterator in block r: 'rest' is still to come. -/
def MapIt (kv : α → Value) (w : World) (m r : Nat) (ps rest : List (α × Value)) : Prop :=
  ∃ es clock since seen c0, w.heap[m]? = some (.map es clock) ∧ Stamped es clock ∧ es.toList.map (fun e => (e.key, e.val)) = ps.map (fun p => (kv p.1, p.2)) ∧ w.heap[r]? = some (.mapIter (some m) since seen c0) ∧
    (∀ x ∈ es.toList, x.born < since) ∧ (leftOf es seen).toList.map (fun e => (e.key, e.val)) = rest.map (fun p => (kv p.1, p.2)) ∧ since ≤ c0 ∧ since ≤ clock

variable {kv : α → Value} {w w' : World} {m r : Nat} {ps rest : List (α × Value)} {P : Program}

theorem MapIt.ne (h : MapIt kv w m r ps rest) : m ≠ r := by
  obtain ⟨es, clock, since, seen, c0, hb, _, _, hr, _⟩ := h
  rintro rfl
  rw [hb] at hr
  cases hr
theorem MapIt.left_eq (h : MapIt kv w m r ps rest) : w.rangeLeft m r = rest.length := by
  obtain ⟨es, clock, since, seen, c0, hb, _, _, hr, _, hl, _⟩ := h
  have := congrArg List.length hl
  simp only [List.length_map, Array.length_toList] at this
  unfold World.rangeLeft
  rw [hb, hr]
  exact this
theorem MapIt.of_walks (h : MapIt kv w m r ps rest) (hk : KeepsWalks w w') : MapIt kv w' m r ps rest := by
  obtain ⟨es, clock, since, seen, c0, hb, h1, h2, hr, h3⟩ := h
  exact ⟨es, clock, since, seen, c0, hk.same m _ hb rfl, h1, h2, hk.same r _ hr rfl, h3⟩
theorem MapIt.iter_walk (h : MapIt kv w m r ps rest) : ∃ o : Obj, w.heap[r]? = some o ∧ o.isWalk = true := by
  obtain ⟨es, clock, since, seen, c0, _, _, _, hr, _⟩ := h
  exact ⟨_, hr, rfl⟩

theorem MapAt.run_range (h : MapAt kv w m ps) {t k e : TypeId} (ht : P.underlying t = some (.map k e)) :
    ∃ w', (Instr.range t (.map (some m))).run P w = .ok (.pointer (some ⟨w.heap.size, 0, none⟩)) w' ∧ MapIt kv w' m w.heap.size ps ps ∧ w.grownBy w' none ∧ w'.heap.size = w.heap.size + 1 := by
  have hlt := h.lt
  obtain ⟨es, clock, hb, hst, hps⟩ := h
  refine ⟨_, run_range_map w t k e m es clock ht hb, ⟨es, clock, clock, #[], clock, ((MapKept.heap_alloc w _).2 m hlt).trans hb, hst, hps, (MapKept.heap_alloc w _).1, hst.1, ?_, Nat.le_refl _, Nat.le_refl _⟩, World.grownBy_alloc w _ none, by simp⟩
  have : (leftOf es #[]).toList = es.toList := by
    unfold leftOf
    rw [Array.toList_filter]
    exact List.filter_eq_self.2 fun x _ => by simp
  rw [this]
  exact hps

theorem map_split {β γ δ : Type} {f : β → δ} {g : γ → δ} : ∀ {l1 : List β} {x : β} {l2 : List β} {rest : List γ}, (l1 ++ x :: l2).map f = rest.map g → ∃ r1 y r2, rest = r1 ++ y :: r2 ∧ f x = g y ∧ l1.map f = r1.map g ∧ l2.map f = r2.map g
  | [], x, l2, [], h => by simp at h
  | [], x, l2, y :: r, h => by
    simp only [List.nil_append, List.map_cons, List.cons.injEq] at h
    exact ⟨[], y, r, rfl, h.1, rfl, h.2⟩
  | a :: l1, x, l2, [], h => by simp at h
  | a :: l1, x, l2, y :: r, h => by
    simp only [List.cons_append, List.map_cons, List.cons.injEq] at h
    obtain ⟨r1, z, r2, e, h1, h2, h3⟩ := map_split h.2
    exact ⟨y :: r1, z, r2, by rw [e]; rfl, h1, by simp [h.1, h2], h3⟩

theorem MapIt.next (h : MapIt kv w m r ps rest) (ty : TypeId) :
    (rest = [] ∧ (Instr.next (.pointer (some ⟨r, 0, none⟩)) false ty).run P w = .ok (.tuple #[.bool false]) w) ∨
    ∃ r1 x r2 w', rest = r1 ++ x :: r2 ∧ (Instr.next (.pointer (some ⟨r, 0, none⟩)) false ty).run P w = .ok (.tuple #[.bool true, kv x.1, x.2]) w' ∧ MapIt kv w' m r ps (r1 ++ r2) ∧
      w.grownBy w' (some r) ∧ w'.heap.size = w.heap.size ∧ (Instr.entry (.pointer (some ⟨r, 0, none⟩))).run P w' = .ok (.tuple #[kv x.1, x.2]) w' := by
  have hne := h.ne
  obtain ⟨es, clock, since, seen, c0, hb, hst, hps, hr, hold, hl, hsc, hsk⟩ := h
  have hnd := ((stamped_iff es clock).1 hst).2.1
  rcases run_next_at (P := P) w ty r m since c0 seen es clock hr hb hold hsc with ⟨h0, hrun⟩ | ⟨e, he, w1, hal, hrun⟩
  · refine .inl ⟨?_, hrun⟩
    have := congrArg List.length hl
    simp only [List.length_map, Array.length_toList, h0] at this
    exact List.eq_nil_of_length_eq_zero this.symm
  · obtain ⟨hem, hes⟩ := mem_left he
    obtain ⟨l1, l2, hsp⟩ := List.append_of_mem he
    rw [hsp] at hl
    obtain ⟨r1, x, r2, hrest, hx, h1, h2⟩ := map_split hl
    injection hx with hk hv
    have hr1 : w1.heap[r]? = some (.mapIter (some m) since seen c0) := by rcases hal with rfl | rfl <;> exact hr
    have hb1 : w1.heap[m]? = some (.map es clock) := by rcases hal with rfl | rfl <;> exact hb
    have hset := heap_set (o' := .mapIter (some m) since (seen.push e.born) clock) hr1
    have hb' : (setBlock w1 r (.mapIter (some m) since (seen.push e.born) clock)).heap[m]? = some (.map es clock) := (hset.2 m (fun e1 => hne e1)).trans hb1
    have hleft : (leftOf es (seen.push e.born)).toList = l1 ++ l2 := by
      have hsub : (l1 ++ e :: l2).Sublist es.toList := by
        rw [← hsp]
        unfold leftOf
        rw [Array.toList_filter]
        exact List.filter_sublist
      rw [← filter_other ((hsub.map (·.born)).nodup hnd), ← hsp]
      unfold leftOf
      rw [Array.toList_filter, Array.toList_filter, List.filter_filter]
      refine List.filter_congr fun y _ => ?_
      rw [contains_push]
      cases seen.contains y.born <;> cases (y.born == e.born) <;> rfl
    refine .inr ⟨r1, x, r2, _, hrest, by rw [hrun, hk, hv], ⟨es, clock, since, seen.push e.born, clock, hb', hst, hps, hset.1, hold, ?_, hsk, hsk⟩, ?_, ?_, ?_⟩
    · rw [hleft, List.map_append, List.map_append, h1, h2]
    · rcases hal with rfl | rfl <;> exact ⟨rfl, rfl, rfl, by simp [setBlock], fun i _ hi => hset.2 i (fun e1 => hi (by rw [e1]))⟩
    · rcases hal with rfl | rfl <;> simp [setBlock]
    · rw [run_entry_at _ r m since seen es clock e hset.1 hb' hem hnd, hk, hv]

section
variable {F : Fence} {n : Nat} {ops : Array Oper} {rs : List Oper} {o : Oper} {a : Act} {Q : Exit → Act → World → Prop}
theorem wpListIn_range_at (w : World) (hg : o.guard = none) (mo : Operand) (t : TypeId) (hop : o.op = Op.range t mo) (k e : TypeId) (ht : P.underlying t = some (.map k e)) (hm : a.eval mo = .map (some m)) (hown : MapAt kv w m ps)
    (hK : ∀ w', MapIt kv w' m w.heap.size ps ps → w.grownBy w' none → w'.heap.size = w.heap.size + 1 → wpListIn F n P ops Q rs (a.put o.dst (.pointer (some ⟨w.heap.size, 0, none⟩))) w') :
    wpListIn F n P ops Q (o :: rs) a w := by
  refine wpListIn_plain hg fun K' hK' => ?_
  obtain ⟨w', hrun, r1, r2, r3⟩ := hown.run_range (P := P) ht
  unfold Oper.wpIn
  refine ⟨by simp [Oper.about, hop], ?_⟩
  rw [Oper.semAt_plain F _ _ (by rw [hop]; intro c hc'; cases hc')]
  simp [execOp, hop, hm, hrun, Result.andThen]
  exact hK' _ _ (hK w' r1 r2 r3)

theorem wpListIn_next_at (w : World) (hg : o.guard = none) (it : Operand) (hop : o.op = Op.next it false) (hit : a.eval it = .pointer (some ⟨r, 0, none⟩)) (h : MapIt kv w m r ps rest)
    (hDone : rest = [] → wpListIn F n P ops Q rs (a.put o.dst (.tuple #[.bool false])) w)
    (hMore : ∀ (r1 : List (α × Value)) (x : α × Value) (r2 : List (α × Value)) (w' : World), rest = r1 ++ x :: r2 → MapIt kv w' m r ps (r1 ++ r2) → w.grownBy w' (some r) → w'.heap.size = w.heap.size →
      (Instr.entry (.pointer (some ⟨r, 0, none⟩))).run P w' = .ok (.tuple #[kv x.1, x.2]) w' → wpListIn F n P ops Q rs (a.put o.dst (.tuple #[.bool true, kv x.1, x.2])) w') :
    wpListIn F n P ops Q (o :: rs) a w := by
  refine wpListIn_plain hg fun K' hK' => ?_
  unfold Oper.wpIn
  refine ⟨by simp [Oper.about, hop], ?_⟩
  rw [Oper.semAt_plain F _ _ (by rw [hop]; intro c hc'; cases hc')]
  rcases h.next (P := P) o.type with ⟨h0, hrun⟩ | ⟨r1, x, r2, w', hr, hrun, hit', hgr, hsz, hen⟩
  · simp [execOp, hop, hit, hrun, Result.andThen]
    exact hK' _ _ (hDone h0)
  · simp [execOp, hop, hit, hrun, Result.andThen]
    exact hK' _ _ (hMore r1 x r2 w' hr hit' hgr hsz hen)
end
end

end Go.El
