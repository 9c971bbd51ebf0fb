/- Maps in memory: 'MapAt kv d w m ps': block m is a map whose entries are ps, in their order. The operations, as equations and in the walk's form. Over any program. -/
import Derived.Test.YtnedihbffiddpaaGreatDoorBase
namespace Go.El
open Go.RowKit Go.MapKept

section
variable {α : Type}

def findP [DecidableEq α] (k : α) : List (α × Value) → Option Value
  | [] => none
  | p :: ps => if p.1 = k then some p.2 else findP k ps
def setP [DecidableEq α] (k : α) (v : Value) : List (α × Value) → List (α × Value)
  | [] => [(k, v)]
  | p :: ps => if p.1 = k then (k, v) :: ps else p :: setP k v ps
def delP [DecidableEq α] (k : α) : List (α × Value) → List (α × Value)
  | [] => []
  | p :: ps => if p.1 = k then ps else p :: delP k ps

theorem map_eraseIdx {β γ : Type} (f : β → γ) : ∀ (l : List β) (j : Nat), (l.eraseIdx j).map f = (l.map f).eraseIdx j
  | [], _ => rfl
  | _ :: _, 0 => rfl
  | a :: l, j + 1 => by simp [map_eraseIdx f l j]

structure KeyKind (kv : α → Value) (d : TypeDesc) : Prop where
  key : ∀ a, IsKey d (kv a)
  inj : ∀ a b, kv a = kv b → a = b

theorem strKind : KeyKind Value.string .string := ⟨fun _ => trivial, fun a b h => by injection h⟩
theorem intKind (k : IntKind) : KeyKind (Value.int k) (.int k) := ⟨fun _ => rfl, fun a b h => by injection h⟩

def MapAt (kv : α → Value) (w : World) (m : Nat) (ps : List (α × Value)) : Prop :=
  ∃ es clock, w.heap[m]? = some (.map es clock) ∧ Stamped es clock ∧ es.toList.map (fun e => (e.key, e.val)) = ps.map (fun p => (kv p.1, p.2))

variable {kv : α → Value} {d : TypeDesc} {w w' : World} {m : Nat} {ps : List (α × Value)}

theorem MapAt.lt (h : MapAt kv w m ps) : m < w.heap.size := by obtain ⟨es, c, hb, _⟩ := h; exact heap_lt hb
theorem MapAt.ext (h : MapAt kv w m ps) (he : Ext w w') : MapAt kv w' m ps := by obtain ⟨es, c, hb, r⟩ := h; exact ⟨es, c, he.heap hb, r⟩
theorem MapAt.mods {S : List Nat} (h : MapAt kv w m ps) (he : Mods S w w') (hS : m ∉ S) : MapAt kv w' m ps := by obtain ⟨es, c, hb, r⟩ := h; exact ⟨es, c, he.heap hb hS, r⟩
theorem MapAt.ne_cell (h : MapAt kv w m ps) {p : Addr} {v : Value} (hc : w.cell? p = some v) : p.block ≠ m := by
  rintro rfl
  obtain ⟨es, c, hb, _⟩ := h
  simp [World.cell?, hb] at hc
theorem MapAt.new (kv : α → Value) (w : World) : MapAt kv (w.alloc (.map #[] 0)) w.heap.size [] := ⟨#[], 0, (MapKept.heap_alloc w _).1, stamped_empty 0, by simp⟩
theorem MapAt.setCell (h : MapAt kv w m ps) (p : Addr) (u : Value) : MapAt kv (w.setCell p u) m ps := by
  obtain ⟨es, c, hb, r⟩ := h
  refine ⟨es, c, ?_, r⟩
  by_cases e : m = p.block
  · subst e; simp [World.setCell, Array.getElem?_modify, hb]
  · exact (Below.heap_setCell w p u m e).trans hb

theorem isKey_all (K : KeyKind kv d) {l : List MapEntry} {ps : List (α × Value)} (h : l.map (fun e => (e.key, e.val)) = ps.map (fun p => (kv p.1, p.2))) : ∀ x ∈ l, IsKey d x.key := by
  intro x hx
  have : (x.key, x.val) ∈ ps.map (fun p => (kv p.1, p.2)) := by rw [← h]; exact List.mem_map.2 ⟨x, hx, rfl⟩
  obtain ⟨p, _, e⟩ := List.mem_map.1 this
  injection e with e1 _
  rw [← e1]; exact K.key _

/-- The search, as it goes. -/
theorem findNow_find [DecidableEq α] (K : KeyKind kv d) (k : α) : ∀ (l : List MapEntry) (ps : List (α × Value)) (i : Nat), l.map (fun e => (e.key, e.val)) = ps.map (fun p => (kv p.1, p.2)) →
    (findP k ps = none ∧ Instr.findNow d (kv k) l i = some none ∧ (∀ x ∈ l, x.key ≠ kv k) ∧ delP k ps = ps ∧ ∀ v, setP k v ps = ps ++ [(k, v)]) ∨
    ∃ j v, findP k ps = some v ∧ Instr.findNow d (kv k) l i = some (some (i + j, v)) ∧ (∃ e, l[j]? = some e ∧ e.key = kv k ∧ e.val = v) ∧ delP k ps = ps.eraseIdx j ∧ ∀ v, setP k v ps = ps.set j (k, v)
  | [], [], _, _ => .inl ⟨rfl, rfl, by simp, rfl, fun _ => rfl⟩
  | [], p :: ps, _, h => by simp at h
  | e :: es, [], _, h => by simp at h
  | e :: es, p :: ps, i, h => by
    simp only [List.map_cons, List.cons.injEq, Prod.mk.injEq] at h
    obtain ⟨⟨hk, hv⟩, ht⟩ := h
    obtain ⟨r, hr, hiff⟩ := sameNow_of_keys (K.key k) (by rw [hk]; exact K.key p.1 : IsKey d e.key)
    by_cases hpk : p.1 = k
    · have hr' : r = true := hiff.2 (by rw [hk, hpk])
      subst hr'
      exact .inr ⟨0, p.2, by simp [findP, hpk], by simp [Instr.findNow, hr, hv], ⟨e, rfl, by rw [hk, hpk], hv⟩, by simp [delP, hpk], fun v => by simp [setP, hpk]⟩
    · have hr' : r = false := by
        cases r with
        | false => rfl
        | true => exact absurd (K.inj _ _ (by rw [← hk]; exact (hiff.1 rfl).symm)) hpk
      subst hr'
      have hne : e.key ≠ kv k := fun q => hpk (K.inj _ _ (by rw [← hk]; exact q))
      rcases findNow_find K k es ps (i + 1) ht with ⟨h1, h2, h3, h4, h5⟩ | ⟨j, v, h1, h2, ⟨e', h3, h4, h5⟩, h6, h7⟩
      · exact .inl ⟨by simp [findP, hpk, h1], by simp [Instr.findNow, hr, h2], fun x hx => by
          cases hx with
          | head => exact hne
          | tail _ hx => exact h3 x hx, by simp [delP, hpk, h4], fun v => by simp [setP, hpk, h5]⟩
      · exact .inr ⟨j + 1, v, by simp [findP, hpk, h1], by simp [Instr.findNow, hr, h2]; omega, ⟨e', by simpa using h3, h4, h5⟩, by simp [delP, hpk, h6], fun v => by simp [setP, hpk, h7]⟩

variable {P : Program} {mty kt et : TypeId}

theorem MapAt.run_lookup [DecidableEq α] (h : MapAt kv w m ps) (K : KeyKind kv d) (hm : P.underlying mty = some (.map kt et)) (hd : P.underlying kt = some d) {z : Value} (hz : (zeroValue et).run P w = .ok z w) (k : α) (ok : Bool) :
    (Instr.lookup mty (.map (some m)) (kv k) ok).run P w = .ok (if ok then .tuple #[(findP k ps).getD z, .bool (findP k ps).isSome] else (findP k ps).getD z) w := by
  obtain ⟨es, c, hb, _, hes⟩ := h
  rcases findNow_find K k es.toList ps 0 hes with ⟨h1, h2, _⟩ | ⟨j, v, h1, h2, _⟩
  · simp [Instr.lookup, run_underlying hm, MapKept.run_getObj_map hb, run_checkKey hd (K.key k), run_findKey hd h2, Result.andThen, hz, h1]
  · simp [Instr.lookup, run_underlying hm, MapKept.run_getObj_map hb, run_checkKey hd (K.key k), run_findKey hd h2, Result.andThen, h1]

theorem mods_setHeap {w : World} {r : Nat} {o o' : Obj} (_hb : w.heap[r]? = some o) : Mods [r] w { w with heap := w.heap.setIfInBounds r o' } :=
  ⟨rfl, rfl, rfl, by simp, fun k _ hS => by
    have : k ≠ r := fun e => hS (by simp [e])
    simp [Ne.symm this]⟩

theorem MapAt.run_update [DecidableEq α] (h : MapAt kv w m ps) (K : KeyKind kv d) (hm : P.underlying mty = some (.map kt et)) (hd : P.underlying kt = some d) (k : α) (v : Value) :
    ∃ w', (Instr.mapUpdate mty (.map (some m)) (kv k) v).run P w = .ok () w' ∧ MapAt kv w' m (setP k v ps) ∧ Mods [m] w w' ∧ w'.heap.size = w.heap.size := by
  obtain ⟨es, c, hb, hs, hes⟩ := h
  rcases findNow_find K k es.toList ps 0 hes with ⟨h1, h2, h3, _, h5⟩ | ⟨j, v', h1, h2, ⟨e, h3, h4, h6⟩, _, h5⟩
  · refine ⟨_, by simp [Instr.mapUpdate, run_underlying hm, MapKept.run_getObj_map hb, run_checkKey hd (K.key k), run_findKey hd h2, MapKept.run_setObj_map _ hb, Result.andThen]; rfl, ?_, mods_setHeap hb, by simp⟩
    exact ⟨_, _, (heap_set hb).1, stamped_push hs h3, by simp [h5, hes]⟩
  · have hj : es[j]? = some e := by simpa using h3
    refine ⟨_, by simp [Instr.mapUpdate, run_underlying hm, MapKept.run_getObj_map hb, run_checkKey hd (K.key k), run_findKey hd h2, hj, h4, run_keyThatStays (K.key k), MapKept.run_setObj_map _ hb, Result.andThen]; rfl, ?_, mods_setHeap hb, by simp⟩
    refine ⟨_, _, (heap_set hb).1, stamped_modify hs _ _ (fun _ _ => rfl) (fun e' _ he' => by rw [hj] at he'; cases he'; exact h4.symm), ?_⟩
    rw [h5]
    apply List.ext_getElem?
    intro i
    have hi := congrArg (fun l => l[i]?) hes
    simp only [List.getElem?_map, Array.getElem?_toList] at hi
    simp only [List.getElem?_map, Array.getElem?_toList, Array.getElem?_modify, List.getElem?_set]
    by_cases hij : j = i
    · subst hij
      have hlt : j < ps.length := by
        rw [hj] at hi
        rcases Nat.lt_or_ge j ps.length with h | h
        · exact h
        · simp [List.getElem?_eq_none h] at hi
      simp [hj, hlt]
    · simp only [hij, if_false]
      exact hi

theorem MapAt.run_delete [DecidableEq α] (h : MapAt kv w m ps) (K : KeyKind kv d) (hm : P.underlying mty = some (.map kt et)) (hd : P.underlying kt = some d) (k : α) (ty : TypeId) (ats : Array TypeId) (ha : ats[0]? = some mty) :
    ∃ w', (Builtin.delete_ ats ty #[.map (some m), kv k]).run P w = .ok (.tuple #[]) w' ∧ MapAt kv w' m (delP k ps) ∧ Mods [m] w w' ∧ w'.heap.size = w.heap.size := by
  obtain ⟨es, c, hb, hs, hes⟩ := h
  rcases findNow_find K k es.toList ps 0 hes with ⟨h1, h2, _, h4, _⟩ | ⟨j, v', h1, h2, ⟨e, h3, _⟩, h5, _⟩
  · refine ⟨_, by simp [Builtin.delete_, ha, run_underlying hm, MapKept.run_getObj_map hb, run_checkKey hd (K.key k), run_findKey hd h2, MapKept.run_setObj_map _ hb, Result.andThen]; rfl, ?_, mods_setHeap hb, by simp⟩
    exact ⟨_, _, (heap_set hb).1, hs, by rw [h4]; exact hes⟩
  · have hj : j < es.size := by simpa using (List.getElem?_eq_some_iff.1 h3).1
    refine ⟨_, by simp [Builtin.delete_, ha, run_underlying hm, MapKept.run_getObj_map hb, run_checkKey hd (K.key k), run_findKey hd h2, MapKept.run_setObj_map _ hb, Result.andThen]; rfl, ?_, mods_setHeap hb, by simp⟩
    refine ⟨_, _, (heap_set hb).1, stamped_erase hs _, ?_⟩
    rw [h5]
    have e1 : (es.eraseIdxIfInBounds j).toList = es.toList.eraseIdx j := by
      unfold Array.eraseIdxIfInBounds
      rw [dif_pos hj]
      simp
    rw [e1, map_eraseIdx, hes, map_eraseIdx]

theorem MapAt.run_len (h : MapAt kv w m ps) (hm : P.underlying mty = some (.map kt et)) (ty : TypeId) :
    (Builtin.len_ #[mty] ty #[.map (some m)]).run P w = .ok (.int .i64 ps.length) w := by
  obtain ⟨es, c, hb, _, hes⟩ := h
  have hl : es.size = ps.length := by simpa using congrArg List.length hes
  simp [Builtin.len_, run_underlying hm, MapKept.run_getObj_map hb, Result.andThen, goInt, hl]

theorem wpList_mapUpdate_at [DecidableEq α] (w : World) {ops : Array Oper} {rest : List Oper} {o : Oper} {a : Act} {Q : Exit → Act → World → Prop}
    (hg : o.guard = none) (mo xo vo : Operand) (t : TypeId) (hop : o.op = Op.mapUpdate t mo xo vo) (K : KeyKind kv d) (ht : P.underlying t = some (.map kt et)) (hd : P.underlying kt = some d)
    (hm : a.eval mo = .map (some m)) (hown : MapAt kv w m ps) (k : α) (v : Value) (hx : a.eval xo = kv k) (hv : a.eval vo = v)
    (hK : ∀ w', MapAt kv w' m (setP k v ps) → Mods [m] w w' → w'.heap.size = w.heap.size → wpList P ops Q rest (a.put o.dst undef) w') :
    wpList P ops Q (o :: rest) a w := by
  refine wpList_plain hg fun K' hK' => ?_
  obtain ⟨w', hrun, r1, r2, r3⟩ := hown.run_update K ht hd k v
  unfold Oper.wp
  simp [execOp, hop, hm, hx, hv, hrun, Result.andThen]
  exact hK' _ _ (hK w' r1 r2 r3)

theorem wpList_delete_at [DecidableEq α] (w : World) {ops : Array Oper} {rest : List Oper} {o : Oper} {a : Act} {Q : Exit → Act → World → Prop}
    (hg : o.guard = none) (mo xo : Operand) (t k' : TypeId) (hop : o.op = Op.call { callee := Callee.builtin Builtin.delete, args := #[mo, xo], argTypes := #[t, k'] }) (K : KeyKind kv d) (ht : P.underlying t = some (.map kt et)) (hd : P.underlying kt = some d)
    (hm : a.eval mo = .map (some m)) (hown : MapAt kv w m ps) (k : α) (hx : a.eval xo = kv k)
    (hK : ∀ w', MapAt kv w' m (delP k ps) → Mods [m] w w' → w'.heap.size = w.heap.size → wpList P ops Q rest (a.put o.dst (.tuple #[])) w') :
    wpList P ops Q (o :: rest) a w := by
  refine wpList_plain hg fun K' hK' => ?_
  obtain ⟨w', hrun, r1, r2, r3⟩ := hown.run_delete K ht hd k o.type #[t, k'] rfl
  unfold Oper.wp
  simp [execOp, hop, resolve, invoke, builtin, hm, hx, hrun, Result.andThen]
  exact hK' _ _ (hK w' r1 r2 r3)
end

end Go.El
