/- Layer 9: arguments that are operators, opened. Over any program. -/
import Derived.Test.YtnedihbffiddpaaGreatDoorLaw
import Derived.Test.YtnedihbffiddpaaGreatDoorS09
import Derived.Test.YtnedihbffiddpaaGreatDoorV2
import Derived.Test.YtnedihbffiddpaaGreatDoorV6
import Derived.Test.YtnedihbffiddpaaGreatDoorW30
import Derived.Test.YtnedihbffiddpaaGreatDoorV12
import Derived.Test.YtnedihbffiddpaaGreatDoorW36
import Derived.Test.YtnedihbffiddpaaGreatDoorW38
namespace Go.El
open Go.RowKit Go.ChangeShapes Go.WideShapes Go.ChangeAt Go.Deep Go.Joins

section
variable {H : Type} {enc : TypeId × Value → H} {P : Program} {w : World} {base : Nat} {spare : Nat → Bool} {held : Bool}

/-- The type of operators, as a program lays it. -/
structure OpType (P : Program) (top ti ts : TypeId) : Prop where
  shape : ∃ f0 f1 f2 : Field, P.underlying top = some (.struct #[f0, f1, f2]) ∧ f0.type = ti ∧ f1.type = ti ∧ f2.type = ts ∧ f0.offset = 0 ∧ f1.offset = 1 ∧ f2.offset = 2
  int : P.underlying ti = some (.int .i64)
  str : P.underlying ts = some .string
  c : P.cellsOf top = 3
  ci : P.cellsOf ti = 1
  cs : P.cellsOf ts = 1
/-- The type of a law's calls. -/
structure CallType (P : Program) (tl top ti ts : TypeId) : Prop where
  op : OpType P top ti ts
  shape : ∃ f0 f1 f2 : Field, P.underlying tl = some (.struct #[f0, f1, f2]) ∧ f0.type = ti ∧ f1.type = top ∧ f2.type = ts ∧ f0.offset = 0 ∧ f1.offset = 1 ∧ f2.offset = 4
  c : P.cellsOf tl = 5

variable {tl top ti ts : TypeId}

theorem op_of_trod (T : OpType P top ti ts) {fuel : Nat} {cs : List Value} {x : DataW H × List MemPlace} (h : DataW.trod enc P w base spare held fuel top cs = some x) :
    ∃ o : OpV, cs = opCells o ∧ (Lit.int .i64 o.p).wf = true ∧ (Lit.int .i64 o.t).wf = true ∧ o.s.size ≤ maxLen := by
  obtain ⟨f0, f1, f2, hu, t0, t1, t2, o0, o1, o2⟩ := T.shape
  obtain ⟨xs, n, _, _, hl, hlen, hf⟩ := DataW.trod_struct hu h
  rw [T.c] at hl
  match cs, hl with
  | [c0, c1, c2], _ =>
    have h0 := hf 0 f0 rfl
    have h1 := hf 1 f1 rfl
    have h2 := hf 2 f2 rfl
    match xs, hlen with
    | [x0, x1, x2], _ =>
      rw [t0, o0, T.ci] at h0
      rw [t1, o1, T.ci] at h1
      rw [t2, o2, T.cs] at h2
      simp only [List.drop_zero, List.drop_succ_cons, List.take_succ_cons, List.take_zero, List.getElem?_cons_zero, List.getElem?_cons_succ] at h0 h1 h2
      obtain ⟨p, e0, _, w0⟩ := DataW.trod_int T.int h0
      obtain ⟨t, e1, _, w1⟩ := DataW.trod_int T.int h1
      obtain ⟨s, e2, _, w2⟩ := DataW.trod_string T.str h2
      simp only [List.cons.injEq, and_true] at e0 e1 e2
      exact ⟨⟨p, t, s⟩, by rw [e0, e1, e2]; rfl, w0, w1, w2⟩

theorem open_op (T : OpType P top ti ts) {r : Reach} {b0 : Nat} {v : Value} {d : DataW H} {ps : List MemPlace} (hv : Value.okWide P w r b0 top v) (h : DataW.Trod enc P w base spare held top v d ps) :
    ∃ o : OpV, v = .agg #[.int .i64 o.p, .int .i64 o.t, .string o.s] ∧ (Lit.int .i64 o.p).wf = true ∧ (Lit.int .i64 o.t).wf = true ∧ o.s.size ≤ maxLen := by
  obtain ⟨_, _, _, hu, _⟩ := T.shape
  obtain ⟨cs, rfl, _⟩ := okWide_struct hu hv
  obtain ⟨fuel, hf⟩ := h
  obtain ⟨o, e, r⟩ := op_of_trod T hf
  obtain ⟨l⟩ := cs
  simp only [Value.cells] at e
  subst e
  exact ⟨o, rfl, r⟩

/-- A call of a law: its kind, its operator, its name. -/
structure CallV where
  k : Int
  o : OpV
  nm : ByteArray
def callCells (c : CallV) : List Value := [.int .i64 c.k, .int .i64 c.o.p, .int .i64 c.o.t, .string c.o.s, .string c.nm]
def CallV.good (c : CallV) : Prop := (Lit.int .i64 c.k).wf = true ∧ (Lit.int .i64 c.o.p).wf = true ∧ (Lit.int .i64 c.o.t).wf = true ∧ c.o.s.size ≤ maxLen ∧ c.nm.size ≤ maxLen

theorem call_of_trod (T : CallType P tl top ti ts) {fuel : Nat} {cs : List Value} {x : DataW H × List MemPlace} (h : DataW.trod enc P w base spare held fuel tl cs = some x) :
    ∃ c : CallV, cs = callCells c ∧ c.good := by
  obtain ⟨f0, f1, f2, hu, t0, t1, t2, o0, o1, o2⟩ := T.shape
  obtain ⟨xs, n, _, _, hl, hlen, hf⟩ := DataW.trod_struct hu h
  rw [T.c] at hl
  match cs, hl with
  | [c0, c1, c2, c3, c4], _ =>
    have h0 := hf 0 f0 rfl
    have h1 := hf 1 f1 rfl
    have h2 := hf 2 f2 rfl
    match xs, hlen with
    | [x0, x1, x2], _ =>
      rw [t0, o0, T.op.ci] at h0
      rw [t1, o1, T.op.c] at h1
      rw [t2, o2, T.op.cs] at h2
      simp only [List.drop_zero, List.drop_succ_cons, List.take_succ_cons, List.take_zero, List.getElem?_cons_zero, List.getElem?_cons_succ] at h0 h1 h2
      obtain ⟨k, e0, _, w0⟩ := DataW.trod_int T.op.int h0
      obtain ⟨o, e1, w1, w2, w3⟩ := op_of_trod T.op h1
      obtain ⟨nm, e2, _, w4⟩ := DataW.trod_string T.op.str h2
      simp only [List.cons.injEq, and_true, opCells] at e0 e1 e2
      exact ⟨⟨k, o, nm⟩, by rw [e0, e1.1, e1.2.1, e1.2.2, e2]; rfl, w0, w1, w2, w3, w4⟩

theorem open_call (T : CallType P tl top ti ts) {r : Reach} {b0 : Nat} {v : Value} {d : DataW H} {ps : List MemPlace} (hv : Value.okWide P w r b0 tl v) (h : DataW.Trod enc P w base spare held tl v d ps) :
    ∃ c : CallV, v = .agg #[.int .i64 c.k, .int .i64 c.o.p, .int .i64 c.o.t, .string c.o.s, .string c.nm] ∧ c.good := by
  obtain ⟨_, _, _, hu, _⟩ := T.shape
  obtain ⟨cs, rfl, _⟩ := okWide_struct hu hv
  obtain ⟨fuel, hf⟩ := h
  obtain ⟨c, e, r⟩ := call_of_trod T hf
  obtain ⟨l⟩ := cs
  simp only [Value.cells] at e
  subst e
  exact ⟨c, rfl, r⟩

/-- A slice whose elements read one by one. -/
theorem open_rows {α : Type} {cells : α → List Value} {k : Nat} {good : α → Prop} {t e : TypeId} (ht : P.underlying t = some (.slice e)) (hce : P.cellsOf e = k) (hk : ∀ x, (cells x).length = k) (h0 : 0 < k)
    (hel : ∀ {fuel : Nat} {cs : List Value} {x : DataW H × List MemPlace}, DataW.trod enc P w base spare held fuel e cs = some x → ∃ a : α, cs = cells a ∧ good a)
    {r : Reach} {b0 : Nat} {v : Value} {d : DataW H} {ps : List MemPlace} (hv : Value.okWide P w r b0 t v) (h : DataW.Trod enc P w base spare held t v d ps) :
    ∃ (A : Option Addr) (L : List α) (c : Nat), v = .slice A L.length c ∧ Src w A L.length k (flat cells L) ∧ (∀ x ∈ L, good x) ∧ L.length ≤ maxLen := by
  obtain ⟨fuel, hf⟩ := h
  have h1 : v.cells.toList = [v] := by
    simp only [Value.okWide, ht] at hv
    cases v <;> simp_all [Cell.okWide, Cell.ok, Value.cells]
  rw [h1] at hf
  rcases open_slice ht hf with ⟨h2, _⟩ | ⟨a, len, cap, m, n, D, Pl, hcs, hb, hl, hm, hmm, hx, hi⟩
  · simp only [List.cons.injEq, and_true] at h2
    subst h2
    exact ⟨none, [], 0, rfl, Src.none _ _ _, fun x hx => by simp at hx, Nat.zero_le _⟩
  · simp only [List.cons.injEq, and_true] at hcs
    subst hcs
    have hml : len ≤ m := by rw [hmm]; split <;> omega
    obtain ⟨L, hL, hp⟩ := list_of_all (p := fun i x => w.cells? base (a.add (i * k)) k = some (cells x) ∧ good x) len (fun i hil => by
      obtain ⟨cs', hc, ht'⟩ := hi i (by omega)
      obtain ⟨x, e, g⟩ := hel ht'
      rw [hce, e] at hc
      exact ⟨x, hc, g⟩)
    subst hL
    refine ⟨some a, L, cap, rfl, src_of_cells hk h0 (fun i x hx j u hu => ?_), fun x hx => ?_, by omega⟩
    · obtain ⟨_, _, hat⟩ := World.cells?_some (hp i x hx).1
      have hj : j < k := by
        have := (List.getElem?_eq_some_iff.1 hu).1
        rwa [hk] at this
      rw [← Go.Deep.add_add]
      exact (hat j hj).trans hu
    · obtain ⟨i, hi⟩ := List.mem_iff_getElem?.1 hx
      exact (hp i x hi).2

theorem open_ops (T : OpType P top ti ts) {t : TypeId} (ht : P.underlying t = some (.slice top)) {r : Reach} {b0 : Nat} {v : Value} {d : DataW H} {ps : List MemPlace} (hv : Value.okWide P w r b0 t v) (h : DataW.Trod enc P w base spare held t v d ps) :
    ∃ (A : Option Addr) (L : List OpV) (c : Nat), v = .slice A L.length c ∧ Src w A L.length 3 (flat opCells L) ∧ (∀ o ∈ L, o.s.size ≤ maxLen) ∧ L.length ≤ maxLen :=
  open_rows ht T.c opCells_len (by omega) (fun h => (op_of_trod T h).imp fun _ h => ⟨h.1, h.2.2.2⟩) hv h
theorem open_calls (T : CallType P tl top ti ts) {t : TypeId} (ht : P.underlying t = some (.slice tl)) {r : Reach} {b0 : Nat} {v : Value} {d : DataW H} {ps : List MemPlace} (hv : Value.okWide P w r b0 t v) (h : DataW.Trod enc P w base spare held t v d ps) :
    ∃ (A : Option Addr) (L : List CallV) (c : Nat), v = .slice A L.length c ∧ Src w A L.length 5 (flat callCells L) ∧ (∀ o ∈ L, o.good) ∧ L.length ≤ maxLen :=
  open_rows ht T.c (fun _ => rfl) (by omega) (fun h => call_of_trod T h) hv h
end

end Go.El

/- Layers 10, 11, the laws: large operators; two tables of the same operators. -/
namespace Go.El
theorem act_bd {o : OpV} {found : Bool} {len : Nat} (h : actI o found len = 2) : -1000000 ≤ o.p ∧ o.p ≤ 1000000 := by
  unfold actI at h
  split at h
  · cases h
  · rename_i hb
    simp only [argBad, decide_eq_true_eq] at hb
    omega
theorem doO_mem {act : Nat} {o x : OpV} {l : List OpV} (h : x ∈ doO act o l) : x ∈ l ∨ (act = 2 ∧ x = o) := by
  unfold doO at h
  split at h
  · exact .inl ((delO_sub _).subset h)
  · split at h
    · rename_i h2
      rcases setO_mem h with h | h
      · exact .inr ⟨h2, h⟩
      · exact .inl h
    · exact .inl h
/-- Priorities that are no larger than any writer needs. -/
def Bd (I Q : List OpV) : Prop := ∀ p : OpV, p ∈ I ∨ p ∈ Q → -1000000 ≤ p.p ∧ p.p ≤ 1000000
theorem Bd.next {I Q : List OpV} (h : Bd I Q) (o : OpV) : Bd (nextI o I Q) (nextQ o I Q) := by
  intro p hp
  unfold nextI nextQ at hp
  rcases hp with hp | hp
  · split at hp
    · exact h p (.inl hp)
    · rcases doO_mem hp with hp | ⟨h2, rfl⟩
      · exact h p (.inl hp)
      · exact act_bd h2
  · split at hp
    · rcases doO_mem hp with hp | ⟨h2, rfl⟩
      · exact h p (.inr hp)
      · exact act_bd h2
    · exact h p (.inr hp)
/-- Are operators too many, or too long? -/
def LgO (L : List OpV) : Prop := (∃ j o, j < 30 ∧ L[j]? = some o ∧ 200 < o.s.size) ∨ 20 < L.length
end Go.El
namespace Go.Proofs.YtnedihbffiddpaaGreatDoor
open Go.RowKit Go.El Go.Proofs
theorem inv_init : Inv initI initQ := ⟨by decide +kernel, by decide +kernel, by decide +kernel, by decide +kernel, by decide +kernel⟩
theorem init_perm : (initI ++ initQ).Perm initL := by decide +kernel
theorem bd_init : Bd initI initQ := by
  have h : (initI ++ initQ).all (fun o => decide (-1000000 ≤ o.p ∧ o.p ≤ 1000000)) = true := by decide +kernel
  intro p hp
  have := List.all_eq_true.1 h p (List.mem_append.2 hp)
  simpa using this

/-- What is read at a place of a slice of operators. -/
theorem src_op {w : World} {A : Option Addr} {L : List OpV} (h : El.Src w A L.length 3 (flat opCells L)) {k : Nat} (hk : k < L.length) : ∃ b off, A = some ⟨b, off, none⟩ ∧ w.cell? ⟨b, off + k * 3, none⟩ = some (.int .i64 L[k].p) ∧ w.cell? ⟨b, off + k * 3 + 1, none⟩ = some (.int .i64 L[k].t) ∧ w.cell? ⟨b, off + k * 3 + 2, none⟩ = some (.string L[k].s) := by
  rcases SliceO.form ⟨A, 0, rfl, h⟩ with ⟨rfl, _⟩ | ⟨b, off, c, hv, hc⟩
  · simp at hk
  · injection hv with hA
    exact ⟨b, off, hA, hc k _ (List.getElem?_eq_getElem hk)⟩

/-- The two tables, out of one state. -/
theorem two_ops {w W : World} {tb m1 m2 rb : Nat} {v : Value} {I Q L : List OpV} (h : TwoAt w W tb m1 m2 rb v I Q L) (hb : Bd I Q) : OpsAt W (some (I, Q)) (.pointer (some ⟨tb, 0, none⟩)) := ⟨tb, m1, m2, rfl, h.tab, hb⟩
theorem two_rf {w W : World} {tb m1 m2 rb : Nat} {v : Value} {I Q L : List OpV} (h : TwoAt w W tb m1 m2 rb v I Q L) (hi : Inv I Q) (hp : (I ++ Q).Perm L) (hb : Bd I Q) : RfAt W (some (I, Q)) (some ⟨rb, 0, none⟩) :=
  ⟨rb, v, L, rfl, h.ref, fun s => ⟨find_both hi hp s false, find_both hi hp s true⟩, hb⟩

set_option maxRecDepth 100000 in
set_option maxHeartbeats 2000000 in
theorem opsLarge_any (A : Option Addr) (c : Nat) (L : List OpV) (w : World) (h1 : El.Src w A L.length 3 (flat opCells L)) (hL : L.length ≤ 9223372036854775807) (hg : ∀ o ∈ L, o.s.size ≤ 9223372036854775807) (b : Bool) (hb : b = true ↔ LgO L) :
    Calls Tryz.prog 10 #[.slice A L.length c] w fun e w' => e = .returned (.bool b) ∧ Ext w w' := by
  have H1 := Lib.hid h1
  have HG := Lib.hid hg
  have HB := Lib.hid hb
  clear h1 hg hb
  go_enter Tryz.func10, Tryz.ntmps10
  go_wp2_with fail
  go_loopw [3] (fun i wr => ∃ k : Nat, k ≤ L.length ∧ k ≤ 30 ∧ i = .int .i64 k ∧ Ext w wr ∧ Hid (∀ (j : Nat) (o : OpV), j < k → L[j]? = some o → ¬ 200 < o.s.size)) (fun i _ => 31 - (intOf i).toNat)
  case atStart => exact ⟨0, Nat.zero_le _, Nat.zero_le _, rfl, Ext.refl _, Lib.hid (fun j o h => by omega)⟩
  case round =>
    obtain ⟨k, hk, hk30, rfl, hx, HN⟩ := hrel
    by_cases hlt : k < L.length
    · by_cases hlt3 : k < 30
      · obtain ⟨b0, off, rfl, e0, e1, e2⟩ := src_op H1.out hlt
        have hs := HG.out L[k] (List.getElem_mem hlt)
        have d2 := hx.cell e2
        clear e0 e1 e2
        have hk' : L[k]? = some L[k] := List.getElem?_eq_getElem hlt
        have HK := Lib.hid hk'
        clear hk'
        generalize L[k] = x at *
        have HQ := Lib.hid (rfl : x.s = x.s)
        revert HQ
        generalize hxs : x.s = s at hs d2 ⊢
        have HXS := Lib.hid hxs
        clear hxs
        intro HQ
        clear HQ
        by_cases hz : 200 < s.size
        · go_wp2_with fail
          go_ret
          exact ⟨ret_boolP ⟨fun _ => HB.out.2 (.inl ⟨k, x, hlt3, HK.out, by rw [HXS.out]; exact hz⟩), fun _ => rfl⟩, hx⟩
        · go_wp2_with fail
          go_roundw
          case rel => exact ⟨k + 1, hlt, hlt3, by go_num, hx, Lib.hid (fun j o hj ho => by
            rcases Nat.lt_succ_iff_lt_or_eq.1 hj with h | rfl
            · exact HN.out j o h ho
            · obtain rfl := Option.some.inj (ho.symm.trans HK.out)
              rw [HXS.out]; exact hz)⟩
          case measure => simp [intOf]; omega
      · go_wp2_with fail
        go_ret
        exact ⟨ret_boolP (by
        rw [HB.out, decide_eq_true_iff]
        unfold LgO
        constructor
        · intro h; exact .inr (by omega)
        · rintro (⟨j, o, h1, h2, h3⟩ | h)
          · exact absurd h3 (HN.out j o (by have := (List.getElem?_eq_some_iff.1 h2).1; omega) h2)
          · omega), hx⟩
    · go_wp2_with fail
      go_ret
      exact ⟨ret_boolP (by
        rw [HB.out, decide_eq_true_iff]
        unfold LgO
        constructor
        · intro h; exact .inr (by omega)
        · rintro (⟨j, o, h1, h2, h3⟩ | h)
          · exact absurd h3 (HN.out j o (by have := (List.getElem?_eq_some_iff.1 h2).1; omega) h2)
          · omega), hx⟩

set_option maxRecDepth 100000 in
set_option maxHeartbeats 4000000 in
theorem tables_any (A : Option Addr) (c : Nat) (L : List OpV) (w : World) (hT : TypesAt 0 w) (h1 : El.Src w A L.length 3 (flat opCells L)) (_hL : L.length ≤ 9223372036854775807) (hg : ∀ o ∈ L, o.s.size ≤ 9223372036854775807) :
    Calls Tryz.prog 11 #[.slice A L.length c] w fun e w' => ∃ tb rb I Q, e = .returned (.tuple #[.pointer (some ⟨tb, 0, none⟩), .pointer (some ⟨rb, 0, none⟩)]) ∧ OpsAt w' (some (I, Q)) (.pointer (some ⟨tb, 0, none⟩)) ∧ RfAt w' (some (I, Q)) (some ⟨rb, 0, none⟩) ∧ Ext w w' := by
  have HT := Lib.hid hT
  have H1 := Lib.hid h1
  have HG := Lib.hid hg
  clear hT h1 hg
  go_enter Tryz.func11, Tryz.ntmps11
  go_upto_region 2 with (first | (go_at_call 21; refine (twNews _).mono ?_; rintro e W1 ⟨tb, m1, m2, rfl, hn⟩) | (go_at_call 35; refine (twNewR HT.out hn).mono ?_; rintro e W2 ⟨rb, v, rfl, hx⟩; clear hn))
  go_wp2_with fail
  go_loopw [6] (fun i wr => ∃ (k : Nat) (v : Value) (I Q M : List OpV), k ≤ L.length ∧ k ≤ 20 ∧ i = .int .i64 k ∧ TwoAt w wr tb m1 m2 rb v I Q M ∧ Inv I Q ∧ Hid ((I ++ Q).Perm M ∧ Bd I Q)) (fun i _ => 21 - (intOf i).toNat)
  case atStart => exact ⟨0, v, initI, initQ, initL, Nat.zero_le _, Nat.zero_le _, rfl, hx, inv_init, Lib.hid ⟨init_perm, bd_init⟩⟩
  case round =>
    clear hx
    obtain ⟨k, v, I, Q, M, hk, hk20, rfl, hx, hi, HP⟩ := hrel
    by_cases hlt : k < L.length
    · by_cases hlt2 : k < 20
      · obtain ⟨b, off, rfl, e0, e1, e2⟩ := src_op H1.out hlt
        have hs := HG.out L[k] (List.getElem_mem hlt)
        generalize L[k] = x at e0 e1 e2 hs
        obtain ⟨xp, xt, xs⟩ := x
        dsimp only at e0 e1 e2 hs
        have d0 := hx.ext.cell e0
        have d1 := hx.ext.cell e1
        have d2 := hx.ext.cell e2
        go_upto_region 6 with (go_at_call 36; refine (twSetP hx hi xp xt xs).mono ?_; rintro e W3 ⟨rfl, hx2, _⟩)
        clear d0 d1 d2
        have d0 := hx2.ext.cell e0
        have d1 := hx2.ext.cell e1
        have d2 := hx2.ext.cell e2
        have hlen : M.length ≤ 1000 := by
          have := hi.len
          have := HP.out.1.length_eq
          rw [List.length_append] at this
          omega
        go_wp2_with (go_at_call 37; refine (twSetR hx2 xp xt xs hs hlen _ rfl).mono ?_; rintro e W4 ⟨rfl, v', hx3, _⟩)
        go_roundw
        case rel => exact ⟨k + 1, v', _, _, _, hlt, hlt2, by go_num, hx3, hi.next _, Lib.hid ⟨next_both hi HP.out.1 _, HP.out.2.next _⟩⟩
        case measure => simp [intOf]; omega
      · go_wp2_with fail
        go_ret2
        exact ⟨tb, rb, I, Q, rfl, two_ops hx HP.out.2, two_rf hx hi HP.out.1 HP.out.2, hx.ext⟩
    · go_wp2_with fail
      go_ret2
      exact ⟨tb, rb, I, Q, rfl, two_ops hx HP.out.2, two_rf hx hi HP.out.1 HP.out.2, hx.ext⟩

end Go.Proofs.YtnedihbffiddpaaGreatDoor

/- WriteTexts: its walk. -/
namespace Go.Proofs.YtnedihbffiddpaaGreatDoor
open Go.RowKit Go.El

set_option maxRecDepth 100000 in
set_option maxHeartbeats 8000000 in
theorem writeTexts_any (L : List OpV) (A0 : Option Addr) (c0 : Nat) (t : Tm) (A : Option Addr) (c : Nat) (w : World) (D : Nat → Prop) (hl : El.Src w A0 L.length 3 (flat opCells L)) (hL : L.length ≤ 9223372036854775807) (hg : ∀ o ∈ L, o.s.size ≤ 9223372036854775807) (ht : TmIn D w t A c) (hft : fitT t = true) (he : Env w) :
    Calls Tryz.prog 4 #[.slice A0 L.length c0, tmVal t A c] w fun e w' => e = .returned (.bool true) ∧ Ext w w' := by
  have HA := Lib.hid ht
  have HFA := Lib.hid hft
  have HS := Lib.hid hl
  have HG := Lib.hid hg
  have HE := Lib.hid he
  clear ht hft he hl hg
  obtain ⟨bl, hbl⟩ : ∃ bl : Bool, bl = true ↔ LgO L := by
    by_cases h : LgO L
    · exact ⟨true, by simp [h]⟩
    · exact ⟨false, by simp [h]⟩
  unfold tmVal
  go_enter Tryz.func4, Tryz.ntmps4
  go_upto_region 1 with fail
  refine wp_abs (fun V => Hid (Blk V w.heap.size 27 #[.int .i64 t.k, .int .i64 t.n, .string t.s, .slice A t.l.length c]) ∧ Hid (Ext w V)) ⟨Blk.new w _ _, (Ext.refl w).alloc _⟩ ?_
  rintro V ⟨HB0, HX⟩
  have HAV := Lib.hid (HA.out.ext HX.out)
  have HEV := Lib.hid (HE.out.ext HX.out)
  have key := fun (W : World) (x : Ext V W) => (show Hid (W.cell? ⟨w.heap.size, 0, none⟩ = some (.int .i64 t.k) ∧ W.cell? ⟨w.heap.size, 1, none⟩ = some (.int .i64 t.n) ∧ W.cell? ⟨w.heap.size, 2, none⟩ = some (.string t.s) ∧ W.cell? ⟨w.heap.size, 3, none⟩ = some (.slice A t.l.length c)) from Lib.hid ⟨(HB0.out.ext x).cell 0, (HB0.out.ext x).cell 1, (HB0.out.ext x).cell 2, (HB0.out.ext x).cell 3⟩)
  have HLO := fun (W : World) (x : Ext V W) => Lib.hid (opsLarge_any A0 c0 L W (HS.out.ext (HX.out.trans x)) hL HG.out bl hbl)
  have HLA := fun (W : World) (x : Ext V W) => Lib.hid (refLarge_any t A c W D (HAV.out.ext x) HFA.out)
  have HLV := fun (W : World) (x : Ext V W) => Lib.hid (lives_any W (HEV.out.ext x))
  have HTB := fun (W : World) (x : Ext V W) => Lib.hid (tables_any A0 c0 L W (HEV.out.ext x).ty (HS.out.ext (HX.out.trans x)) hL HG.out)
  unfold tmVal at HLA
  have hza := bigT_no (t := t)
  generalize bigT t = bt at *
  obtain ⟨y0, y1, y2, y3⟩ := (key V (Ext.refl V)).out
  clear HS HG
  cases bl
  · cases bt
    · have hza := hza rfl
      have HC := fun (W : World) (x : Ext V W) => Lib.hid (canon_any t A c W D (HAV.out.ext x) (HEV.out.ext x) (by omega))
      have HD := fun (W : World) (x : Ext V W) => Lib.hid (refCanon_any t A c W D (HAV.out.ext x) (by omega))
      have HTP := fun (W : World) (I Q : List OpV) (tb : Nat) (x : Ext V W) (ho : OpsAt W (some (I, Q)) (.pointer (some ⟨tb, 0, none⟩))) => Lib.hid (text_any t A c W D I Q tb (HAV.out.ext x) (HEV.out.ext x) ho (by omega))
      have HTR := fun (W : World) (I Q : List OpV) (rb : Nat) (x : Ext V W) (hr : RfAt W (some (I, Q)) (some ⟨rb, 0, none⟩)) => Lib.hid (refTextOps_any t A c W D (some (I, Q)) _ hr (HAV.out.ext x) (by omega))
      have HCP := fun (W : World) (I Q : List OpV) (tb : Nat) (x : Ext V W) (ho : OpsAt W (some (I, Q)) (.pointer (some ⟨tb, 0, none⟩))) => Lib.hid (clause_any t A c W D I Q tb (HAV.out.ext x) (HEV.out.ext x) ho (by omega))
      have HCR := fun (W : World) (I Q : List OpV) (rb : Nat) (x : Ext V W) (hr : RfAt W (some (I, Q)) (some ⟨rb, 0, none⟩)) => Lib.hid (refClause_any t A c W D (some (I, Q)) _ hr (HAV.out.ext x) (by omega))
      unfold tmVal at HC HD HTP HTR HCP HCR
      clear hza hbl
      go_upto_region 3 with (first | (go_at_call 10; refine (HLO _ (Ext.refl V)).out.mono ?_; rintro e W1 ⟨rfl, hx⟩; have X1 := Lib.hid hx; clear hx y0 y1 y2 y3; obtain ⟨y0, y1, y2, y3⟩ := (key _ X1.out).out) | (go_at_call 6; refine (HLA _ X1.out).out.mono ?_; rintro e W2 ⟨rfl, hx⟩; have X2 := Lib.hid (X1.out.trans hx); clear hx X1 y0 y1 y2 y3))
      go_upto_region 4 with (go_at_call 11; refine (HTB _ X2.out).out.mono ?_; rintro e W3 ⟨tb, rb, I, Q, rfl, ho, hr, hx⟩; have X3 := Lib.hid (X2.out.trans hx); have HO := Lib.hid ho; have HR := Lib.hid hr; clear hx ho hr X2)
      generalize wrtS none t [] = s1 at *
      generalize wrtE none t [] = e1 at *
      have HTP := fun (W : World) x ho => HTP W I Q tb x ho
      have HTR := fun (W : World) x ho => HTR W I Q rb x ho
      have HCP := fun (W : World) x ho => HCP W I Q tb x ho
      have HCR := fun (W : World) x ho => HCR W I Q rb x ho
      generalize wrtS (some (I, Q)) t [] = s2 at *
      generalize wrtE (some (I, Q)) t [] = e2 at *
      generalize wrtS (some (I, Q)) t [32, 46, 10] = s3 at *
      generalize wrtE (some (I, Q)) t [32, 46, 10] = e3 at *
      obtain ⟨y0, y1, y2, y3⟩ := (key _ X3.out).out
      go_upto_region 5 with (go_at_call 12; refine (HC _ X3.out).out.mono ?_; rintro e W4 ⟨rfl, hx⟩; have X4 := Lib.hid (X3.out.trans hx); have HO := Lib.hid (HO.out.ext hx); have HR := Lib.hid (HR.out.ext hx); clear hx X3 y0 y1 y2 y3)
      obtain ⟨y0, y1, y2, y3⟩ := (key _ X4.out).out
      go_upto_region 6 with (go_at_call 13; refine (HD _ X4.out).out.mono ?_; rintro e W5 ⟨rfl, hx⟩; have X5 := Lib.hid (X4.out.trans hx); have HO := Lib.hid (HO.out.ext hx); have HR := Lib.hid (HR.out.ext hx); clear hx X4 y0 y1 y2 y3)
      obtain ⟨y0, y1, y2, y3⟩ := (key _ X5.out).out
      go_upto_region 7 with (go_at_call 14; refine (HTP _ X5.out HO.out).out.mono ?_; rintro e W6 ⟨rfl, hx⟩; have X6 := Lib.hid (X5.out.trans hx); have HO := Lib.hid (HO.out.ext hx); have HR := Lib.hid (HR.out.ext hx); clear hx X5 y0 y1 y2 y3)
      obtain ⟨y0, y1, y2, y3⟩ := (key _ X6.out).out
      go_upto_region 8 with (go_at_call 15; refine (HTR _ X6.out HR.out).out.mono ?_; rintro e W7 ⟨rfl, hx⟩; have X7 := Lib.hid (X6.out.trans hx); have HO := Lib.hid (HO.out.ext hx); have HR := Lib.hid (HR.out.ext hx); clear hx X6 y0 y1 y2 y3)
      obtain ⟨y0, y1, y2, y3⟩ := (key _ X7.out).out
      go_upto_region 9 with (go_at_call 16; refine (HCP _ X7.out HO.out).out.mono ?_; rintro e W8 ⟨rfl, hx⟩; have X8 := Lib.hid (X7.out.trans hx); have HR := Lib.hid (HR.out.ext hx); clear hx X7 y0 y1 y2 y3)
      obtain ⟨y0, y1, y2, y3⟩ := (key _ X8.out).out
      go_upto_region 10 with (go_at_call 17; refine (HCR _ X8.out HR.out).out.mono ?_; rintro e W9 ⟨rfl, hx⟩; have X9 := Lib.hid (X8.out.trans hx); clear hx X8 y0 y1 y2 y3)
      go_wp2_with (go_at_call 5; refine (HLV _ X9.out).out.mono ?_; rintro e Wa ⟨rfl, hx⟩; have Xa := Lib.hid (X9.out.trans hx); clear hx)
      go_ret
      exact ⟨rfl, HX.out.trans Xa.out⟩
    · clear hza hbl HTB
      go_wp2_with (first | (go_at_call 10; refine (HLO _ (Ext.refl V)).out.mono ?_; rintro e W1 ⟨rfl, hx⟩; have X1 := Lib.hid hx; clear hx y0 y1 y2 y3; obtain ⟨y0, y1, y2, y3⟩ := (key _ X1.out).out) | (go_at_call 6; refine (HLA _ X1.out).out.mono ?_; rintro e W2 ⟨rfl, hx⟩; have X2 := Lib.hid (X1.out.trans hx); clear hx X1 y0 y1 y2 y3) | (go_at_call 5; refine (HLV _ X2.out).out.mono ?_; rintro e Wa ⟨rfl, hx⟩; have Xa := Lib.hid (X2.out.trans hx); clear hx))
      go_ret
      exact ⟨rfl, HX.out.trans Xa.out⟩
  · clear hza hbl HTB HLA
    go_wp2_with (first | (go_at_call 10; refine (HLO _ (Ext.refl V)).out.mono ?_; rintro e W1 ⟨rfl, hx⟩; have X1 := Lib.hid hx; clear hx y0 y1 y2 y3) | (go_at_call 5; refine (HLV _ X1.out).out.mono ?_; rintro e Wa ⟨rfl, hx⟩; have Xa := Lib.hid (X1.out.trans hx); clear hx))
    go_ret
    exact ⟨rfl, HX.out.trans Xa.out⟩

end Go.Proofs.YtnedihbffiddpaaGreatDoor
