/- Arguments that are terms, opened. Over any program. -/
import Derived.Test.YtnedihbffiddpaaGreatDoorLaw
import Derived.Test.YtnedihbffiddpaaGreatDoorW35
import Derived.Test.YtnedihbffiddpaaGreatDoorW36
namespace Go.El
open Go.RowKit Go.ChangeShapes Go.WideShapes Go.ChangeAt Go.Deep Go.Joins

section
variable {H : Type} {enc : TypeId × Value → H} {P : Program} {w : World} {base : Nat} {spare : Nat → Bool} {held : Bool}

/-- The type of terms, as a program lays it. -/
structure TmType (P : Program) (tt tsl ti ts : TypeId) : Prop where
  shape : ∃ f0 f1 f2 f3 : Field, P.underlying tt = some (.struct #[f0, f1, f2, f3]) ∧ f0.type = ti ∧ f1.type = ti ∧ f2.type = ts ∧ f3.type = tsl ∧ f0.offset = 0 ∧ f1.offset = 1 ∧ f2.offset = 2 ∧ f3.offset = 3
  int : P.underlying ti = some (.int .i64)
  str : P.underlying ts = some .string
  sl : P.underlying tsl = some (.slice tt)
  c : P.cellsOf tt = 4
  ci : P.cellsOf ti = 1
  cs : P.cellsOf ts = 1
  cl : P.cellsOf tsl = 1
/-- A term that was read. -/
def TmRead (w : World) (p : TmP) : Prop := TmIn (fun _ => True) w p.1 p.2.1 p.2.2 ∧ fitT p.1 = true

variable {tt tsl ti ts : TypeId}

theorem fit_map {L : List TmP} (h : ∀ p ∈ L, fitT p.1 = true) : fitL (L.map (·.1)) = true :=
  fitL_of (fun t ht => by
    obtain ⟨p, hp, rfl⟩ := List.mem_map.1 ht
    exact h p hp)

/-- A slice of terms, where each reads. -/
theorem tms_of_trod (T : TmType P tt tsl ti ts) {fuel : Nat} {cs : List Value} {x : DataW H × List MemPlace} (hel : ∀ n, n < fuel → ∀ (cs : List Value) (x : DataW H × List MemPlace), DataW.trod enc P w base spare held n tt cs = some x → ∃ p : TmP, cs = tmC p ∧ TmRead w p)
    (h : DataW.trod enc P w base spare held fuel tsl cs = some x) : ∃ (A : Option Addr) (L : List TmP) (c : Nat), cs = [.slice A L.length c] ∧ (∀ p ∈ L, TmRead w p) ∧ TmIn (fun _ => True) w (.mk 0 0 ⟨#[]⟩ (L.map (·.1))) A c ∧ L.length ≤ maxLen := by
  rcases DataW.trod_slice T.sl h with ⟨h2, _⟩ | ⟨a, len, cap, elems, rest, n, hn, hcs, _, hb, hl, hm, hlen, hall, _, _⟩
  · exact ⟨none, [], 0, h2, fun p hp => by simp at hp, .mk 0 0 _ [] none 0 [] rfl (fun j t c h => by simp at h) (fun h => absurd rfl h) (Nat.zero_le _), Nat.zero_le _⟩
  · obtain ⟨L, hL, hp⟩ := list_of_all (p := fun i (q : TmP) => w.cells? base (a.add (i * 4)) 4 = some (tmC q) ∧ TmRead w q) len (fun i hil => by
      have hi := hall i hil
      rw [List.getElem?_eq_getElem (by omega), T.c] at hi
      obtain ⟨cs', h1, h2⟩ := Option.bind_eq_some_iff.1 hi
      obtain ⟨q, e, g⟩ := hel n (by omega) cs' _ h2
      rw [e] at h1
      exact ⟨q, h1, g⟩)
    subst hL
    have hsrc : Src w (some a) L.length 4 (flat tmC L) := src_of_cells tmC_len (by omega) (fun i q hq j u hu => by
      obtain ⟨_, _, hat⟩ := World.cells?_some (hp i q hq).1
      have hj : j < 4 := by
        have := (List.getElem?_eq_some_iff.1 hu).1
        rwa [tmC_len] at this
      rw [← Go.Deep.add_add]
      exact (hat j hj).trans hu)
    have hrd : ∀ q ∈ L, TmRead w q := fun q hq => by
      obtain ⟨i, hi⟩ := List.mem_iff_getElem?.1 hq
      exact (hp i q hi).2
    exact ⟨some a, L, cap, hcs, hrd, Go.Proofs.YtnedihbffiddpaaGreatDoor.src_tm hsrc (fun q hq => (hrd q hq).1) (fun _ _ _ => trivial) hl 0 0 ⟨#[]⟩, by omega⟩

theorem tm_of_trod (T : TmType P tt tsl ti ts) : ∀ (N fuel : Nat), fuel ≤ N → ∀ (cs : List Value) (x : DataW H × List MemPlace), DataW.trod enc P w base spare held fuel tt cs = some x → ∃ p : TmP, cs = tmC p ∧ TmRead w p
  | N, fuel, hN, cs, x, h => by
    obtain ⟨f0, f1, f2, f3, hu, t0, t1, t2, t3, o0, o1, o2, o3⟩ := T.shape
    obtain ⟨xs, n, hfn, _, hl, hlen, hf⟩ := DataW.trod_struct hu h
    rw [T.c] at hl
    match cs, hl with
    | [c0, c1, c2, c3], _ =>
      have h0 := hf 0 f0 rfl
      have h1 := hf 1 f1 rfl
      have h2 := hf 2 f2 rfl
      have h3 := hf 3 f3 rfl
      match xs, hlen with
      | [x0, x1, x2, x3], _ =>
        rw [t0, o0, T.ci] at h0
        rw [t1, o1, T.ci] at h1
        rw [t2, o2, T.cs] at h2
        rw [t3, o3, T.cl] at h3
        simp only [List.drop_zero, List.drop_succ_cons, List.take_succ_cons, List.take_zero, List.getElem?_cons_zero, List.getElem?_cons_succ] at h0 h1 h2 h3
        obtain ⟨k, e0, _, _⟩ := DataW.trod_int T.int h0
        obtain ⟨i, e1, _, _⟩ := DataW.trod_int T.int h1
        obtain ⟨s, e2, _, w2⟩ := DataW.trod_string T.str h2
        match N, hN with
        | 0, hN => omega
        | N + 1, hN =>
          obtain ⟨A, L, c, e3, hr, ht, _⟩ := tms_of_trod T (fun m hm cs' x' h' => tm_of_trod T N m (by omega) cs' x' h') h3
          simp only [List.cons.injEq, and_true] at e0 e1 e2 e3
          refine ⟨(.mk k i s (L.map (·.1)), A, c), ?_, TmsIn.term ht k i s, ?_⟩
          · rw [e0, e1, e2, e3]
            simp [tmC, Tm.k, Tm.n, Tm.s, Tm.l]
          · simp only [fitT, Bool.and_eq_true, decide_eq_true_eq]
            refine ⟨by unfold maxLen at w2; omega, fit_map (fun p hp => (hr p hp).2)⟩
  termination_by N => N

theorem open_tm (T : TmType P tt tsl ti ts) {r : Reach} {b0 : Nat} {v : Value} {d : DataW H} {ps : List MemPlace} (hv : Value.okWide P w r b0 tt v) (h : DataW.Trod enc P w base spare held tt v d ps) :
    ∃ (t : Tm) (A : Option Addr) (c : Nat), v = tmVal t A c ∧ TmIn (fun _ => True) w t A c ∧ fitT t = true := by
  obtain ⟨_, _, _, _, hu, _⟩ := T.shape
  obtain ⟨cs, rfl, _⟩ := okWide_struct hu hv
  obtain ⟨fuel, hf⟩ := h
  obtain ⟨⟨t, A, c⟩, e, h1, h2⟩ := tm_of_trod T fuel fuel (Nat.le_refl _) _ _ hf
  obtain ⟨l⟩ := cs
  simp only [Value.cells] at e
  subst e
  exact ⟨t, A, c, rfl, h1, h2⟩

theorem open_tms (T : TmType P tt tsl ti ts) {r : Reach} {b0 : Nat} {v : Value} {d : DataW H} {ps : List MemPlace} (hv : Value.okWide P w r b0 tsl v) (h : DataW.Trod enc P w base spare held tsl v d ps) :
    ∃ (A : Option Addr) (l : List Tm) (c : Nat), v = .slice A l.length c ∧ TmsIn (fun _ => True) w l A c ∧ fitL l = true ∧ l.length ≤ maxLen := by
  obtain ⟨fuel, hf⟩ := h
  have h1 : v.cells.toList = [v] := by
    simp only [Value.okWide, T.sl] at hv
    cases v <;> simp_all [Cell.okWide, Cell.ok, Value.cells]
  rw [h1] at hf
  obtain ⟨A, L, c, e, hr, ht, hm⟩ := tms_of_trod T (fun m _ cs' x' h' => tm_of_trod T m m (Nat.le_refl _) cs' x' h') hf
  simp only [List.cons.injEq, and_true] at e
  exact ⟨A, L.map (fun p : TmP => p.1), c, by simpa using e, ht, fit_map (fun p hp => (hr p hp).2), by simpa using hm⟩
end

end Go.El
