/- The evaluator's heap: what is read is there; what is written is there behind it. -/
import Derived.Test.YtkenjhchfidpbaaGreatDoorC03
import Derived.Deep.MidRow
import Derived.ChangeKeysEq
import Derived.Laws.Entries
namespace Go.Ev
open Go.RowKit
variable {N : Kp} {φ : Pl} {h h' : H} {w : World}

def stc (cs : Array Value) : Nat → List Value → Array Value
  | _, [] => cs
  | o, v :: vs => stc (cs.setIfInBounds o v) (o + 1) vs
theorem stc_size : ∀ (vs : List Value) (cs : Array Value) (o : Nat), (stc cs o vs).size = cs.size
  | [], _, _ => rfl
  | v :: vs, cs, o => by rw [stc, stc_size vs]; simp
theorem stc_out : ∀ (vs : List Value) (cs : Array Value) (o j : Nat), j < o ∨ o + vs.length ≤ j → (stc cs o vs)[j]? = cs[j]?
  | [], _, _, _, _ => rfl
  | v :: vs, cs, o, j, hj => by
    rw [stc, stc_out vs _ _ _ (by simp at hj; omega), Array.getElem?_setIfInBounds, if_neg (by simp at hj; omega)]
theorem stc_in : ∀ (vs : List Value) (cs : Array Value) (o j : Nat), j < vs.length → o + vs.length ≤ cs.size → (stc cs o vs)[o + j]? = vs[j]?
  | [], _, _, _, h, _ => by simp at h
  | v :: vs, cs, o, 0, _, hs => by
    rw [stc, stc_out vs _ _ _ (by omega), Array.getElem?_setIfInBounds]
    simp at hs
    simp; omega
  | v :: vs, cs, o, j + 1, hj, hs => by
    have := stc_in vs (cs.setIfInBounds o v) (o + 1) j (by simpa using hj) (by simp at hs ⊢; omega)
    rw [stc, show o + (j + 1) = o + 1 + j by omega, this]; simp

theorem heap_setCells : ∀ (vs : List Value) (o : Nat) (w : World) (b : Nat) (cs : Array Value) (e : TypeId) (fr : Nat × Nat), w.heap[b]? = some (.cells cs e fr) →
    (w.setCells b o vs).heap[b]? = some (.cells (stc cs o vs) e fr)
  | [], _, _, _, _, _, _, h => h
  | v :: vs, o, w, b, cs, e, fr, h => by
    rw [World.setCells, stc]
    refine heap_setCells vs (o + 1) _ b _ e fr ?_
    have hlt : b < w.heap.size := (Array.getElem?_eq_some_iff.1 h).1
    simp only [World.setCell, Array.getElem?_modify, if_true, h]
    simp
theorem heap_setCells_ne : ∀ (vs : List Value) (o : Nat) (w : World) (b j : Nat), j ≠ b → (w.setCells b o vs).heap[j]? = w.heap[j]?
  | [], _, _, _, _, _ => rfl
  | v :: vs, o, w, b, j, h => by rw [World.setCells, heap_setCells_ne vs _ _ _ _ h, Go.RowKit.Below.heap_setCell _ _ _ _ h]
theorem size_setCells' : ∀ (vs : List Value) (o : Nat) (w : World) (b : Nat), (w.setCells b o vs).heap.size = w.heap.size
  | [], _, _, _ => rfl
  | v :: vs, o, w, b => by rw [World.setCells, size_setCells' vs]; simp [World.setCell]
theorem below_setCells' {b : Nat} (hb : ¬ N.o b) : ∀ (vs : List Value) (o : Nat) {a w : World}, Below N a w → Below N a (w.setCells b o vs)
  | [], _, _, _, h => h
  | v :: vs, o, a, w, h => by rw [World.setCells]; exact below_setCells' hb vs (o + 1) (h.setCell hb v)

theorem pt_get {α : Type} : ∀ (l : List α) (o : Nat) (t : PT α) (j : Nat), o + l.length ≤ 5000000 →
    (pt l o t).get j = if o ≤ j ∧ j < o + l.length then l[j - o]? else t.get j
  | [], o, t, j, _ => by
    show t.get j = _
    rw [if_neg (by simp)]
  | x :: l, o, t, j, hl => by
    have ih := pt_get l (o + 1) (t.put o x) j (by simp at hl; omega)
    show (pt l (o + 1) (t.put o x)).get j = _
    rw [ih]
    simp only [List.length_cons] at hl ⊢
    by_cases h1 : o + 1 ≤ j ∧ j < o + 1 + l.length
    · rw [if_pos h1, if_pos (by omega), show j - o = (j - (o + 1)) + 1 by omega]; simp
    · rw [if_neg h1, put_get _ _ _ _ (by omega)]
      by_cases h2 : j = o
      · subst h2; rw [if_pos rfl, if_pos (by omega)]; simp
      · rw [if_neg h2, if_neg (by omega)]
theorem getN_some {α : Type} {t : PT α} : ∀ (n i : Nat) (l : List α), getN t i n = some l → l.length = n ∧ ∀ j, j < n → ∃ v, t.get (i + j) = some v ∧ l[j]? = some v
  | 0, i, l, h => by injection h with h; subst h; exact ⟨rfl, fun j hj => absurd hj (Nat.not_lt_zero _)⟩
  | n + 1, i, l, h => by
    obtain ⟨v, hv, h⟩ := ob_some h
    obtain ⟨l', hl, h⟩ := ob_some h
    injection h with h; subst h
    obtain ⟨hlen, hall⟩ := getN_some n (i + 1) l' hl
    refine ⟨by simp [hlen], fun j hj => ?_⟩
    cases j with
    | zero => exact ⟨v, by simpa using hv, by simp⟩
    | succ j =>
      obtain ⟨u, a, b⟩ := hall j (by omega)
      exact ⟨u, by rw [show i + (j + 1) = i + 1 + j by omega]; exact a, by simpa using b⟩

/-- A row of the heap. -/
theorem load1_row {i o : Nat} {v : AV} (e : load1 h i o = some v) : ∃ t c m fl, h.b.get i = some (.cells t c m fl) ∧ o < m ∧ c.get o = some v := by
  obtain ⟨b, hb, e⟩ := ob_some e
  cases b with
  | cells t c m fl =>
    obtain ⟨hlt, e⟩ := iff_some e
    exact ⟨t, c, m, fl, hb, by simpa [Nat.blt_eq] using hlt, e⟩
  | _ => exact absurd e (by simp)
theorem loadC_row {i o n : Nat} {l : List AV} (e : loadC h i o n = some l) : ∃ t c m fl, h.b.get i = some (.cells t c m fl) ∧ o + n ≤ m ∧ getN c o n = some l := by
  obtain ⟨b, hb, e⟩ := ob_some e
  cases b with
  | cells t c m fl =>
    obtain ⟨hle, e⟩ := iff_some e
    exact ⟨t, c, m, fl, hb, Nat.le_of_ble_eq_true hle, e⟩
  | _ => exact absurd e (by simp)
/-- What a row of the heap stands for. -/
theorem Sim.row (s : Sim N φ h w) {i : Nat} {t : TypeId} {c : PT AV} {m fl : Nat} (hb : h.b.get i = some (.cells t c m fl)) {b k : Nat} (hp : φ i = some (b, k)) :
    ∃ cs fr, w.heap[b]? = some (.cells cs t fr) ∧ CR φ c m cs k ∧ (fl = 0 ∨ fl = 2 → k = 0 ∧ cs.size = m) ∧ (fl ≠ 3 → fr = (0, 0)) ∧ (∀ j, j < cs.size → ¬ (fr.1 ≤ j ∧ j < fr.2)) := by
  obtain ⟨o, ho, hr⟩ := s.at hb hp
  cases hr with
  | cells _ _ _ _ cs fr _ h hx hf hn => exact ⟨cs, fr, ho, h, hx, hf, hn⟩
theorem cell_of {b _k : Nat} {cs : Array Value} {t : TypeId} {fr : Nat × Nat} (hb : w.heap[b]? = some (.cells cs t fr)) {j : Nat} {v : Value} (h : cs[j]? = some v) : w.cell? ⟨b, j, none⟩ = some v := by
  simp [World.cell?, hb, h]
theorem load1_rel (s : Sim N φ h w) {i o : Nat} {v : AV} (e : load1 h i o = some v) {b k : Nat} (hp : φ i = some (b, k)) : ∃ v', w.cell? ⟨b, k + o, none⟩ = some v' ∧ VR φ v v' := by
  obtain ⟨t, c, m, fl, hb, hlt, hc⟩ := load1_row e
  obtain ⟨cs, fr, ho, hr, _⟩ := s.row hb hp
  obtain ⟨v', a, b'⟩ := hr.cell o v hlt hc
  exact ⟨v', cell_of (_k := k) ho a, b'⟩
theorem rel_list {c : PT AV} {k m : Nat} {cs : Array Value} (hr : CR φ c m cs k) : ∀ (n o : Nat) (l : List AV), getN c o n = some l → o + n ≤ m →
    ∃ l', l'.length = n ∧ VRs φ l l' ∧ ∀ j v, l'[j]? = some v → cs[k + o + j]? = some v
  | 0, o, l, h, _ => by injection h with h; subst h; exact ⟨[], rfl, .nil, fun j v e => by simp at e⟩
  | n + 1, o, l, h, hm => by
    obtain ⟨v, hv, h⟩ := ob_some h
    obtain ⟨l1, hl, h⟩ := ob_some h
    injection h with h; subst h
    obtain ⟨l', a, b, d⟩ := rel_list hr n (o + 1) l1 hl (by omega)
    obtain ⟨v', x, y⟩ := hr.cell o v (by omega) hv
    refine ⟨v' :: l', by simp [a], .cons _ _ _ _ y b, fun j u e => ?_⟩
    cases j with
    | zero => simp at e; subst e; simpa using x
    | succ j => have := d j u (by simpa using e); rw [show k + o + (j + 1) = k + (o + 1) + j by omega]; exact this
theorem loadC_rel (s : Sim N φ h w) {i o n : Nat} {l : List AV} (e : loadC h i o n = some l) {b k : Nat} (hp : φ i = some (b, k)) :
    ∃ l', l'.length = n ∧ VRs φ l l' ∧ w.rangeAt b (k + o) l' := by
  obtain ⟨t, c, m, fl, hb, hle, hc⟩ := loadC_row e
  obtain ⟨cs, fr, ho, hr, _⟩ := s.row hb hp
  obtain ⟨l', a, b', d⟩ := rel_list hr n o l hc hle
  exact ⟨l', a, b', fun j v e => cell_of (_k := k) ho (d j v e)⟩

theorem storeC_row {i o : Nat} {l : List AV} (e : storeC h i o l = some h') : ∃ t c m fl, h.b.get i = some (.cells t c m fl) ∧ o + l.length ≤ m ∧ allOne l = true ∧ fl ≠ 2 ∧ h' = ⟨h.b.put i (.cells t (pt l o c) m fl), h.nx⟩ := by
  obtain ⟨b, hb, e⟩ := ob_some e
  cases b with
  | cells t c m fl =>
    obtain ⟨h1, e⟩ := iff_some e
    obtain ⟨h2, e⟩ := iff_some e
    obtain ⟨h3, e⟩ := iff_some' e
    injection e with e
    exact ⟨t, c, m, fl, hb, Nat.le_of_ble_eq_true h1, h2, fun he => by subst he; exact absurd h3 (by simp), e.symm⟩
  | _ => exact absurd e (by simp)

/-- A block of the heap is another one, of the same place. -/
theorem Sim.upd (s : Sim N φ h w) {i : Nat} {b0 b1 : Blk} (hb : h.b.get i = some b0) (hro : ro b0 = false) {r k : Nat} (hp : φ i = some (r, k)) {w' : World} {o : Obj}
    (ho : w'.heap[r]? = some o) (hr : BR φ b1 o k) (hoth : ∀ j, j ≠ r → w'.heap[j]? = w.heap[j]?) (hs : w'.heap.size = w.heap.size) (hm : ∀ cs t fr, o = .cells cs t fr → k + φ.m i = cs.size) : Sim N φ ⟨h.b.put i b1, h.nx⟩ w' := by
  have hi : i < 5000000 := Nat.lt_of_lt_of_le (s.lt hb) s.low
  · refine ⟨?_, ?_, s.fresh, ?_, s.glob, s.big, s.low, by rw [hs]; exact s.size, ?_, s.res, ?_⟩
    · intro j c hc
      rw [put_get _ _ _ _ hi] at hc
      by_cases hj : j = i
      · subst hj; rw [if_pos rfl] at hc; injection hc with hc; subst hc
        exact ⟨r, k, o, hp, ho, hr⟩
      · rw [if_neg hj] at hc
        obtain ⟨r', k', o', e1, e2, e3⟩ := s.blk j c hc
        have hne : r' ≠ r := by intro e; subst e; exact hj (s.inj j i c b0 r' k' k hc hb e1 hp)
        exact ⟨r', k', o', e1, by rw [hoth _ hne]; exact e2, e3⟩
    · intro i' j b c r' k1 k2 h1 h2 e1 e2
      rw [put_get _ _ _ _ hi] at h1 h2
      have a1 : ∃ b, h.b.get i' = some b := by by_cases e : i' = i; · subst e; exact ⟨_, hb⟩
                                               · rw [if_neg e] at h1; exact ⟨_, h1⟩
      have a2 : ∃ b, h.b.get j = some b := by by_cases e : j = i; · subst e; exact ⟨_, hb⟩
                                              · rw [if_neg e] at h2; exact ⟨_, h2⟩
      obtain ⟨x, hx⟩ := a1
      obtain ⟨y, hy⟩ := a2
      exact s.inj i' j x y r' k1 k2 hx hy e1 e2
    · intro j c r' k' hc hro' e
      rw [put_get _ _ _ _ hi] at hc
      by_cases hj : j = i
      · subst hj; exact s.own j b0 r' k' hb hro e
      · rw [if_neg hj] at hc; exact s.own j c r' k' hc hro' e
    · intro j c r' k' hc e
      rw [put_get _ _ _ _ hi] at hc
      by_cases hj : j = i
      · subst hj; exact s.hid j b0 r' k' hb e
      · rw [if_neg hj] at hc; exact s.hid j c r' k' hc e
    · intro j c r' k' cs t fr hc e ho'
      rw [put_get _ _ _ _ hi] at hc
      by_cases hj : j = i
      · subst hj
        rw [hp] at e; injection e with e; injection e with a1 a2
        subst a1 a2
        rw [ho] at ho'; injection ho' with ho'
        exact hm cs t fr ho'
      · rw [if_neg hj] at hc
        have hne : r' ≠ r := by intro e2; subst e2; exact hj (s.inj j i c b0 r' k' k hc hb e hp)
        rw [hoth _ hne] at ho'
        exact s.rm j c r' k' cs t fr hc e ho'

/-- A block of the heap is forgotten. -/
theorem Sim.drop (s : Sim N φ h w) {i : Nat} {b0 : Blk} (hb : h.b.get i = some b0) : Sim N φ ⟨h.b.del i, h.nx⟩ w := by
  have hi : i < 5000000 := Nat.lt_of_lt_of_le (s.lt hb) s.low
  have old : ∀ j c, (h.b.del i).get j = some c → h.b.get j = some c := by
    intro j c hc
    rw [del_get _ _ _ hi] at hc
    by_cases hj : j = i
    · rw [if_pos hj] at hc; exact absurd hc (by simp)
    · rw [if_neg hj] at hc; exact hc
  exact ⟨fun j c hc => s.blk j c (old j c hc), fun a b c d r k k' h1 h2 => s.inj a b c d r k k' (old _ _ h1) (old _ _ h2), s.fresh, fun j c r k hc => s.own j c r k (old j c hc), s.glob, s.big, s.low, s.size, fun j c r k hc => s.hid j c r k (old j c hc), s.res, fun j c r k cs t fr hc => s.rm j c r k cs t fr (old j c hc)⟩

/-- A store into a row. -/
theorem storeC_rel (s : Sim N φ h w) {i o : Nat} {l : List AV} {l' : List Value} (e : storeC h i o l = some h') (hl : VRs φ l l') {b k : Nat} (hp : φ i = some (b, k)) :
    Sim N φ h' (w.setCells b (k + o) l') ∧ Below N w (w.setCells b (k + o) l') ∧ w.there b (k + o) l'.length ∧ (∀ v ∈ l', v.oneCell' = true) := by
  obtain ⟨t, c, m, fl, hb, hle, h1, hfl, rfl⟩ := storeC_row e
  obtain ⟨cs, fr, ho, hr, hx, hf, hn⟩ := s.row hb hp
  have hlen : l'.length = l.length := hl.length
  have hro : ro (.cells t c m fl) = false := by
    unfold ro; split
    · rename_i h2; injection h2 with _ _ _ h2; exact absurd h2 hfl
    · rfl
  have hN : ¬ N.o b := s.own i _ b k hb hro hp
  have hbd := hr.bd
  refine ⟨?_, below_setCells' hN l' _ (Below.refl N w), ?_, allOne_cells hl h1⟩
  · refine s.upd hb hro hp (heap_setCells l' (k + o) w b cs t fr ho) ?_ (fun j hj => heap_setCells_ne l' _ w b j hj) (size_setCells' l' _ w b) (fun cs' t' fr' e => by injection e with e; rw [← e, stc_size]; exact s.rm i _ b k cs t fr hb hp ho)
    refine .cells t _ m fl _ fr k ⟨by rw [stc_size]; exact hr.len, hr.bd, ?_⟩ (by rw [stc_size]; exact hx) hf (by rw [stc_size]; exact hn)
    intro j v hj hv
    rw [pt_get _ _ _ _ (by omega)] at hv
    have hlen2 := hr.len
    by_cases hin : o ≤ j ∧ j < o + l.length
    · rw [if_pos hin] at hv
      obtain ⟨v', a, d⟩ := hl.get hv
      refine ⟨v', ?_, d⟩
      have := stc_in l' cs (k + o) (j - o) (by omega) (by omega)
      rw [show k + o + (j - o) = k + j by omega] at this
      rw [this]; exact a
    · rw [if_neg hin] at hv
      obtain ⟨v', a, d⟩ := hr.cell j v hj hv
      exact ⟨v', by rw [stc_out _ _ _ _ (by omega)]; exact a, d⟩
  · intro j hj
    have hlen2 := hr.len
    have hlt : k + o + j < cs.size := by omega
    refine ⟨by rw [cell_of (_k := k) ho (Array.getElem?_eq_getElem hlt)]; rfl, ?_⟩
    simp only [World.frozen?, ho]
    have := hn _ hlt
    simp; omega

theorem newRow_some {t : TypeId} {l : List AV} {fl i : Nat} (e : newRow h t l fl = some (i, h')) : allOne l = true ∧ l.length ≤ 1000000 ∧ newB h (.cells t (pt l 0 .e) l.length fl) = some (i, h') := by
  obtain ⟨a, e⟩ := iff_some e
  obtain ⟨b, e⟩ := iff_some e
  exact ⟨b, Nat.le_of_ble_eq_true a, e⟩
/-- A new row: more cells may lie behind it, if its mark tells so. -/
theorem newRow_rel (s : Sim N φ h w) {t : TypeId} {l : List AV} {fl i : Nat} (e : newRow h t l fl = some (i, h')) {cs : Array Value} {l' : List Value} (hl : VRs φ l l') {fr : Nat × Nat}
    (hcs : ∀ (j : Nat) (v : Value), l'[j]? = some v → cs[j]? = some v) (hsz : l'.length ≤ cs.size) (hx : fl = 0 ∨ fl = 2 → cs.size = l'.length) (hf : fl ≠ 3 → fr = (0, 0)) (hn : ∀ j, j < cs.size → ¬ (fr.1 ≤ j ∧ j < fr.2)) :
    ∃ ψ, Le φ ψ ∧ ψ i = some (w.heap.size, 0) ∧ Sim N ψ h' (w.alloc (.cells cs t fr)) ∧ Below N w (w.alloc (.cells cs t fr)) := by
  obtain ⟨h1, h2, e⟩ := newRow_some e
  have hlen : l'.length = l.length := hl.length
  have hi := (newB_some e).1
  have hle : Le φ (add φ i (w.heap.size, 0) cs.size) := by rw [hi]; exact add_le (s.fresh _ (Nat.le_refl _))
  obtain ⟨a, b, c⟩ := s.new e (o := .cells cs t fr) (.cells t _ _ fl cs fr 0 ⟨by omega, h2, by
    intro j v hj hv
    rw [pt_get _ _ _ _ (by omega), if_pos ⟨Nat.zero_le _, by omega⟩] at hv
    obtain ⟨v', x, y⟩ := hl.get hv
    exact ⟨v', by rw [Nat.zero_add]; exact hcs j v' (by simpa using x), y.mono hle⟩⟩ (fun h => ⟨rfl, by rw [hx h, hlen]⟩) hf hn) (fun _ _ _ e => by injection e with e; rw [e])
  exact ⟨_, b, add_at, a, c⟩
end Go.Ev

/- The evaluator's operations that read or only reckon are those of the model. -/
namespace Go.Ev
open Go.RowKit

/-- The tables that the evaluator is given are the program's. -/
structure CtxOk (C : Ctx) (P : Program) : Prop where
  types : ∀ t i, C.tt.get t = some i → P.info? t = some i
  funcs : ∀ f fn, C.ft.get f = some fn → P.funcs[f]? = some fn
  eqs : ∀ t, C.eqs.any (Nat.beq t) = true → P.stoodInHeld t = false ∧ P.eqGuardType P.depth t = false
  lies : ∀ x ∈ C.lies, liesAt P P.depth x.1 x.2.1 x.2.2.1 x.2.2.2 1 = true
  plain : ∀ f fn, C.ft.get f = some fn → fn.name ≠ "runtime.NumGoroutine"

section
variable {C : Ctx} {P : Program} {N : Kp} {φ : Pl} {h h' : H} {w : World}

theorem siz_ok (K : CtxOk C P) {t n : Nat} (e : siz C t = some n) : ∃ i, P.info? t = some i ∧ i.size = n := by
  obtain ⟨i, hi, e⟩ := ob_some e
  injection e with e
  exact ⟨i, K.types t i hi, e⟩
theorem byt_ok (K : CtxOk C P) {t n : Nat} (e : byt C t = some n) : ∃ i, P.info? t = some i ∧ i.bytes = n := by
  obtain ⟨i, hi, e⟩ := ob_some e
  injection e with e
  exact ⟨i, K.types t i hi, e⟩
theorem und_ok (K : CtxOk C P) {t : Nat} {d : TypeDesc} (e : und C t = some d) : P.underlying t = some d := by
  obtain ⟨i, hi, e⟩ := ob_some e
  have h1 := K.types t i hi
  unfold Program.underlying
  rw [h1]
  obtain ⟨desc, a2, a3, a4, a5, a6, a7, a8, a9, a10⟩ := i
  cases desc with
  | named s u =>
    obtain ⟨j, hj, e⟩ := ob_some e
    injection e with e
    simp [K.types u j hj, e]
  | _ => simpa using e
theorem run_siz (K : CtxOk C P) {t n : Nat} (e : siz C t = some n) (w : World) : (sizeOf t).run P w = .ok n w := by
  obtain ⟨i, hi, rfl⟩ := siz_ok K e
  simp [sizeOf, typeInfo, hi]
theorem run_und (K : CtxOk C P) {t : Nat} {d : TypeDesc} (e : und C t = some d) (w : World) : (underlying t).run P w = .ok d w := run_underlying (und_ok K e) w
theorem run_isAgg (K : CtxOk C P) {t : Nat} {d : TypeDesc} (e : und C t = some d) (w : World) : (Go.isAgg t).run P w = .ok (isAggK d) w := by
  unfold Go.isAgg
  rw [Sem.run_bind, run_und K e]
  cases d <;> rfl
theorem run_zer (K : CtxOk C P) {t : Nat} {z : AV} (e : zer C t = some z) (w : World) : ∃ v, (zeroValue t).run P w = .ok v w ∧ ∀ φ, VR φ z v := by
  unfold zer at e
  split at e
  · rename_i i hi
    split at e
    · rename_i v hv
      exact ⟨v, by simp [zeroValue, typeInfo, K.types t i hi, hv], fun φ => ofV_rel e⟩
    · exact absurd e (by simp)
  · exact absurd e (by simp)

/-! Operands -/
theorem opnd_rel (s : Sim N φ h w) {T : PT AV} {a : Act} (ht : TR φ T a.tmps) {x : Operand} {v : AV} (e : opnd T x = some v) : VR φ v (a.eval x) := by
  cases x with
  | tmp t =>
    obtain ⟨v', a1, a2⟩ := ht t v e
    show VR φ v (a.tmps.getD t undef)
    rw [Array.getD_eq_getD_getElem?, a1]; exact a2
  | const c => exact ofV_rel (v := c) e
  | global g =>
    obtain ⟨hg, e'⟩ := iff_some e
    injection e' with e'; subst e'
    exact .ptr g 0 g 0 (s.glob g (by simpa [Nat.blt_eq] using hg))
  | func f =>
    have e' : some (AV.fn (.func f) [] []) = some v := e
    injection e' with e'; subst e'
    exact .fn _ _ _ _ _ _ (.func f) .nil .nil
theorem opnds_rel (s : Sim N φ h w) {T : PT AV} {a : Act} (ht : TR φ T a.tmps) : ∀ {l : List Operand} {vs : List AV}, opnds T l = some vs → VRs φ vs (l.map a.eval)
  | [], vs, e => by
    have e' : some ([] : List AV) = some vs := e
    injection e' with e'; subst e'; exact .nil
  | x :: l, vs, e => by
    obtain ⟨y, hy, e⟩ := ob_some e
    obtain ⟨r, hr, e⟩ := ob_some e
    injection e with e; subst e
    exact .cons _ _ _ _ (opnd_rel s ht hy) (opnds_rel s ht hr)

/-! What the values are -/
theorem asPtr_some {x : AV} {p : Nat × Nat} (e : asPtr x = some p) : x = .ptr p.1 p.2 := by
  cases x with
  | ptr i o => injection e with e; subst e; rfl
  | _ => exact absurd e (by simp [asPtr])
theorem asNat_some {x : AV} {n : Nat} (e : asNat x = some n) : ∃ k, x = .int k (.ofNat n) := by
  cases x with
  | int k m =>
    cases m with
    | ofNat m =>
      have e' : some m = some n := e
      injection e' with e'; subst e'; exact ⟨k, rfl⟩
    | negSucc m => exact absurd e (by simp [asNat, nat?])
  | _ => exact absurd e (by simp [asNat])

/-! Loads -/
theorem load_ok (K : CtxOk C P) (s : Sim N φ h w) {t : TypeId} {x v : AV} {x' : Value} (hx : VR φ x x') (e : loadA C h t x = some v) : ∃ v', (Instr.loadAt t x').run P w = .ok v' w ∧ VR φ v v' := by
  obtain ⟨p, hp, e⟩ := ob_some e
  obtain ⟨g, hg, e⟩ := ob_some e
  have hx2 := asPtr_some hp
  subst hx2
  obtain ⟨d, hd, hg⟩ := ob_some hg
  obtain ⟨n, hn, hg⟩ := ob_some hg
  injection hg with hg; subst hg
  cases hx with
  | ptr _ _ b k hb =>
    simp only [Instr.loadAt, Instr.sureAddr, Sem.run_bind, Sem.run_pure, Result.andThen_ok, loadVar, run_isAgg K hd]
    cases ha : isAggK d with
    | true =>
      simp only [ha] at e
      rw [iff_true] at e
      obtain ⟨l, hl, e⟩ := ob_some e
      injection e with e; subst e
      obtain ⟨l', h1, h2, h3⟩ := loadC_rel s hl hb
      have := run_loadCells_list (P := P) w ⟨b, k + p.2, none⟩ l' (fun j v hv => by rw [Addr.add_mid]; exact h3 j v hv)
      rw [h1] at this
      simp only [if_true, Sem.run_bind, run_siz K hn, Result.andThen_ok, this, Sem.run_pure]
      exact ⟨_, rfl, .agg _ _ (by simpa using h2)⟩
    | false =>
      simp only [ha] at e
      rw [iff_false] at e
      obtain ⟨v', h1, h2⟩ := load1_rel s e hb
      simp only [Bool.false_eq_true, if_false, run_load, h1]
      exact ⟨v', rfl, h2⟩

/-! Stores -/
theorem store_ok (K : CtxOk C P) (s : Sim N φ h w) {t : TypeId} {x v : AV} {x' v' : Value} (hx : VR φ x x') (hv : VR φ v v') (e : storeA C h t x v = some h') :
    ∃ w', (Instr.storeAt t x' v').run P w = .ok () w' ∧ Sim N φ h' w' ∧ Below N w w' := by
  obtain ⟨p, hp, e1⟩ := ob_some e
  clear e
  obtain ⟨n, hn, e1⟩ := ob_some e1
  obtain ⟨hl, e1⟩ := iff_some e1
  have hx2 := asPtr_some hp
  subst hx2
  cases hx with
  | ptr _ _ b k hb =>
    have hr := cells_rel hv
    obtain ⟨a1, a2, a3, a4⟩ := storeC_rel s e1 hr hb
    have hlen : v'.cells.size = n := by
      have := hr.length
      have h2 := Nat.eq_of_beq_eq_true hl
      simp at this; omega
    have := run_storeCells_cells (P := P) b (k + p.2) v'.cells.toList 0 w (fun j hj => by simpa using (a3 j hj).1) (fun j hj => by simpa using (a3 j hj).2) a4
    simp only [Nat.add_zero] at this
    refine ⟨_, ?_, a1, a2⟩
    simp only [Instr.storeAt, Instr.sureAddr, Sem.run_bind, Sem.run_pure, Result.andThen_ok, storeVar, run_siz K hn, hlen, ne_eq, not_true, if_false, this]

/-! Places -/
theorem fldO_ok (K : CtxOk C P) {t f o : Nat} (e : fldO C t f = some o) : ∃ fs fd n, P.underlying t = some (.struct fs) ∧ fs[f]? = some fd ∧ siz C fd.type = some n ∧ n ≠ 0 ∧ fd.offset = o := by
  unfold fldO at e
  split at e
  · rename_i fs hfs
    split at e
    · rename_i fd hfd
      split at e
      · rename_i n hn
        cases hb : Nat.beq n 0 with
        | true => rw [hb] at e; exact absurd e (by simp)
        | false =>
          rw [hb] at e
          have e' : some fd.offset = some o := e
          injection e' with e'
          exact ⟨fs, fd, n, und_ok K hfs, by simpa using hfd, hn, fun h0 => by subst h0; exact absurd hb (by simp), e'⟩
      · exact absurd e (by simp)
    · exact absurd e (by simp)
  · exact absurd e (by simp)
theorem field_ok (K : CtxOk C P) {t f : Nat} {x v : AV} {x' : Value} (hx : VR φ x x') (e : fieldPl C t x f = some v) : ∃ v', (Instr.fieldAt t x' f).run P w = .ok v' w ∧ VR φ v v' := by
  obtain ⟨p, hp, e⟩ := ob_some e
  obtain ⟨o, ho, e⟩ := ob_some e
  injection e with e; subst e
  have hx2 := asPtr_some hp
  subst hx2
  obtain ⟨fs, fd, n, h1, h2, h3, h4, rfl⟩ := fldO_ok K ho
  cases hx with
  | ptr _ _ b k hb =>
    refine ⟨.pointer (some ⟨b, k + (p.2 + fd.offset), none⟩), ?_, .ptr _ _ b k hb⟩
    simp only [Instr.fieldAt, Sem.run_bind, run_underlying h1, Result.andThen_ok, h2, Instr.sureAddr, Sem.run_pure, fieldPlace, run_siz K h3, h4, if_false]
    rw [Addr.add_mid, Nat.add_assoc]
end
end Go.Ev
