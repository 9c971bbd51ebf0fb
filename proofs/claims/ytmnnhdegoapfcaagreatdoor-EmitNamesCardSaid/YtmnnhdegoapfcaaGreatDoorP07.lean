/- Layer 16, plain: what the walk of Check leans on. -/
import Derived.Test.YtmnnhdegoapfcaaGreatDoorP06
import Derived.Test.YtmnnhdegoapfcaaGreatDoorP01
import Derived.Test.YtmnnhdegoapfcaaGreatDoorP04
import Derived.Test.YtmnnhdegoapfcaaGreatDoorCards
import Derived.Test.YtmnnhdegoapfcaaGreatDoorTie
import Derived.Lay
import Derived.Shelf.Vars
import Derived.MakeChecks
import Derived.Lib.LaidTab
import Derived.Test.YtmnnhdegoapfcaaGreatDoorP03
import Derived.Shelf.Strings.Builder1
import Derived.Shelf.Small.Strs
import Derived.Test.YtmnnhdegoapfcaaGreatDoorProg
import Derived.Lib.SmallJoins
import Derived.Test.YtmnnhdegoapfcaaGreatDoorP02
import Derived.Lib.QuietBelow
import Derived.WalkMore
import Derived.Lib.AppendStr
import Derived.Lib.OwnKind
namespace Go.Proofs.YtmnnhdegoapfcaaGreatDoor
open Go.RowKit Go.El
def insCells (i : Ins) : List Value := [.int .i64 i.op, .string i.s, .int .i64 i.n, .int .i64 i.v, .int .i64 i.a]
theorem insCells_len (i : Ins) : (insCells i).length = 5 := rfl
theorem src_ins {w : World} {A : Option Addr} {C : List Ins} (h : El.Src w A C.length 5 (flat insCells C)) {k : Nat} (hk : k < C.length) : ∃ b off, A = some ⟨b, off, none⟩ ∧ w.cell? ⟨b, off + k * 5, none⟩ = some (.int .i64 C[k].op) ∧ w.cell? ⟨b, off + k * 5 + 1, none⟩ = some (.string C[k].s) ∧ w.cell? ⟨b, off + k * 5 + 2, none⟩ = some (.int .i64 C[k].n) ∧ w.cell? ⟨b, off + k * 5 + 3, none⟩ = some (.int .i64 C[k].v) ∧ w.cell? ⟨b, off + k * 5 + 4, none⟩ = some (.int .i64 C[k].a) := by
 obtain ⟨b, off, rfl, hc⟩ := h.form (by omega) (by omega)
 have ho : C[k]? = some C[k] := List.getElem?_eq_getElem hk
 have e (j : Nat) (hj : j < 5) (u : Value) (hu : (insCells C[k])[j]? = some u) : w.cell? ⟨b, off + (k * 5 + j), none⟩ = some u := hc _ u (by rw [flat_at insCells_len C k j _ ho hj]; exact hu)
 refine ⟨b, off, rfl, e 0 (by omega) _ rfl, ?_, ?_, ?_, ?_⟩
 ·have := e 1 (by omega) _ rfl; rwa [← Nat.add_assoc] at this
 ·have := e 2 (by omega) _ rfl; rwa [← Nat.add_assoc] at this
 ·have := e 3 (by omega) _ rfl; rwa [← Nat.add_assoc] at this
 ·have := e 4 (by omega) _ rfl; rwa [← Nat.add_assoc] at this
theorem start_cells : Tryz.zeroCells102.setIfInBounds 321 (.int .i64 (-1)) = (stList (InSt.start 0)).toArray := by kernel_rfl
theorem start_lx (k : Nat) : (InSt.start k).x.length = 256 := by simp [InSt.start]
theorem start_ly (k : Nat) : (InSt.start k).y.length = 65 := by simp [InSt.start]
theorem start_set (k : Nat) (hk : k ≤ 16) : ({ InSt.start k with x := (InSt.start k).x.set (k + 1) true } : InSt) = InSt.start (k + 1) := by
 have e : (InSt.start k).x.set (k + 1) true = (InSt.start (k + 1)).x := by
  apply List.ext_getElem
  ·simp [InSt.start]
  ·intro j h1 h2
   simp only [InSt.start, List.getElem_set, List.getElem_map, List.getElem_range]
   by_cases c : k + 1 = j
   ·rw [if_pos c]
    exact (decide_eq_true (by omega)).symm
   ·rw [if_neg c]
    exact decide_eq_decide.2 (by omega)
 rw [e]
 rfl
theorem start_ok (k : Nat) : StOk (InSt.start k) := ⟨by simp [InSt.start], by simp [InSt.start], by simp [InSt.start], by simp [InSt.start], 0, rfl, by omega⟩
theorem may_ok {i : Ins} (h : insMay i = true) : InsOk i ∧ (i.op = 5 ∨ i.op = 14 → 1 ≤ i.n ∧ i.n ≤ 16) := by
 unfold insMay at h
 split at h
 ·cases h
 ·rename_i hn
  have hn' : nameF i.op ≠ [] := fun e => hn (.inl e)
  obtain ⟨h0, h3⟩ := nameF_in hn'
  have h1 : i.op ≠ 0 := by
   intro e
   rw [e] at hn'
   exact hn' rfl
  obtain ⟨op, sn, n, v, a⟩ := i
  dsimp only at h h0 h3 h1 hn' ⊢
  clear hn hn'
  obtain ⟨k, rfl⟩ : ∃ k : Nat, op = k := ⟨op.toNat, by omega⟩
  simp only [Bool.and_eq_true] at h
  obtain ⟨⟨⟨⟨hv, _⟩, ha⟩, hn⟩, _⟩ := h
  have hvv : -64 ≤ v ∧ v ≤ 255 := by
   unfold withinF at hv
   split at hv
   ·simpa using hv
   ·simp at hv; omega
  have T1 : ∀ o ∈ List.range 31, 1 ≤ o → (o ≤ 5 ∨ 10 ≤ o ∧ o ≤ 14) → hasF o 4 = false ∧ hasF o 2 = true := by decide +kernel
  have T2 : ∀ o ∈ List.range 31, 1 ≤ o → (o = 21 ∨ o = 23) → hasF o 4 = true := by decide +kernel
  have T3 : ∀ o ∈ List.range 31, 1 ≤ o → (o = 21 ∨ o = 22) → hasF o 32 = false ∧ hasF o 64 = true := by decide +kernel
  have T4 : ∀ o ∈ List.range 31, 1 ≤ o → (o = 5 ∨ o = 14) → hasF o 32 = true := by decide +kernel
  refine ⟨⟨by show (1 : Int) ≤ k; omega, by show (k : Int) ≤ 30; omega, hvv.1, hvv.2, ?_, ?_, ?_⟩, ?_⟩
  ·intro hc
   obtain ⟨t1, t2⟩ := T1 k (by simpa using (by omega : k < 31)) (by omega) (by dsimp only at hc; omega)
   rw [t1, t2] at ha
   simpa [withinF] using ha
  ·intro hc
   obtain ⟨t1, t2⟩ := T3 k (by simpa using (by omega : k < 31)) (by omega) (by dsimp only at hc; omega)
   unfold numberF at hn
   simp only [t1, t2] at hn
   simpa [withinF] using hn
  ·intro hc
   have t1 := T2 k (by simpa using (by omega : k < 31)) (by omega) (by dsimp only at hc; omega)
   rw [t1] at ha
   simpa [withinF] using ha
  ·intro hc
   have t1 := T4 k (by simpa using (by omega : k < 31)) (by omega) (by omega)
   unfold numberF at hn
   simp only [t1] at hn
   simpa [withinF] using hn
theorem learn_ok {s : InSt} (h : StOk s) (v : Int) : StOk (s.learn v).2 := by
 unfold InSt.learn
 split
 ·exact ⟨h.u0, h.u1, h.s0, h.s1, h.p⟩
 ·split
  ·exact h
  ·exact ⟨h.u0, h.u1, h.s0, h.s1, h.p⟩
theorem rowV_ok {s : InSt} (h : StOk s) (i : Ins) : StOk (s.rowV i).2 := by
 unfold InSt.rowV
 split
 ·exact learn_ok h _
 ·split <;> exact h
theorem step_ok {s : InSt} (h : StOk s) {i : Ins} (hi : insMay i = true) : StOk (s.step i).2 := by
 obtain ⟨hk, hn⟩ := may_ok hi
 unfold InSt.step
 split
 ·exact h
 split
 ·unfold InSt.rowU
  split
  ·exact h
  ·exact rowV_ok (s := { s with uni := s.uni - 1 }) ⟨by have := h.u0; show 0 ≤ s.uni - 1; omega, by have := h.u1; show s.uni - 1 ≤ _; omega, h.s0, h.s1, h.p⟩ i
 split
 ·unfold InSt.rowS
  split
  ·exact h
  ·have r := rowV_ok (s := { s with set := s.set - 1 }) ⟨h.u0, h.u1, by have := h.s0; show 0 ≤ s.set - 1; omega, by have := h.s1; show s.set - 1 ≤ _; omega, h.p⟩ i
   dsimp only
   split
   ·exact ⟨r.u0, r.u1, r.s0, r.s1, r.p⟩
   ·exact r
 split
 ·exact h
 rename_i c1 c2 c3 c4
 split
 ·rename_i c5
  unfold InSt.get
  dsimp only
  split
  ·split
   ·exact learn_ok h _
   ·exact h
  ·split
   ·exact h
   ·split
    ·rename_i c6
     have := hn (.inl c6)
     exact ⟨by show 0 ≤ i.n; omega, by show i.n ≤ _; omega, h.s0, h.s1, h.p⟩
    ·exact h
 rename_i c5
 split
 ·rename_i c6
  unfold InSt.store
  split
  ·rename_i c7
   have := hn (.inr c7)
   have hb := hk.a (.inr ⟨by omega, by omega⟩)
   exact ⟨h.u0, h.u1, by show 0 ≤ i.n; omega, by show i.n ≤ _; omega, i.a.toNat, by show i.a = _; omega, by omega⟩
  ·dsimp only
   split
   ·have r := learn_ok h i.v
    exact ⟨r.u0, r.u1, r.s0, r.s1, r.p⟩
   ·split <;> exact ⟨h.u0, h.u1, h.s0, h.s1, h.p⟩
 split
 ·unfold InSt.env
  split <;> exact ⟨h.u0, h.u1, h.s0, h.s1, h.p⟩
 split
 ·split
  ·exact learn_ok h _
  ·exact h
 split
 ·exact learn_ok h _
 split
 ·exact h
 split
 ·exact h
 unfold InSt.flow InSt.call InSt.end_
 repeat' split
 all_goals exact ⟨h.u0, h.u1, h.s0, h.s1, h.p⟩
theorem run_split : ∀ {l : List Ins} {k : Nat} {s st : InSt}, k ≤ l.length → s.run (l.take k) = some st → s.run l = st.run (l.drop k) ∧ runAt s l = k + runAt st (l.drop k)
 | l, 0, s, st, _, h => by
  simp only [List.take_zero, InSt.run] at h
  injection h with h
  subst h
  simp
 | [], k + 1, s, st, hk, h => by simp at hk
 | i :: r, k + 1, s, st, hk, h => by
  simp only [List.take_succ_cons, InSt.run] at h
  split at h
  ·rename_i hi
   obtain ⟨h1, h2⟩ := run_split (l := r) (k := k) (by simpa using hk) h
   simp only [InSt.run, runAt, hi, if_true, List.drop_succ_cons]
   exact ⟨h1, by omega⟩
  ·cases h
theorem run_snoc {l : List Ins} {k : Nat} {s st : InSt} (hk : k < l.length) (h : s.run (l.take k) = some st) (hm : insMay l[k] = true) (hs : (st.step l[k]).1 = true) : s.run (l.take (k + 1)) = some (st.step l[k]).2 := by
 obtain ⟨h1, _⟩ := run_split (l := l.take (k + 1)) (k := k) (s := s) (st := st) (by simp; omega) (by rw [List.take_take]; rwa [show min k (k + 1) = k by omega])
 rw [h1, List.take_succ_eq_append_getElem hk, List.drop_append_of_le_length (by simp; omega)]
 have e : List.drop k (List.take k l) = [] := List.drop_eq_nil_of_le (by simp; omega)
 rw [e]
 simp only [List.nil_append, InSt.run, hm, hs, Bool.and_self, if_true]
theorem chk_at {l : List Ins} {arity k : Nat} {st : InSt} (ha : arity ≤ 16) (hl : l.length ≤ 4096) (hk : k < l.length) (h : (InSt.start arity).run (l.take k) = some st) (hb : (insMay l[k] && (st.step l[k]).1) = false) : chkIns l arity = ((k : Int), 160) := by
 obtain ⟨h1, h2⟩ := run_split (Nat.le_of_lt hk) h
 have e : l.drop k = l[k] :: l.drop (k + 1) := List.drop_eq_getElem_cons hk
 rw [e] at h1 h2
 simp only [InSt.run, runAt, hb, Bool.false_eq_true, if_false] at h1 h2
 unfold chkIns
 rw [if_neg (by omega), if_neg (by omega), Int.toNat_natCast, h1, h2]
 rfl
theorem chk_end {l : List Ins} {arity : Nat} {st : InSt} (ha : arity ≤ 16) (hl : l.length ≤ 4096) (h : (InSt.start arity).run l = some st) : chkIns l arity = ((l.length : Int), if st.ended then 0 else 160) := by
 unfold chkIns
 rw [if_neg (by omega), if_neg (by omega), Int.toNat_natCast, h]
end Go.Proofs.YtmnnhdegoapfcaaGreatDoor

/- What the rows of this seat have in common: instructions that come in; the listed variables; a start. -/
namespace Go.Proofs.YtmnnhdegoapfcaaGreatDoor
open Go.RowKit Go.El Go.ChangeShapes Go.WideShapes Go.ChangeAt Go.Deep Go.Joins
theorem own : ownKnob Tryz.prog.godebug = none := by kernel_rfl
theorem laidOut : laidOutB Tryz.prog = true := by kernel_rfl
section
variable {H : Type} {enc : TypeId × Value → H} {P : Program} {w : World} {base : Nat} {spare : Nat → Bool} {held : Bool}
variable {tt ti ts : TypeId}
theorem cells_of_pairs {W : World} {sp : Nat → Bool} {fuel : Nat} {t e : TypeId} {n : Nat} {cs : List Value} {ls : List (List UInt8 × Nat)} {p : List MemPlace} {f0 f1 : Field}
  (ht : P.underlying t = some (.array n e)) (he : P.underlying e = some (.struct #[f0, f1])) (h0 : P.underlying f0.type = some .string) (h1 : P.underlying f1.type = some (.int .i64)) (o0 : f0.offset = 0) (o1 : f1.offset = 1)
  (hce : P.cellsOf e = 2) (hc0 : P.cellsOf f0.type = 1) (hc1 : P.cellsOf f1.type = 1)
  (h : DataW.trod enc P W base sp held fuel t cs = some (.agg (ls.map fun l => .agg [.lit (.string l.1), .lit (.int .i64 l.2)]), p)) (i : Nat) (l : List UInt8 × Nat) (hl : ls[i]? = some l) :
  cs[i * 2]? = some (.string ⟨l.1.toArray⟩) ∧ cs[i * 2 + 1]? = some (.int .i64 l.2) := by
 obtain ⟨xs, m, rfl, hx, hlen, hxl, hat⟩ := DataW.trod_array ht h
 simp only [Prod.mk.injEq, DataW.agg.injEq] at hx
 have hxs : xs.map (·.1) = ls.map fun l => (DataW.agg [.lit (.string l.1), .lit (.int .i64 l.2)] : DataW H) := hx.1.symm
 have hll : ls.length = n := by
  have := congrArg List.length hxs
  simp at this
  omega
 have hi : i < n := by rw [← hll]; exact (List.getElem?_eq_some_iff.1 hl).1
 have h2 := hat i hi
 rw [List.getElem?_eq_getElem (by omega), hce] at h2
 obtain ⟨y0, y1, k, hy, hyl, g0, g1⟩ := trod_struct2 he h2
 rw [o0, hc0] at g0
 rw [o1, hc1] at g1
 rw [hce] at hyl
 have h3 : (xs.map (·.1))[i]? = some (DataW.agg [y0.1, y1.1]) := by
  rw [List.getElem?_map, List.getElem?_eq_getElem (by omega), hy]
  rfl
 rw [hxs, List.getElem?_map, hl] at h3
 simp only [Option.map_some, Option.some.injEq, DataW.agg.injEq, List.cons.injEq, and_true] at h3
 generalize hq : (cs.drop (i * 2)).take 2 = q at *
 match q, hyl with
 | [c0, c1], _ =>
  simp only [List.drop_zero, List.take_succ_cons, List.take_zero, List.drop_succ_cons] at g0 g1
  obtain ⟨s, e0, x0, _⟩ := DataW.trod_string h0 g0
  obtain ⟨z, e1, x1, _⟩ := DataW.trod_int h1 g1
  simp only [List.cons.injEq, and_true] at e0 e1
  rw [x0] at h3
  rw [x1] at h3
  simp only [DataW.lit.injEq, Lit.string.injEq, Lit.int.injEq, true_and] at h3
  obtain ⟨h4, h5⟩ := h3
  have k0 : cs[i * 2]? = some c0 := by
   have := congrArg (·[0]?) hq
   simpa [List.getElem?_take, List.getElem?_drop] using this
  have k1 : cs[i * 2 + 1]? = some c1 := by
   have := congrArg (·[1]?) hq
   simpa [List.getElem?_take, List.getElem?_drop] using this
  refine ⟨by rw [k0, e0, h4], by rw [k1, e1, h5]⟩
end
def laidL : List (String × DataW Unit) := Rows.emitListsRow.laid
def tzTab : List Int := [0, 1, 56, 2, 57, 49, 28, 3, 61, 58, 42, 50, 38, 29, 17, 4, 62, 47, 59, 36, 45, 43, 51, 22, 53, 39, 33, 30, 24, 18, 12, 5, 63, 55, 48, 27, 60, 41, 37, 16, 46, 35, 44, 21, 52, 32, 23, 11, 54, 26, 40, 15, 34, 20, 31, 10, 25, 14, 19, 9, 13, 8, 7, 6]
def tzName : String := (laidL.drop 1).head?.elim "" (·.1)
def p10Name : String := (laidL.drop 2).head?.elim "" (·.1)
def opsName : String := (laidL.drop 3).head?.elim "" (·.1)
theorem tz_list : laidL = (laidL.take 1) ++ (tzName, Lib.tabData .u8 tzTab) :: laidL.drop 2 := by rfl
theorem p10_list : laidL = (laidL.take 2) ++ (p10Name, Lib.tabData .u64 Lib.pow10Tab) :: laidL.drop 3 := by rfl
theorem ops_list : laidL = (laidL.take 3) ++ (opsName, .agg (opTab.map fun l => .agg [.lit (.string l.1), .lit (.int .i64 l.2)])) :: laidL.drop 4 := by rfl
theorem laidVars_app {P : Program} {w : World} : ∀ {a b : List (String × DataW Unit)} {ps : List MemPlace}, DataW.LaidVars P w (a ++ b) ps → ∃ qs, DataW.LaidVars P w b qs
 | [], _, ps, h => ⟨ps, h⟩
 | (_, _) :: _, _, _, ⟨_, _, _, _, _, _, _, _, _, _, h, _⟩ => laidVars_app h
set_option maxRecDepth 100000 in
theorem tz_of_laid {W : World} (h : laidMetH Tryz.prog laidL W) : TzAt W := by
 rw [MakeChecks.laidMetH_plain _ _ _ (by kernel_rfl), tz_list] at h
 obtain ⟨ps, h, _, _⟩ := h
 obtain ⟨qs, h⟩ := laidVars_app h
 obtain ⟨g', t', cs, fuel, p, q, hg', ht', hvar, hd, _, _⟩ := h
 have hg : Tryz.prog.globalNamed tzName = some 6 := by kernel_rfl
 have hty : ((Tryz.prog.globals[6]?).map (·.type)) = some 275 := by kernel_rfl
 obtain rfl := Option.some.inj (hg.symm.trans hg')
 obtain rfl := Option.some.inj (hty.symm.trans ht')
 have hcs := Lib.cells_of_tab Tryz.underlying275 Tryz.underlying5 (by kernel_rfl) (by kernel_rfl) hd
 unfold TzAt
 rw [World.var?_cell hg hvar 15, ← Array.getElem?_toList, hcs]
 rfl
set_option maxRecDepth 100000 in
theorem p10_of_laid {W : World} (h : laidMetH Tryz.prog laidL W) : Lib.TabIs Tryz.prog W pwName .u64 Lib.pow10Tab := by
 rw [MakeChecks.laidMetH_plain _ _ _ (by kernel_rfl), p10_list] at h
 obtain ⟨ps, h, _, _⟩ := h
 obtain ⟨qs, h⟩ := laidVars_app h
 obtain ⟨g', t', cs, fuel, p, q, hg', ht', hvar, hd, _, _⟩ := h
 have hg : Tryz.prog.globalNamed p10Name = some 4 := by kernel_rfl
 have hty : ((Tryz.prog.globals[4]?).map (·.type)) = some 249 := by kernel_rfl
 obtain rfl := Option.some.inj (hg.symm.trans hg')
 obtain rfl := Option.some.inj (hty.symm.trans ht')
 have hcs := Lib.cells_of_tab Tryz.underlying249 Tryz.underlying162 (by kernel_rfl) (by kernel_rfl) hd
 have hnm : p10Name = pwName := by kernel_rfl
 rw [← hnm]
 unfold Lib.TabIs
 rw [hvar]
 congr 1
 exact Array.ext' hcs
set_option maxRecDepth 100000 in
theorem ops_of_laid {W : World} (h : laidMetH Tryz.prog laidL W) : OpTabAt W := by
 rw [MakeChecks.laidMetH_plain _ _ _ (by kernel_rfl), ops_list] at h
 obtain ⟨ps, h, _, _⟩ := h
 obtain ⟨qs, h⟩ := laidVars_app h
 obtain ⟨g', t', cs, fuel, p, q, hg', ht', hvar, hd, _, _⟩ := h
 have hg : Tryz.prog.globalNamed opsName = some 0 := by kernel_rfl
 have hty : ((Tryz.prog.globals[0]?).map (·.type)) = some 110 := by kernel_rfl
 obtain rfl := Option.some.inj (hg.symm.trans hg')
 obtain rfl := Option.some.inj (hty.symm.trans ht')
 intro k hk
 have hl : opTab[k]? = some (opTab.getD k ([], 0)) := by
  rw [List.getD_eq_getElem?_getD, List.getElem?_eq_getElem (by exact hk)]
  rfl
 obtain ⟨h1, h2⟩ := cells_of_pairs Tryz.underlying110 Tryz.underlying109 Tryz.underlying9 Tryz.underlying3 rfl rfl (by kernel_rfl) (by kernel_rfl) (by kernel_rfl) hd k _ hl
 refine ⟨?_, ?_⟩
 ·rw [World.var?_cell hg hvar, ← Array.getElem?_toList]
  exact h1
 ·rw [World.var?_cell hg hvar, ← Array.getElem?_toList]
  exact h2
theorem env_of_laid {W : World} (h : laidMetH Tryz.prog laidL W) (_hs : W.ShapedOpen Tryz.prog) : EnvT W := ⟨ops_of_laid h, tz_of_laid h, p10_of_laid h⟩
noncomputable def laidWorld (os : Os) : World := World.laidAll Tryz.prog os laidL
set_option maxRecDepth 100000 in
theorem laid_met (os : Os) (args : Array Value) : laidMetH Tryz.prog laidL ((laidWorld os).forCall (fun _ _ => 0) ⟨#[], args, []⟩).memory := by
 rw [MakeChecks.laidMetH_plain _ _ _ (by kernel_rfl)]
 exact laidMet_laidAll _ (by kernel_rfl) (by kernel_rfl)
end Go.Proofs.YtmnnhdegoapfcaaGreatDoor

/- Layer 8, the reference: the walk of one, kind by kind of its first byte. -/
namespace Go.Proofs.YtmnnhdegoapfcaaGreatDoor
open Go.RowKit Go.El
theorem ext_box (w : World) (o : Obj) : Ext w (w.alloc o) := (Ext.refl w).alloc o
end Go.Proofs.YtmnnhdegoapfcaaGreatDoor

/- strings.Builder's WriteByte, WriteString at this program (the numbers laid by hand: the kit's own laying stops at a type that no body names). -/
namespace Go.Proofs.YtmnnhdegoapfcaaGreatDoor
open Go.Shelf Go.Proofs Go.RowKit
def Tryz.lays167_ren : Go.Shelf.Ren := ⟨fun | 167 => 112 | 240 => 67 | 276 => 110 | n => n, fun | 0 => 0 | 3 => 3 | 4 => 4 | 5 => 5 | 9 => 9 | 20 => 20 | 37 => 61 | 70 => 60 | 72 => 63 | 75 => 65 | 80 => 69 | 164 => 156 | n => n, fun | n => n⟩
theorem Tryz.lays167 : Go.Proofs.Lays.n167 Tryz.prog Tryz.lays167_ren := {
 mixed := by kernel_rfl
 f167 := Tryz.func112.trans (congrArg some (by kernel_rfl))
 f240 := Tryz.func67.trans (congrArg some (by kernel_rfl))
 f276 := Tryz.func110.trans (congrArg some (by kernel_rfl))
 t0 := Tryz.underlying0
 a0 := Tryz.isAgg0
 z0 := Tryz.sizeOf0
 v0 := Tryz.zeroValue0
 t4 := Tryz.underlying4
 a4 := Tryz.isAgg4
 z4 := Tryz.sizeOf4
 v4 := Tryz.zeroValue4
 t5 := Tryz.underlying5
 a5 := Tryz.isAgg5
 z5 := Tryz.sizeOf5
 v5 := Tryz.zeroValue5
 t9 := Tryz.underlying9
 a9 := Tryz.isAgg9
 z9 := Tryz.sizeOf9
 v9 := Tryz.zeroValue9
 t20 := Tryz.underlying20
 a20 := Tryz.isAgg20
 z20 := Tryz.sizeOf20
 v20 := Tryz.zeroValue20
 t37 := Tryz.underlying61
 a37 := Tryz.isAgg61
 z37 := Tryz.sizeOf61
 v37 := Tryz.zeroValue61
 t70 := Tryz.underlying60
 a70 := Tryz.isAgg60
 z70 := Tryz.sizeOf60
 v70 := Tryz.zeroValue60
 t72 := Tryz.underlying63
 a72 := Tryz.isAgg63
 z72 := Tryz.sizeOf63
 v72 := Tryz.zeroValue63
 t75 := Tryz.underlying65
 a75 := Tryz.isAgg65
 z75 := Tryz.sizeOf65
 v75 := Tryz.zeroValue65
 t164 := Tryz.underlying156
 a164 := Tryz.isAgg156
 z164 := Tryz.sizeOf156
 v164 := Tryz.zeroValue156 }
theorem Tryz.Builder_Extra_167 : Builder.Extra Tryz.prog Tryz.lays167_ren := {
 sizeBuilder := by kernel_rfl
 liesBuilder := by kernel_rfl
 t5 := Tryz.underlying5
 a5 := Tryz.isAgg5
 z5 := Tryz.sizeOf5
 v5 := Tryz.zeroValue5
 infoByte := by kernel_rfl
 cellsByte := by kernel_rfl
 sizeByte := by kernel_rfl
 neB5 := by decide }
def Tryz.lays166_ren : Go.Shelf.Ren := ⟨fun | 166 => 27 | 240 => 67 | 276 => 110 | n => n, fun | 0 => 0 | 3 => 3 | 4 => 4 | 5 => 5 | 9 => 9 | 20 => 20 | 37 => 61 | 70 => 60 | 72 => 63 | 75 => 65 | 80 => 69 | 164 => 156 | n => n, fun | n => n⟩
theorem Tryz.lays166 : Go.Proofs.Lays.n166 Tryz.prog Tryz.lays166_ren := {
 mixed := by kernel_rfl
 f166 := Tryz.func27.trans (congrArg some (by kernel_rfl))
 f240 := Tryz.func67.trans (congrArg some (by kernel_rfl))
 f276 := Tryz.func110.trans (congrArg some (by kernel_rfl))
 t0 := Tryz.underlying0
 a0 := Tryz.isAgg0
 z0 := Tryz.sizeOf0
 v0 := Tryz.zeroValue0
 t3 := Tryz.underlying3
 a3 := Tryz.isAgg3
 z3 := Tryz.sizeOf3
 v3 := Tryz.zeroValue3
 t4 := Tryz.underlying4
 a4 := Tryz.isAgg4
 z4 := Tryz.sizeOf4
 v4 := Tryz.zeroValue4
 t9 := Tryz.underlying9
 a9 := Tryz.isAgg9
 z9 := Tryz.sizeOf9
 v9 := Tryz.zeroValue9
 t20 := Tryz.underlying20
 a20 := Tryz.isAgg20
 z20 := Tryz.sizeOf20
 v20 := Tryz.zeroValue20
 t37 := Tryz.underlying61
 a37 := Tryz.isAgg61
 z37 := Tryz.sizeOf61
 v37 := Tryz.zeroValue61
 t70 := Tryz.underlying60
 a70 := Tryz.isAgg60
 z70 := Tryz.sizeOf60
 v70 := Tryz.zeroValue60
 t72 := Tryz.underlying63
 a72 := Tryz.isAgg63
 z72 := Tryz.sizeOf63
 v72 := Tryz.zeroValue63
 t75 := Tryz.underlying65
 a75 := Tryz.isAgg65
 z75 := Tryz.sizeOf65
 v75 := Tryz.zeroValue65
 t164 := Tryz.underlying156
 a164 := Tryz.isAgg156
 z164 := Tryz.sizeOf156
 v164 := Tryz.zeroValue156 }
theorem Tryz.Builder_Extra_166 : Builder.Extra Tryz.prog Tryz.lays166_ren := {
 sizeBuilder := by kernel_rfl
 liesBuilder := by kernel_rfl
 t5 := Tryz.underlying5
 a5 := Tryz.isAgg5
 z5 := Tryz.sizeOf5
 v5 := Tryz.zeroValue5
 infoByte := by kernel_rfl
 cellsByte := by kernel_rfl
 sizeByte := by kernel_rfl
 neB5 := by decide }
theorem Tryz.Builder_WriteByte (B b : Nat) (bs : List Value) (c : Int) (w : World) (h : Lib.IsBuilder 63 5 B b bs w) (hlen : bs.length + 1 ≤ 140737488355328) (hBw : B ≤ w.heap.size) :
  Calls Tryz.prog 112 #[.pointer (some ⟨b, 0, none⟩), .int .u8 c] w fun e w' => e = .returned .nilIface ∧ (Lib.BuilderAt 63 5 B b (.pointer (some ⟨b, 0, none⟩)) (bs ++ [.int .u8 c]) w' ∧ Below B w w') := Any.Builder_WriteByte Tryz.lays167 Tryz.Builder_Extra_167 B b bs c w h hlen hBw
theorem Tryz.Builder_WriteString (B b : Nat) (bs : List Value) (s : ByteArray) (w : World) (h : Lib.IsBuilder 63 5 B b bs w) (hlen : bs.length + s.size ≤ 140737488355328) (hBw : B ≤ w.heap.size) :
  Calls Tryz.prog 27 #[.pointer (some ⟨b, 0, none⟩), .string s] w fun e w' => e = .returned (.tuple #[.int .i64 s.size, .nilIface]) ∧ (Lib.BuilderAt 63 5 B b (.pointer (some ⟨b, 0, none⟩)) (bs ++ Lib.strCells s) w' ∧ Below B w w') := Any.Builder_WriteString Tryz.lays166 Tryz.Builder_Extra_166 B b bs s w h hlen hBw
def Tryz.lays240_ren : Go.Shelf.Ren := ⟨fun | 240 => 67 | 276 => 110 | n => n, fun | 0 => 0 | 4 => 4 | 5 => 5 | 9 => 9 | 20 => 20 | 37 => 61 | 70 => 60 | 72 => 63 | 75 => 65 | 80 => 69 | 164 => 156 | n => n, fun | n => n⟩
theorem Tryz.lays240 : Go.Proofs.Lays.n240 Tryz.prog Tryz.lays240_ren := {
 mixed := by kernel_rfl
 f240 := Tryz.func67.trans (congrArg some (by kernel_rfl))
 f276 := Tryz.func110.trans (congrArg some (by kernel_rfl))
 t0 := Tryz.underlying0
 a0 := Tryz.isAgg0
 z0 := Tryz.sizeOf0
 v0 := Tryz.zeroValue0
 t4 := Tryz.underlying4
 a4 := Tryz.isAgg4
 z4 := Tryz.sizeOf4
 v4 := Tryz.zeroValue4
 t9 := Tryz.underlying9
 a9 := Tryz.isAgg9
 z9 := Tryz.sizeOf9
 v9 := Tryz.zeroValue9
 t20 := Tryz.underlying20
 a20 := Tryz.isAgg20
 z20 := Tryz.sizeOf20
 v20 := Tryz.zeroValue20
 t70 := Tryz.underlying60
 a70 := Tryz.isAgg60
 z70 := Tryz.sizeOf60
 v70 := Tryz.zeroValue60
 t72 := Tryz.underlying63
 a72 := Tryz.isAgg63
 z72 := Tryz.sizeOf63
 v72 := Tryz.zeroValue63
 t164 := Tryz.underlying156
 a164 := Tryz.isAgg156
 z164 := Tryz.sizeOf156
 v164 := Tryz.zeroValue156 }
theorem Tryz.Builder_X72 : Builder.X72 Tryz.prog Tryz.lays240_ren := {
 sizeBuilder := by kernel_rfl
 liesBuilder := by kernel_rfl }
theorem Tryz.copyCheck_used (b : Nat) (w : World) (h0 : w.cell? ⟨b, 0, none⟩ = some (.pointer (some ⟨b, 0, none⟩))) :
  Calls Tryz.prog 67 #[.pointer (some ⟨b, 0, none⟩)] w fun e w' => e = .returned (.tuple #[]) ∧ w' = w := Any.Builder_copyCheck_used Tryz.lays240 Tryz.Builder_X72 b w h0
end Go.Proofs.YtmnnhdegoapfcaaGreatDoor

/- Layer 8, the program: the walk of sign at bytes that want no hex. -/
namespace Go.Proofs.YtmnnhdegoapfcaaGreatDoor
open Go.RowKit Go.El
def sgnS (c : UInt8) : List UInt8 := if c = 10 then [92, 110] else if c = 9 then [92, 116] else if c = 39 ∨ c = 92 then [92, c] else [c]
def isCtl (c : UInt8) : Bool := (c < 32 && c != 10 && c != 9) || c == 127
theorem str_app (a b : List UInt8) : (strB a) ++ (strB b) = strB (a ++ b) := by
 have h : ((strB a) ++ (strB b)).data.toList = a ++ b := by
  rw [ByteArray.data_append, Array.toList_append, strB_toList, strB_toList]
 rw [← strB_mk ((strB a) ++ (strB b)), h]
set_option maxRecDepth 100000 in
set_option maxHeartbeats 2000000 in
theorem sgn_any (c : UInt8) (w : World) (hc : isCtl c = false) :
  Calls Tryz.prog 113 #[.int .u8 (c.toNat : Int)] w fun e w' => e = .returned (.string (strB (sgnS c))) ∧ Ext w w' := by
 have hcl := c.toNat_lt
 by_cases h10 : c = 10
 ·subst h10
  go_enter Tryz.func113, Tryz.ntmps113
  go_wp2_with fail
  go_ret
  exact ⟨rfl, Ext.refl _⟩
 by_cases h9 : c = 9
 ·subst h9
  go_enter Tryz.func113, Tryz.ntmps113
  go_wp2_with fail
  go_ret
  exact ⟨rfl, Ext.refl _⟩
 have q10 := u8_ne' (c := c) (n := 10) (z := 10) rfl (by omega) h10
 have q9 := u8_ne' (c := c) (n := 9) (z := 9) rfl (by omega) h9
 have hb1 : BytesAt (w.alloc (.cells #[.int .u8 (c.toNat : Int)] 5)) (some ⟨w.heap.size, 0, none⟩) [c] := El.Src.new w #[.int .u8 (c.toNat : Int)] 5 1 1 rfl
 have hcv : (convert 61 9 (.slice (some ⟨w.heap.size, 0, none⟩) 1 1)).run Tryz.prog (w.alloc (.cells #[.int .u8 (c.toNat : Int)] 5)) = .ok (.string (strB [c])) _ := conv_str 1 hb1
 clear hb1
 by_cases hq : c = 39 ∨ c = 92
 ·have HN := Lib.hid (show sgnS c = [92] ++ [c] from by unfold sgnS; rw [if_neg h10, if_neg h9, if_pos hq]; rfl)
  have hd : ((c.toNat : Int) == (39 : Int)) = true ∨ (((c.toNat : Int) == (39 : Int)) = false ∧ ((c.toNat : Int) == (92 : Int)) = true) := by
   rcases hq with rfl | rfl
   ·exact .inl rfl
   ·exact .inr ⟨rfl, rfl⟩
  have happ := str_app [92] [c]
  generalize hgs : strB [c] = s at hcv happ
  have hsz : s.size = 1 := by rw [← hgs]; exact strB_size [c]
  have HA := Lib.hid happ
  clear hq h10 h9 hc hgs happ
  rcases hd with h | ⟨h1, h2⟩
  all_goals
   go_enter Tryz.func113, Tryz.ntmps113
   go_wp2_with fail
   go_ret
   refine ⟨?_, ext_box _ _⟩
   rw [HN.out, ← HA.out]
   rfl
 ·have HN := Lib.hid (show sgnS c = [c] from by unfold sgnS; rw [if_neg h10, if_neg h9, if_neg hq])
  have q39 := u8_ne' (c := c) (n := 39) (z := 39) rfl (by omega) (fun e => hq (.inl e))
  have q92 := u8_ne' (c := c) (n := 92) (z := 92) rfl (by omega) (fun e => hq (.inr e))
  have g1 : 32 ≤ c.toNat ∧ c ≠ 127 := by
   have := all_bytes (p := fun c => (isCtl c || c == 10 || c == 9 || (decide (32 ≤ c.toNat) && c != 127)) = true) (by decide +kernel) c
   rw [hc] at this
   simpa [h10, h9] using this
  obtain ⟨g1, g2⟩ := g1
  have q127 := u8_ne' (c := c) (n := 127) (z := 127) rfl (by omega) g2
  generalize hgs : strB [c] = s at hcv
  have HGS := Lib.hid hgs
  clear hq h10 h9 hc hgs g2
  go_enter Tryz.func113, Tryz.ntmps113
  go_wp2_with fail
  go_ret
  refine ⟨?_, ext_box _ _⟩
  rw [HN.out, HGS.out]
  rfl
end Go.Proofs.YtmnnhdegoapfcaaGreatDoor
/- strings.Builder: WriteString at a builder that was written to, with the blocks that it turns. -/
namespace Go.Proofs.YtmnnhdegoapfcaaGreatDoor
open Go.RowKit Go.El
structure BuAt (base : Nat) (w : World) (b : Nat) (v : Value) (F : List UInt8) : Prop where
 blk : Blk w b 63 #[.pointer (some ⟨b, 0, none⟩), v]
 own : w.ownsRow base 5 1 v F.length (F.map u8V)
theorem own_heap {w : World} {base : Nat} {e : TypeId} {k : Nat} {v : Value} {n : Nat} {xs : List Value} {g : Nat} {t : TypeId} {cs : Array Value} {m : Nat × Nat} (h : w.ownsRow base e k v n xs) (hg : w.heap[g]? = some (.cells cs t m)) (ht : t ≠ e ∨ m ≠ (0, 0)) : g ∉ ownL v := by
 intro hm
 have hb := mem_ownL hm
 rcases h.2 with ⟨rfl, _⟩ | ⟨g', cap, cur, rfl, _, hc, _⟩
 ·simp [Value.ownBlock] at hb
 ·have e1 : g' = g := by simpa [Value.ownBlock] using hb
  subst e1
  rw [hg] at hc
  injection hc with hc
  injection hc with h1 h2 h3
  rcases ht with ht | ht
  ·exact ht h2
  ·exact ht h3
theorem BuAt.far {base : Nat} {w : World} {b : Nat} {v : Value} {F : List UInt8} (h : BuAt base w b v F) : ∀ x ∈ ownL v, base ≤ x := by
 intro x hx
 have hb := mem_ownL hx
 rcases h.own.2 with ⟨rfl, _⟩ | ⟨g', cap, cur, rfl, hg, _⟩
 ·simp [Value.ownBlock] at hb
 ·have e1 : g' = x := by simpa [Value.ownBlock] using hb
  omega
theorem BuAt.no {base : Nat} {w : World} {b : Nat} {v : Value} {F : List UInt8} (h : BuAt base w b v F) : b ∉ ownL v := own_heap h.own h.blk (.inl (by decide))
set_option maxRecDepth 100000 in
set_option maxHeartbeats 4000000 in
theorem writeString_any (base b : Nat) (v : Value) (F : List UInt8) (s : ByteArray) (w : World) (h : BuAt base w b v F) (hbw : base ≤ w.heap.size) (hl : F.length + s.size ≤ 1000000) :
  Calls Tryz.prog 27 #[.pointer (some ⟨b, 0, none⟩), .string s] w fun e w' => e = .returned (.tuple #[.int .i64 s.size, .nilIface]) ∧ ∃ v', BuAt base w' b v' (F ++ s.data.toList) ∧ Mods (b :: ownL v) w w' := by
 obtain ⟨i1, hi1, hz0, hz1, hz2⟩ := infoP u8Info
 obtain ⟨A, c, rfl⟩ := own_value h.own
 have d0 : w.cell? ⟨b, 0, none⟩ = some (.pointer (some ⟨b, 0, none⟩)) := h.blk.cell 0
 have d1 : w.cell? ⟨b, 1, none⟩ = some (.slice A F.length c) := h.blk.cell 1
 have hsl : s.size ≤ 9223372036854775807 := by omega
 have H := Lib.hid h
 have HN := Lib.hid h.no
 clear h
 go_enter Tryz.func27, Tryz.ntmps27
 go_wp2_with (first | (go_at_call 67; refine (Tryz.copyCheck_used b w (H.out.blk.cell 0)).mono ?_; rintro e w' ⟨rfl, rfl⟩) | (at_builtin; refine Lib.wpList_append_own_string (P := Tryz.prog) _ rfl _ _ 61 9 rfl base 5 i1 Tryz.underlying61 Tryz.underlying9 hi1 hz0 hz1 hz2 _ F.length (F.map u8V) rfl H.out.own s rfl (by unfold maxLen; omega) (by omega) hbw ?_; intro v3 w3 ho3 hm3 _; obtain ⟨A3, c3, rfl⟩ := own_value ho3; have hM := grown_mods hm3; have hbk := H.out.blk.mods hM HN.out; have k1 : w3.cell? ⟨b, 1, none⟩ = some (.slice A F.length c) := hbk.cell 1; have kf := hbk.frozen 1; have HO := Lib.hid ho3; have HM := Lib.hid hM; have HBK := Lib.hid hbk; clear ho3 hm3 hM hbk))
 go_ret2
 refine ⟨rfl, _, ⟨HBK.out.set_ 1 _, ?_⟩, ?_⟩
 ·have hno := own_heap HO.out HBK.out (.inl (by decide))
  rw [List.length_append, List.map_append]
  have h1 := own_mods HO.out ((Mods.refl [b] w3).setCell (p := ⟨b, 1, none⟩) (.inl (by simp)) (.slice A3 (F.length + s.size) c3)) (fun x hx hm => by
   rw [List.mem_singleton] at hm
   exact hno (by simp [ownL, hx, hm]))
  have e : s.data.toList.length = s.size := by simp
  rw [e]
  exact h1
 ·exact (HM.out.mono (fun x hx => List.mem_cons_of_mem _ hx)).setCell (.inl (by simp)) _
end Go.Proofs.YtmnnhdegoapfcaaGreatDoor
