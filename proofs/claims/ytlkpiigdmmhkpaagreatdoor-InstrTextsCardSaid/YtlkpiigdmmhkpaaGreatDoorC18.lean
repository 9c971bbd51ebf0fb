/- What the rows of this seat have in common: instructions that come in; the listed variables; a start. -/
import Derived.Test.YtlkpiigdmmhkpaaGreatDoorC02
import Derived.Test.YtlkpiigdmmhkpaaGreatDoorC12
import Derived.Test.YtlkpiigdmmhkpaaGreatDoorC17
import Derived.Test.YtlkpiigdmmhkpaaGreatDoorCards
import Derived.Test.YtlkpiigdmmhkpaaGreatDoorTie
import Derived.Lay
import Derived.Shelf.Vars
import Derived.MakeChecks
import Derived.Lib.LaidTab
namespace Go.Proofs.YtlkpiigdmmhkpaaGreatDoor
open Go.RowKit Go.El Go.ChangeShapes Go.WideShapes Go.ChangeAt Go.Deep Go.Joins

theorem own : ownKnob Tryz.prog.godebug = none := by kernel_rfl
theorem laidOut : laidOutB Tryz.prog = true := by kernel_rfl

section
variable {H : Type} {enc : TypeId × Value → H} {P : Program} {w : World} {base : Nat} {spare : Nat → Bool} {held : Bool}

/-- The type of instructions, as a program lays it. -/
structure InsType (P : Program) (tt ti ts : TypeId) : Prop where
  shape : ∃ f0 f1 f2 f3 f4 : Field, P.underlying tt = some (.struct #[f0, f1, f2, f3, f4]) ∧ f0.type = ti ∧ f1.type = ts ∧ f2.type = ti ∧ f3.type = ti ∧ f4.type = ti ∧ f0.offset = 0 ∧ f1.offset = 1 ∧ f2.offset = 2 ∧ f3.offset = 3 ∧ f4.offset = 4
  int : P.underlying ti = some (.int .i64)
  str : P.underlying ts = some .string
  c : P.cellsOf tt = 5
  ci : P.cellsOf ti = 1
  cs : P.cellsOf ts = 1
def InsGood (i : Ins) : Prop := i.s.size ≤ maxLen
variable {tt ti ts : TypeId}
theorem ins_of_trod (T : InsType P tt ti ts) {fuel : Nat} {cs : List Value} {x : DataW H × List MemPlace} (h : DataW.trod enc P w base spare held fuel tt cs = some x) : ∃ i : Ins, cs = insCells i ∧ InsGood i := by
  obtain ⟨f0, f1, f2, f3, f4, hu, t0, t1, t2, t3, t4, o0, o1, o2, o3, o4⟩ := T.shape
  obtain ⟨xs, n, _, _, hl, hlen, hf⟩ := DataW.trod_struct hu h
  rw [T.c] at hl
  match cs, hl with
  | [c0, c1, c2, c3, c4], _ =>
    have h0 := hf 0 f0 rfl
    have h1 := hf 1 f1 rfl
    have h2 := hf 2 f2 rfl
    have h3 := hf 3 f3 rfl
    have h4 := hf 4 f4 rfl
    match xs, hlen with
    | [x0, x1, x2, x3, x4], _ =>
      rw [t0, o0, T.ci] at h0
      rw [t1, o1, T.cs] at h1
      rw [t2, o2, T.ci] at h2
      rw [t3, o3, T.ci] at h3
      rw [t4, o4, T.ci] at h4
      simp only [List.drop_zero, List.drop_succ_cons, List.take_succ_cons, List.take_zero, List.getElem?_cons_zero, List.getElem?_cons_succ] at h0 h1 h2 h3 h4
      obtain ⟨a, e0, _, _⟩ := DataW.trod_int T.int h0
      obtain ⟨s, e1, _, w1⟩ := DataW.trod_string T.str h1
      obtain ⟨b, e2, _, _⟩ := DataW.trod_int T.int h2
      obtain ⟨c, e3, _, _⟩ := DataW.trod_int T.int h3
      obtain ⟨d, e4, _, _⟩ := DataW.trod_int T.int h4
      simp only [List.cons.injEq, and_true] at e0 e1 e2 e3 e4
      exact ⟨⟨a, s, b, c, d⟩, by rw [e0, e1, e2, e3, e4]; rfl, w1⟩
theorem open_ins (T : InsType P tt ti ts) {r : Reach} {b0 : Nat} {v : Value} {d : DataW H} {ps : List MemPlace} (hv : Value.okWide P w r b0 tt v) (h : DataW.Trod enc P w base spare held tt v d ps) :
    ∃ i : Ins, v = insVal i ∧ InsGood i := by
  obtain ⟨_, _, _, _, _, hu, _⟩ := T.shape
  obtain ⟨cs, rfl, _⟩ := okWide_struct hu hv
  obtain ⟨fuel, hf⟩ := h
  obtain ⟨i, e, r⟩ := ins_of_trod T hf
  obtain ⟨l⟩ := cs
  simp only [Value.cells] at e
  subst e
  exact ⟨i, rfl, r⟩
theorem open_inss (T : InsType P tt ti ts) {t : TypeId} (ht : P.underlying t = some (.slice tt)) {r : Reach} {b0 : Nat} {v : Value} {d : DataW H} {ps : List MemPlace} (hv : Value.okWide P w r b0 t v) (h : DataW.Trod enc P w base spare held t v d ps) :
    ∃ (A : Option Addr) (L : List Ins) (c : Nat), v = .slice A L.length c ∧ El.Src w A L.length 5 (flat insCells L) ∧ (∀ x ∈ L, InsGood x) ∧ L.length ≤ c ∧ L.length ≤ maxLen := by
  obtain ⟨fuel, hf⟩ := h
  have h1 : v.cells.toList = [v] := by
    simp only [Value.okWide, ht] at hv
    cases v <;> simp_all [Cell.okWide, Cell.ok, Value.cells]
  rw [h1] at hf
  rcases open_slice ht hf with ⟨h2, _⟩ | ⟨a, len, cap, m, n, D, Pl, hcs, hb, hl, hm, hmm, hx, hi⟩
  · simp only [List.cons.injEq, and_true] at h2
    subst h2
    exact ⟨none, [], 0, rfl, El.Src.none _ _ _, fun x hx => by simp at hx, Nat.zero_le _, Nat.zero_le _⟩
  · simp only [List.cons.injEq, and_true] at hcs
    subst hcs
    have hml : len ≤ m := by rw [hmm]; split <;> omega
    obtain ⟨L, hL, hp⟩ := list_of_all (p := fun i x => w.cells? base (a.add (i * 5)) 5 = some (insCells x) ∧ InsGood x) len (fun i hil => by
      obtain ⟨cs', hc, ht'⟩ := hi i (by omega)
      obtain ⟨x, e, g⟩ := ins_of_trod T ht'
      rw [T.c, e] at hc
      exact ⟨x, hc, g⟩)
    subst hL
    refine ⟨some a, L, cap, rfl, src_of_cells insCells_len (by omega) (fun i x hx j u hu => ?_), fun x hx => ?_, by omega, by omega⟩
    · obtain ⟨_, _, hat⟩ := World.cells?_some (hp i x hx).1
      have hj : j < 5 := by
        have := (List.getElem?_eq_some_iff.1 hu).1
        rwa [insCells_len] at this
      rw [← Go.Deep.add_add]
      exact (hat j hj).trans hu
    · obtain ⟨i, hi⟩ := List.mem_iff_getElem?.1 hx
      exact (hp i x hi).2

/-- From a table of names and numbers that is listed to its cells. -/
theorem cells_of_pairs {W : World} {sp : Nat → Bool} {fuel : Nat} {t e : TypeId} {n : Nat} {cs : List Value} {ls : List (List UInt8 × Nat)} {p : List MemPlace} {f0 f1 : Field}
    (ht : P.underlying t = some (.array n e)) (he : P.underlying e = some (.struct #[f0, f1])) (h0 : P.underlying f0.type = some .string) (h1 : P.underlying f1.type = some (.int .i64)) (o0 : f0.offset = 0) (o1 : f1.offset = 1)
    (hce : P.cellsOf e = 2) (hc0 : P.cellsOf f0.type = 1) (hc1 : P.cellsOf f1.type = 1)
    (h : DataW.trod enc P W base sp held fuel t cs = some (.agg (ls.map fun l => .agg [.lit (.string l.1), .lit (.int .i64 l.2)]), p)) (i : Nat) (l : List UInt8 × Nat) (hl : ls[i]? = some l) :
    cs[i * 2]? = some (.string ⟨l.1.toArray⟩) ∧ cs[i * 2 + 1]? = some (.int .i64 l.2) := by
  obtain ⟨xs, m, rfl, hx, hlen, hxl, hat⟩ := DataW.trod_array ht h
  simp only [Prod.mk.injEq, DataW.agg.injEq] at hx
  have hxs : xs.map (·.1) = ls.map fun l => (DataW.agg [.lit (.string l.1), .lit (.int .i64 l.2)] : DataW H) := hx.1.symm
  have hll : ls.length = n := by
    have := congrArg List.length hxs
    simp at this
    omega
  have hi : i < n := by rw [← hll]; exact (List.getElem?_eq_some_iff.1 hl).1
  have h2 := hat i hi
  rw [List.getElem?_eq_getElem (by omega), hce] at h2
  obtain ⟨y0, y1, k, hy, hyl, g0, g1⟩ := trod_struct2 he h2
  rw [o0, hc0] at g0
  rw [o1, hc1] at g1
  rw [hce] at hyl
  have h3 : (xs.map (·.1))[i]? = some (DataW.agg [y0.1, y1.1]) := by
    rw [List.getElem?_map, List.getElem?_eq_getElem (by omega), hy]
    rfl
  rw [hxs, List.getElem?_map, hl] at h3
  simp only [Option.map_some, Option.some.injEq, DataW.agg.injEq, List.cons.injEq, and_true] at h3
  generalize hq : (cs.drop (i * 2)).take 2 = q at *
  match q, hyl with
  | [c0, c1], _ =>
    simp only [List.drop_zero, List.take_succ_cons, List.take_zero, List.drop_succ_cons] at g0 g1
    obtain ⟨s, e0, x0, _⟩ := DataW.trod_string h0 g0
    obtain ⟨z, e1, x1, _⟩ := DataW.trod_int h1 g1
    simp only [List.cons.injEq, and_true] at e0 e1
    rw [x0] at h3
    rw [x1] at h3
    simp only [DataW.lit.injEq, Lit.string.injEq, Lit.int.injEq, true_and] at h3
    obtain ⟨h4, h5⟩ := h3
    have k0 : cs[i * 2]? = some c0 := by
      have := congrArg (·[0]?) hq
      simpa [List.getElem?_take, List.getElem?_drop] using this
    have k1 : cs[i * 2 + 1]? = some c1 := by
      have := congrArg (·[1]?) hq
      simpa [List.getElem?_take, List.getElem?_drop] using this
    refine ⟨by rw [k0, e0, h4], by rw [k1, e1, h5]⟩
end

theorem insType : InsType Tryz.prog 23 3 9 := ⟨⟨_, _, _, _, _, Tryz.underlying23, rfl, rfl, rfl, rfl, rfl, rfl, rfl, rfl, rfl, rfl⟩, Tryz.underlying3, Tryz.underlying9, by kernel_rfl, by kernel_rfl, by kernel_rfl⟩

def laidL : List (String × DataW Unit) := Rows.instrCutsRow.laid
def tzTab : List Int := [0, 1, 56, 2, 57, 49, 28, 3, 61, 58, 42, 50, 38, 29, 17, 4, 62, 47, 59, 36, 45, 43, 51, 22, 53, 39, 33, 30, 24, 18, 12, 5, 63, 55, 48, 27, 60, 41, 37, 16, 46, 35, 44, 21, 52, 32, 23, 11, 54, 26, 40, 15, 34, 20, 31, 10, 25, 14, 19, 9, 13, 8, 7, 6]
def tzName : String := (laidL.drop 1).head?.elim "" (·.1)
def p10Name : String := (laidL.drop 2).head?.elim "" (·.1)
def rangeName : String := (laidL.drop 3).head?.elim "" (·.1)
def synName : String := (laidL.drop 4).head?.elim "" (·.1)
def opsName : String := (laidL.drop 5).head?.elim "" (·.1)
theorem tz_list : laidL = (laidL.take 1) ++ (tzName, Lib.tabData .u8 tzTab) :: laidL.drop 2 := by rfl
theorem p10_list : laidL = (laidL.take 2) ++ (p10Name, Lib.tabData .u64 Lib.pow10Tab) :: laidL.drop 3 := by rfl
theorem range_list : laidL = (laidL.take 3) ++ (rangeName, Rows.laid_strconv_ErrRange) :: laidL.drop 4 := by rfl
theorem syn_list : laidL = (laidL.take 4) ++ (synName, Rows.laid_strconv_ErrSyntax) :: laidL.drop 5 := by rfl
theorem ops_list : laidL = (laidL.take 5) ++ (opsName, .agg (opTab.map fun l => .agg [.lit (.string l.1), .lit (.int .i64 l.2)])) :: laidL.drop 6 := by rfl

theorem laidVars_app {P : Program} {w : World} : ∀ {a b : List (String × DataW Unit)} {ps : List MemPlace}, DataW.LaidVars P w (a ++ b) ps → ∃ qs, DataW.LaidVars P w b qs
  | [], _, ps, h => ⟨ps, h⟩
  | (_, _) :: _, _, _, ⟨_, _, _, _, _, _, _, _, _, _, h, _⟩ => laidVars_app h

set_option maxRecDepth 100000 in
theorem tz_of_laid {W : World} (h : laidMetH Tryz.prog laidL W) : TzAt W := by
  rw [MakeChecks.laidMetH_plain _ _ _ (by kernel_rfl), tz_list] at h
  obtain ⟨ps, h, _, _⟩ := h
  obtain ⟨qs, h⟩ := laidVars_app h
  obtain ⟨g', t', cs, fuel, p, q, hg', ht', hvar, hd, _, _⟩ := h
  have hg : Tryz.prog.globalNamed tzName = some 6 := by kernel_rfl
  have hty : ((Tryz.prog.globals[6]?).map (·.type)) = some 156 := by kernel_rfl
  obtain rfl := Option.some.inj (hg.symm.trans hg')
  obtain rfl := Option.some.inj (hty.symm.trans ht')
  have hcs := Lib.cells_of_tab Tryz.underlying156 Tryz.underlying5 (by kernel_rfl) (by kernel_rfl) hd
  unfold TzAt
  rw [World.var?_cell hg hvar 15, ← Array.getElem?_toList, hcs]
  rfl
set_option maxRecDepth 100000 in
theorem p10_of_laid {W : World} (h : laidMetH Tryz.prog laidL W) : Lib.TabIs Tryz.prog W pwName .u64 Lib.pow10Tab := by
  rw [MakeChecks.laidMetH_plain _ _ _ (by kernel_rfl), p10_list] at h
  obtain ⟨ps, h, _, _⟩ := h
  obtain ⟨qs, h⟩ := laidVars_app h
  obtain ⟨g', t', cs, fuel, p, q, hg', ht', hvar, hd, _, _⟩ := h
  have hg : Tryz.prog.globalNamed p10Name = some 2 := by kernel_rfl
  have hty : ((Tryz.prog.globals[2]?).map (·.type)) = some 126 := by kernel_rfl
  obtain rfl := Option.some.inj (hg.symm.trans hg')
  obtain rfl := Option.some.inj (hty.symm.trans ht')
  have hcs := Lib.cells_of_tab Tryz.underlying126 Tryz.underlying79 (by kernel_rfl) (by kernel_rfl) hd
  have hnm : p10Name = pwName := by kernel_rfl
  rw [← hnm]
  unfold Lib.TabIs
  rw [hvar]
  congr 1
  exact Array.ext' hcs
set_option maxRecDepth 100000 in
theorem range_of_laid {W : World} (h : laidMetH Tryz.prog laidL W) : ∃ te pe, W.cell? ⟨4, 0, none⟩ = some (.iface te pe) := by
  rw [MakeChecks.laidMetH_plain _ _ _ (by kernel_rfl), range_list] at h
  obtain ⟨ps, h, _, _⟩ := h
  obtain ⟨qs, h⟩ := laidVars_app h
  obtain ⟨g', t', cs, fuel, p, q, hg', ht', hvar, hd, _, _⟩ := h
  have hg : Tryz.prog.globalNamed rangeName = some 4 := by kernel_rfl
  have hty : ((Tryz.prog.globals[4]?).map (·.type)) = some 72 := by kernel_rfl
  obtain rfl := Option.some.inj (hg.symm.trans hg')
  obtain rfl := Option.some.inj (hty.symm.trans ht')
  obtain ⟨_, u, v, hcs, _, _⟩ := iface_of_trod Tryz.underlying72 hd
  refine ⟨u, v, ?_⟩
  rw [World.var?_cell hg hvar 0, ← Array.getElem?_toList, hcs]
  rfl
set_option maxRecDepth 100000 in
theorem syn_of_laid {W : World} (h : laidMetH Tryz.prog laidL W) : ∃ te pe, W.cell? ⟨3, 0, none⟩ = some (.iface te pe) := by
  rw [MakeChecks.laidMetH_plain _ _ _ (by kernel_rfl), syn_list] at h
  obtain ⟨ps, h, _, _⟩ := h
  obtain ⟨qs, h⟩ := laidVars_app h
  obtain ⟨g', t', cs, fuel, p, q, hg', ht', hvar, hd, _, _⟩ := h
  have hg : Tryz.prog.globalNamed synName = some 3 := by kernel_rfl
  have hty : ((Tryz.prog.globals[3]?).map (·.type)) = some 72 := by kernel_rfl
  obtain rfl := Option.some.inj (hg.symm.trans hg')
  obtain rfl := Option.some.inj (hty.symm.trans ht')
  obtain ⟨_, u, v, hcs, _, _⟩ := iface_of_trod Tryz.underlying72 hd
  refine ⟨u, v, ?_⟩
  rw [World.var?_cell hg hvar 0, ← Array.getElem?_toList, hcs]
  rfl
set_option maxRecDepth 100000 in
theorem ops_of_laid {W : World} (h : laidMetH Tryz.prog laidL W) : OpTabAt W := by
  rw [MakeChecks.laidMetH_plain _ _ _ (by kernel_rfl), ops_list] at h
  obtain ⟨ps, h, _, _⟩ := h
  obtain ⟨qs, h⟩ := laidVars_app h
  obtain ⟨g', t', cs, fuel, p, q, hg', ht', hvar, hd, _, _⟩ := h
  have hg : Tryz.prog.globalNamed opsName = some 0 := by kernel_rfl
  have hty : ((Tryz.prog.globals[0]?).map (·.type)) = some 48 := by kernel_rfl
  obtain rfl := Option.some.inj (hg.symm.trans hg')
  obtain rfl := Option.some.inj (hty.symm.trans ht')
  intro k hk
  have hl : opTab[k]? = some (opTab.getD k ([], 0)) := by
    rw [List.getD_eq_getElem?_getD, List.getElem?_eq_getElem (by exact hk)]
    rfl
  obtain ⟨h1, h2⟩ := cells_of_pairs Tryz.underlying48 Tryz.underlying47 Tryz.underlying9 Tryz.underlying3 rfl rfl (by kernel_rfl) (by kernel_rfl) (by kernel_rfl) hd k _ hl
  refine ⟨?_, ?_⟩
  · rw [World.var?_cell hg hvar, ← Array.getElem?_toList]
    exact h1
  · rw [World.var?_cell hg hvar, ← Array.getElem?_toList]
    exact h2
theorem env_of_laid {W : World} (h : laidMetH Tryz.prog laidL W) (hs : W.ShapedOpen Tryz.prog) : Env W :=
  ⟨ops_of_laid h, ⟨cell_of_shapedOpen_int (t := 3) (zero := #[.int .i64 0]) hs (by decide +kernel) (by kernel_rfl) rfl (by kernel_rfl) (by kernel_rfl) Tryz.underlying3, range_of_laid h⟩, tz_of_laid h, p10_of_laid h, syn_of_laid h⟩

noncomputable def laidWorld (os : Os) : World := World.laidAll Tryz.prog os laidL
set_option maxRecDepth 100000 in
theorem laid_met (os : Os) (args : Array Value) : laidMetH Tryz.prog laidL ((laidWorld os).forCall (fun _ _ => 0) ⟨#[], args, []⟩).memory := by
  rw [MakeChecks.laidMetH_plain _ _ _ (by kernel_rfl)]
  exact laidMet_laidAll _ (by kernel_rfl) (by kernel_rfl)

end Go.Proofs.YtlkpiigdmmhkpaaGreatDoor
