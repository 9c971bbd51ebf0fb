/- A law's frame: what came in reads as it did; nothing that was there has turned. Over any program. -/
import Derived.Test.YtmnnhdegoapfcaaGreatDoorC01
import Derived.Carry
import Derived.ProofKit
import Derived.OpenShut
import Derived.LaidMore
import Derived.Lib.LaidTab
import Derived.Lib.SmallJoins
import Derived.Deep.DeepHandedRow
import Derived.Deep.Slices
import Derived.Deep.Fields
import Derived.Test.YtmnnhdegoapfcaaGreatDoorProg
import Derived.BigQuiet
import Derived.Lib.Hide
namespace Go.El
open Go.RowKit Go.ChangeShapes Go.WideShapes Go.ChangeAt Go.Deep Go.Joins

section
variable {H : Type} {enc : TypeId × Value → H} {P : Program} {W W' : World}

def readsB (P : Program) (ts : List TypeId) : Bool := ts.all fun t => P.readableRec t && decide (t < P.types.size)

theorem trodAll_law (hl : laidOutB P = true) {sp : Nat → Bool} (hb : Ext W W') : ∀ {ts : List TypeId} {vs : List Value} {ds : List (DataW H)} {ps : List MemPlace}, readsB P ts = true → DataW.TrodAll enc P W 0 (fun _ => true) true ts vs ds ps →
    (∀ x ∈ ps, x.block < W.heap.size) → (∀ x ∈ ps, sp x.block = true) → DataW.TrodAll enc P W' 0 sp true ts vs ds ps
  | [], _, _, _, _, h, _, _ => by
    obtain ⟨rfl, rfl, rfl⟩ := trodAll_nil h
    exact trodAll_mk0
  | t :: ts, _, _, _, hr, h, hlt, hs => by
    obtain ⟨v, vs, d, ds, p, q, rfl, rfl, rfl, h1, h2⟩ := trodAll_cons h
    simp only [readsB, List.all_cons, Bool.and_eq_true, decide_eq_true_eq] at hr
    exact trodAll_cons_mk (WideElems.Trod_stays hl hr.1.1 hr.1.2 h1 (fun x hx => hb.same (hlt x (List.mem_append_left _ hx))) (fun x hx => hs x (List.mem_append_left _ hx)))
      (trodAll_law hl hb (by simpa [readsB] using hr.2) h2 (fun x hx => hlt x (List.mem_append_right _ hx)) (fun x hx => hs x (List.mem_append_right _ hx)))

theorem post_law {f : Func} {s : ChangeSpec} {args : Array Value} {ds gs : List (DataW H)} {before : List MemPlace} {tb : TypeId} (hl : laidOutB P = true) (hr : readsB P f.params.toList = true) (hv : s.vars = [])
    (hres : f.resultTypes = #[tb]) (htb : P.underlying tb = some .bool) (hW : DataW.Whole enc P f.params.toList s.vars false W args.toList ds gs before) (hs : s.fn H (ds ++ gs) = { results := [.lit (.bool true)], args := ds }) (hb : Ext W W') :
    s.post enc P f false true false false W args (.bool true) W' := by
  have hold : ∀ p ∈ before, p.block < W.heap.size := fun p hp => hW.lt p hp
  obtain ⟨p, q, hA, hV, rfl, hz, hn⟩ := id hW
  rw [hv] at hV
  obtain ⟨rfl, rfl⟩ := trodVars_none hV
  refine ⟨ds, [], p ++ [], [], p, [], hW, ?_, ?_, ?_, hb.frame _, fun h => by cases h⟩
  · rw [hs, hres]
    exact trodAll_cons_mk (shut_bool htb _) trodAll_mk0
  · rw [hs]
    exact trodAll_law hl hb hr hA (fun x hx => hold x (by simpa using hx)) (fun x hx => by simpa using hold x (by simpa using hx))
  · rw [hs, hv]
    rfl

/-- From a table of strings that is listed to its cells. -/
theorem cells_of_strs {base : Nat} {sp : Nat → Bool} {held : Bool} {fuel : Nat} {t e : TypeId} {n : Nat} {cs : List Value} {ls : List (List UInt8)} {p : List MemPlace}
    (ht : P.underlying t = some (.array n e)) (he : P.underlying e = some .string) (hce : P.cellsOf e = 1) (hct : P.cellsOf t = n)
    (h : DataW.trod enc P W base sp held fuel t cs = some (.agg (ls.map fun l => .lit (.string l)), p)) : cs = ls.map fun l => Value.string ⟨l.toArray⟩ := by
  obtain ⟨xs, m, rfl, hx, hlen, hxl, hat⟩ := DataW.trod_array ht h
  simp only [Prod.mk.injEq, DataW.agg.injEq] at hx
  have hxs : xs.map (·.1) = ls.map fun l => (DataW.lit (.string l) : DataW H) := hx.1.symm
  have hll : ls.length = n := by
    have := congrArg List.length hxs
    simp at this
    omega
  rw [hct] at hlen
  apply List.ext_getElem?
  intro i
  by_cases hi : i < n
  · have h1 := hat i hi
    rw [List.getElem?_eq_getElem (by omega)] at h1
    obtain ⟨s, hc, hxi, _⟩ := DataW.trod_string he h1
    rw [hce, Nat.mul_one] at hc
    have h2 : cs[i]? = some (.string s) := by
      have := congrArg (·[0]?) hc
      simpa [List.getElem?_take, List.getElem?_drop] using this
    have h3 : (xs.map (·.1))[i]? = some (DataW.lit (.string s.data.toList) : DataW H) := by simp [hxi, (by omega : i < xs.length)]
    rw [hxs] at h3
    simp only [List.getElem?_map, Option.map_eq_some_iff, DataW.lit.injEq, Lit.string.injEq] at h3
    obtain ⟨l, hl, rfl⟩ := h3
    simp [h2, hl]
  · rw [List.getElem?_eq_none (by omega), List.getElem?_eq_none (by simp; omega)]

theorem strs_of_laid {name : String} {g : Nat} {t e : TypeId} {n : Nat} {ls : List (List UInt8)} {rest : List (String × DataW Unit)} (hg : P.globalNamed name = some g) (hty : (P.globals[g]?).map (·.type) = some t)
    (ht : P.underlying t = some (.array n e)) (he : P.underlying e = some .string) (hce : P.cellsOf e = 1) (hct : P.cellsOf t = n)
    (h : laidMet P ((name, .agg (ls.map fun l => .lit (.string l))) :: rest) W) : ∀ (i : Nat) (l : List UInt8), ls[i]? = some l → W.cell? ⟨g, i, none⟩ = some (.string ⟨l.toArray⟩) := by
  obtain ⟨ps, ⟨g', t', cs, fuel, p, q, hg', ht', hvar, hd, _, _⟩, _⟩ := h
  obtain rfl := Option.some.inj (hg.symm.trans hg')
  obtain rfl := Option.some.inj (hty.symm.trans ht')
  have hcs := cells_of_strs ht he hce hct hd
  intro i l hl
  rw [World.var?_cell hg hvar i, ← Array.getElem?_toList, hcs]
  simp [hl]
end

theorem list_of_all {α : Type} {p : Nat → α → Prop} : ∀ (n : Nat), (∀ i, i < n → ∃ x, p i x) → ∃ L : List α, L.length = n ∧ ∀ i x, L[i]? = some x → p i x
  | 0, _ => ⟨[], rfl, fun i x h => by simp at h⟩
  | n + 1, h => by
    obtain ⟨L, hl, hp⟩ := list_of_all n (fun i hi => h i (by omega))
    obtain ⟨x, hx⟩ := h n (by omega)
    refine ⟨L ++ [x], by simp [hl], fun i y hy => ?_⟩
    by_cases hi : i < n
    · rw [List.getElem?_append_left (by omega)] at hy
      exact hp i y hy
    · rw [List.getElem?_append_right (by omega)] at hy
      have : i - L.length = 0 := by
        rcases Nat.eq_zero_or_pos (i - L.length) with h | h
        · exact h
        · rw [List.getElem?_eq_none (by simp; omega)] at hy
          cases hy
      rw [this] at hy
      simp at hy
      subst hy
      have : i = n := by omega
      subst this
      exact hx

theorem src_of_cells {α : Type} {enc : α → List Value} {k : Nat} (hk : ∀ x, (enc x).length = k) (h0 : 0 < k) {w : World} {a : Addr} {L : List α} (h : ∀ i x, L[i]? = some x → ∀ j u, (enc x)[j]? = some u → w.cell? (a.add (i * k + j)) = some u) : Src w (some a) L.length k (flat enc L) :=
  ⟨flat_len hk L, fun _ => ⟨a, rfl, fun j u hu => by
    have hj : j < L.length * k := by
      have := (List.getElem?_eq_some_iff.1 hu).1
      rwa [flat_len hk] at this
    have hi : j / k < L.length := (Nat.div_lt_iff_lt_mul h0).2 hj
    have e : j = j / k * k + j % k := by rw [Nat.mul_comm]; exact (Nat.div_add_mod j k).symm
    have hx : L[j / k]? = some L[j / k] := List.getElem?_eq_getElem hi
    have := flat_at hk L (j / k) (j % k) _ hx (Nat.mod_lt _ h0)
    rw [← e, hu] at this
    have h2 := h _ _ hx _ _ this.symm
    rwa [← e] at h2⟩⟩

section
variable {H : Type} {enc : TypeId × Value → H} {P : Program} {w : World} {base : Nat} {spare : Nat → Bool} {held : Bool}
/-- A slice of structs whose fields are one cell each. -/
theorem open_slice_fields {t e : TypeId} {fs : Array Field} {fuel : Nat} {cs : List Value} {x : DataW H × List MemPlace} (ht : P.underlying t = some (.slice e)) (he : P.underlying e = some (.struct fs))
    (hone : oneCellFields P fs = true) (hC : P.cellsOf e = fs.size) (h : DataW.trod enc P w base spare held fuel t cs = some x) :
    (cs = [.slice none 0 0] ∧ x = (.nil, [])) ∨
    ∃ (a : Addr) (len cap m : Nat), cs = [.slice (some a) len cap] ∧ len ≤ cap ∧ cap ≤ maxLen ∧ m = (if spare a.block then cap else len) ∧
      ∀ i, i < m → ∃ (ys : List (DataW H × List MemPlace)) (n : Nat), ys.length = fs.size ∧
        ∀ (j : Nat) (f : Field), fs[j]? = some f → ∃ (v : Value) (y : DataW H × List MemPlace), w.cell? (a.add (i * fs.size + j)) = some v ∧ ys[j]? = some y ∧ DataW.trod enc P w base spare held n f.type [v] = some y := by
  rcases open_slice ht h with h0 | ⟨a, len, cap, m, n, D, Pl, hcs, hb, hl, hm, hmm, hx, hi⟩
  · exact .inl h0
  · refine .inr ⟨a, len, cap, m, hcs, hl, hm, hmm, fun i him => ?_⟩
    obtain ⟨cs', hc, ht'⟩ := hi i him
    rw [hC] at hc
    obtain ⟨ys, n', hn', hy, hlen, hyl, hf⟩ := DataW.trod_struct he ht'
    obtain ⟨_, hcl, hat⟩ := World.cells?_some hc
    refine ⟨ys, n', hyl, fun j f hj => ?_⟩
    obtain ⟨ho, hk⟩ := hone_of hone j f hj
    have hjl : j < fs.size := (Array.getElem?_eq_some_iff.1 hj).1
    have hcell := hat j hjl
    have hv : cs'[j]? = some (cs'[j]'(by omega)) := List.getElem?_eq_getElem (by omega)
    have h1 := hf j f hj
    rw [ho, hk] at h1
    have hone' : (cs'.drop j).take 1 = [cs'[j]'(by omega)] := by
      rw [List.drop_eq_getElem_cons (by omega)]
      rfl
    rw [hone'] at h1
    have hys : ys[j]? = some (ys[j]'(by omega)) := List.getElem?_eq_getElem (by omega)
    refine ⟨_, _, ?_, hys, h1.trans hys⟩
    rw [← Go.Deep.add_add, hcell, hv]
end

end Go.El

/- Layer 16, plain: instructions: which may be, what is known ahead of one. No program in sight. -/
namespace Go.El

structure Ins where
  op : Int
  s : ByteArray
  n : Int
  v : Int
  a : Int
def insVal (i : Ins) : Value := .agg #[.int .i64 i.op, .string i.s, .int .i64 i.n, .int .i64 i.v, .int .i64 i.a]
/-- Names of operations, and their fields. -/
def opTab : List (List UInt8 × Nat) := [([], 0), ([103, 101, 116, 95, 118, 97, 114], 3), ([103, 101, 116, 95, 118, 97, 108], 3), ([103, 101, 116, 95, 97, 116, 111, 109], 10), ([103, 101, 116, 95, 105, 110, 116], 18), ([103, 101, 116, 95, 115, 116, 114], 34), ([117, 110, 105, 95, 118, 97, 114], 1), ([117, 110, 105, 95, 118, 97, 108], 1), ([117, 110, 105, 95, 97, 116, 111, 109], 8), ([117, 110, 105, 95, 105, 110, 116], 16), ([112, 117, 116, 95, 118, 97, 114], 3), ([112, 117, 116, 95, 118, 97, 108], 3), ([112, 117, 116, 95, 97, 116, 111, 109], 10), ([112, 117, 116, 95, 105, 110, 116], 18), ([112, 117, 116, 95, 115, 116, 114], 34), ([115, 101, 116, 95, 118, 97, 114], 1), ([115, 101, 116, 95, 118, 97, 108], 1), ([115, 101, 116, 95, 97, 116, 111, 109], 8), ([115, 101, 116, 95, 105, 110, 116], 16), ([97, 108, 108, 111, 99], 128), ([100, 101, 97, 108, 108, 111, 99], 0), ([99, 97, 108, 108], 68), ([101, 120, 101, 99], 64), ([98, 111, 100, 121], 4), ([103, 111, 97, 108], 0), ([112, 114, 111, 99, 101, 101, 100], 0), ([108, 101, 118, 101, 108], 1), ([104, 101, 114, 101], 1), ([110, 101, 99, 107], 0), ([99, 117, 116], 1), ([102, 97, 105, 108], 0)]
def fldF (o : Int) : Nat := (opTab.getD o.toNat ([], 0)).2
def hasF (o : Int) (f : Nat) : Bool := (fldF o &&& f) != 0
def nameF (o : Int) : List UInt8 := if o < 0 ∨ 31 ≤ o then [] else (opTab.getD o.toNat ([], 0)).1
def withinF (is : Bool) (n least most : Int) : Bool := if is then decide (least ≤ n) && decide (n ≤ most) else decide (n = 0)
def numberF (i : Ins) : Bool :=
  if hasF i.op 32 then withinF true i.n 1 16 else if hasF i.op 64 then withinF true i.n 0 16 else if hasF i.op 128 then withinF true i.n 0 64 else withinF (hasF i.op 16) i.n (-9007199254740991) 9007199254740991
def insMay (i : Ins) : Bool :=
  if nameF i.op = [] ∨ 64 < i.s.size then false
  else withinF (hasF i.op 1) i.v (-64) 255 && (decide (i.v ≠ 0) || !hasF i.op 1) && (if hasF i.op 4 then withinF true i.a 0 64 else withinF (hasF i.op 2) i.a 1 255) && numberF i && (decide (i.s.size = 0) || hasF i.op 104)

/-! ## What is known ahead of an instruction -/
structure InSt where
  x : List Bool
  y : List Bool
  slots : Int
  uni : Int
  set : Int
  put : Int
  calls : Bool
  ended : Bool
namespace InSt
def known (s : InSt) (v : Int) : Bool := if 0 < v then s.x.getD v.toNat false else if s.slots < -v then false else s.y.getD (-v).toNat false
def learn (s : InSt) (v : Int) : Bool × InSt := if 0 < v then (true, { s with x := s.x.set v.toNat true }) else if s.slots < -v then (false, s) else (true, { s with y := s.y.set (-v).toNat true })
def args (s : InSt) (n : Int) : Bool := (((s.x.drop 1).take n.toNat).all fun b => b)
def clearX (s : InSt) : InSt := { s with x := s.x.map fun _ => false }
def clearY (s : InSt) (k : Nat) : InSt := { s with y := s.y.take k ++ (s.y.drop k).map fun _ => false }
def rowV (s : InSt) (i : Ins) : Bool × InSt := if i.op = 6 ∨ i.op = 15 then s.learn i.v else if i.op = 7 ∨ i.op = 16 then (s.known i.v, s) else (true, s)
def rowU (s : InSt) (i : Ins) : Bool × InSt := if s.uni = 0 then (false, s) else ({ s with uni := s.uni - 1 } : InSt).rowV i
def rowS (s : InSt) (i : Ins) : Bool × InSt :=
  if s.set = 0 then (false, s) else
    let r := ({ s with set := s.set - 1 } : InSt).rowV i
    if r.2.set = 0 then (r.1, { r.2 with x := r.2.x.set r.2.put.toNat true }) else r
def call (s : InSt) (n left : Int) : Bool × InSt := (decide (0 ≤ s.slots) && decide (left ≤ s.slots) && s.args n, { (s.clearX.clearY (left + 1).toNat) with slots := left, calls := true })
def end_ (s : InSt) (n : Int) : Bool × InSt := (decide (s.slots < 0) && s.args n, { s with ended := true })
def get (s : InSt) (i : Ins) : Bool × InSt :=
  let ok := s.x.getD i.a.toNat false
  if i.op = 1 then (if ok then s.learn i.v else (false, s)) else if i.op = 2 then (ok && s.known i.v, s) else if i.op = 5 then (ok, { s with uni := i.n }) else (ok, s)
def store (s : InSt) (i : Ins) : Bool × InSt :=
  if i.op = 14 then (true, { s with set := i.n, put := i.a }) else
    let r := if i.op = 10 then s.learn i.v else if i.op = 11 then (s.known i.v, s) else (true, s)
    (r.1, { r.2 with x := r.2.x.set i.a.toNat true })
def env (s : InSt) (i : Ins) : Bool × InSt :=
  if i.op = 20 then (decide (0 ≤ s.slots), { (s.clearY 0) with slots := -1 }) else (!(decide (0 ≤ s.slots) || s.calls), { s with slots := i.n })
def flow (s : InSt) (i : Ins) : Bool × InSt :=
  if i.op = 21 then s.call i.n i.a else if i.op = 23 then s.call 2 i.a else if i.op = 22 then s.end_ i.n else if i.op = 24 then s.end_ 2 else if i.op = 25 then s.end_ 0 else (true, { s with ended := true })
def step (s : InSt) (i : Ins) : Bool × InSt :=
  if s.ended then (false, s)
  else if 6 ≤ i.op ∧ i.op ≤ 9 then s.rowU i
  else if 15 ≤ i.op ∧ i.op ≤ 18 then s.rowS i
  else if 0 < s.uni + s.set then (false, s)
  else if i.op ≤ 5 then s.get i
  else if i.op ≤ 14 then s.store i
  else if i.op ≤ 20 then s.env i
  else if i.op = 26 then (if i.v < 0 then s.learn i.v else (false, s))
  else if i.op = 27 then s.learn i.v
  else if i.op = 29 then (decide (i.v < 0) && s.known i.v, s)
  else if i.op = 28 then (!s.calls, s)
  else s.flow i
def start (arity : Nat) : InSt := ⟨(List.range 256).map (fun k => decide (1 ≤ k ∧ k ≤ arity)), List.replicate 65 false, -1, 0, 0, 0, false, false⟩
/-- The states ahead of instructions; none: one may not stand there. -/
def run : InSt → List Ins → Option InSt
  | s, [] => some s
  | s, i :: r => if insMay i && (s.step i).1 then run (s.step i).2 r else none
end InSt
/-- How many instructions may stand, from a state on. -/
def runAt : InSt → List Ins → Nat
  | _, [] => 0
  | s, i :: r => if insMay i && (s.step i).1 then runAt (s.step i).2 r + 1 else 0
/-- What Check answers: where, and what. -/
def chkIns (l : List Ins) (arity : Int) : Int × Int :=
  if arity < 0 ∨ 16 < arity then (0, 1) else if 4096 < l.length then (0, 3)
  else match (InSt.start arity.toNat).run l with
    | none => (runAt (InSt.start arity.toNat) l, 160)
    | some s => (l.length, if s.ended then 0 else 160)

theorem run_take : ∀ {l : List Ins} {s e : InSt} {n : Nat}, s.run l = some e → n < l.length → ∃ m, s.run (l.take n) = some m ∧ m.ended = false
  | [], s, e, n, _, h => by simp at h
  | i :: r, s, e, n, h, hn => by
    simp only [InSt.run] at h
    split at h
    · rename_i hi
      cases n with
      | zero =>
        refine ⟨s, rfl, ?_⟩
        simp only [Bool.and_eq_true] at hi
        have h2 := hi.2
        unfold InSt.step at h2
        cases he : s.ended
        · rfl
        · simp [he] at h2
      | succ n =>
        obtain ⟨m, h1, h2⟩ := run_take (n := n) h (by simpa using hn)
        refine ⟨m, ?_, h2⟩
        simp only [List.take_succ_cons, InSt.run]
        rw [if_pos hi]
        exact h1
    · cases h
/-- P16.3: a beginning of right code is right up to its end. -/
theorem cuts {l : List Ins} {arity : Int} {n : Nat} (h : (chkIns l arity).2 = 0) (hn : n < l.length) : chkIns (l.take n) arity = ((n : Int), 160) := by
  unfold chkIns at h ⊢
  by_cases h1 : arity < 0 ∨ 16 < arity
  · rw [if_pos h1] at h; cases h
  · rw [if_neg h1] at h ⊢
    by_cases h2 : 4096 < l.length
    · rw [if_pos h2] at h; cases h
    · rw [if_neg h2] at h
      have hl : (l.take n).length = n := by simp; omega
      rw [if_neg (by rw [hl]; omega)]
      cases hr : (InSt.start arity.toNat).run l with
      | none => rw [hr] at h; cases h
      | some e =>
        obtain ⟨m, h3, h4⟩ := run_take hr hn
        rw [h3]
        simp [h4, hl]
end Go.El

/- Layer 16: the walks of Name, has, within. -/
namespace Go.Proofs.YtmnnhdegoapfcaaGreatDoor
open Go.RowKit Go.El

def nameAt (k : Nat) : List UInt8 := (opTab.getD k ([], 0)).1
def fldAt (k : Nat) : Nat := (opTab.getD k ([], 0)).2
/-- The table of operations. -/
def OpTabAt (w : World) : Prop := ∀ k, k < 31 → w.cell? ⟨0, k * 2, none⟩ = some (.string ⟨(nameAt k).toArray⟩) ∧ w.cell? ⟨0, k * 2 + 1, none⟩ = some (.int .i64 (fldAt k))
theorem OpTabAt.ext {w w' : World} (h : OpTabAt w) (x : Ext w w') : OpTabAt w' := fun k hk => ⟨x.cell (h k hk).1, x.cell (h k hk).2⟩

theorem ret_bI {a b : Bool} (h : a = true ↔ b = true) : Ending.returned (.bool a) = .returned (.bool b) := by rw [Bool.eq_iff_iff.2 h]
/-- The fields that are asked for. -/
def askL : List (Int × Nat) := [(1, 1), (2, 2), (4, 4), (8, 8), (16, 16), (32, 32), (64, 64), (128, 128), (6, 6), (104, 104), (144, 144), (96, 96)]
theorem has_bits : ∀ o ∈ List.range 31, ∀ p ∈ askL, (Go.bits BinOp.and IntKind.i64 (fldAt o) p.1 != 0) = hasF o p.2 := by decide +kernel

set_option maxRecDepth 100000 in
theorem has_any (o : Int) (h0 : 0 ≤ o) (h3 : o < 31) (f : Int) (g : Nat) (hf : (f, g) ∈ askL) (w : World) (h : OpTabAt w) :
    Calls Tryz.prog 59 #[.int .i64 o, .int .i64 f] w fun e w' => e = .returned (.bool (hasF o g)) ∧ w = w' := by
  obtain ⟨k, rfl⟩ : ∃ k : Nat, o = k := ⟨o.toNat, by omega⟩
  have hk : k < 31 := by omega
  obtain ⟨_, h1⟩ := h k hk
  have hb := has_bits k (by simpa using hk) (f, g) hf
  dsimp only at hb
  clear h hf h0 h3
  go_enter Tryz.func59, Tryz.ntmps59
  go_wp2_with fail
  go_ret
  exact ⟨rfl, rfl⟩

set_option maxRecDepth 100000 in
theorem within_any (is : Bool) (n least most : Int) (w : World) :
    Calls Tryz.prog 93 #[.bool is, .int .i64 n, .int .i64 least, .int .i64 most] w fun e w' => e = .returned (.bool (withinF is n least most)) ∧ w = w' := by
  cases is
  · go_enter Tryz.func93, Tryz.ntmps93
    go_wp2_with fail
    go_ret
    exact ⟨ret_bI (by simp [withinF]), rfl⟩
  · by_cases h1 : least ≤ n
    · by_cases h2 : n ≤ most
      all_goals
        go_enter Tryz.func93, Tryz.ntmps93
        go_wp2_with fail
        go_ret
        exact ⟨ret_bI (by simp [withinF, h1, h2]), rfl⟩
    · go_enter Tryz.func93, Tryz.ntmps93
      go_wp2_with fail
      go_ret
      exact ⟨ret_bI (by simp [withinF]; omega), rfl⟩

set_option maxRecDepth 100000 in
theorem name_any (o : Int) (w : World) (h : OpTabAt w) :
    Calls Tryz.prog 55 #[.int .i64 o] w fun e w' => e = .returned (.string ⟨(nameF o).toArray⟩) ∧ w = w' := by
  by_cases h0 : o < 0
  · rw [show nameF o = [] from if_pos (.inl h0)]
    go_enter Tryz.func55, Tryz.ntmps55
    go_wp2_with fail
    go_ret
    exact ⟨rfl, rfl⟩
  · by_cases h3 : 31 ≤ o
    · rw [show nameF o = [] from if_pos (.inr h3)]
      go_enter Tryz.func55, Tryz.ntmps55
      go_wp2_with fail
      go_ret
      exact ⟨rfl, rfl⟩
    · rw [show nameF o = nameAt o.toNat from if_neg (by omega)]
      obtain ⟨k, rfl⟩ : ∃ k : Nat, o = k := ⟨o.toNat, by omega⟩
      have hk : k < 31 := by omega
      obtain ⟨h1, _⟩ := h k hk
      rw [Int.toNat_natCast]
      clear h
      go_enter Tryz.func55, Tryz.ntmps55
      go_wp2_with fail
      go_ret
      exact ⟨rfl, rfl⟩

end Go.Proofs.YtmnnhdegoapfcaaGreatDoor

/- Layer 16: the walks of number, May. -/
namespace Go.El
theorem nameF_in {o : Int} (h : nameF o ≠ []) : 0 ≤ o ∧ o < 31 := by
  unfold nameF at h
  split at h
  · exact absurd rfl h
  · omega
end Go.El
namespace Go.Proofs.YtmnnhdegoapfcaaGreatDoor
open Go.RowKit Go.El

theorem quiet_leftI {P : Program} {f : FuncId} {args : Array Value} {w : World} {n : Nat} {v : Value} (h : Calls P f args (w.drewN n) fun e w' => e = .returned v ∧ w.drewN n = w') : Calls P f args (w.drewN n) fun e w'' => e = .returned v ∧ ∃ m, w'' = w.drewN m :=
  h.mono fun _ _ ⟨he, hw⟩ => ⟨he, n, hw.symm⟩
theorem ext_boxI (w : World) (o : Obj) : Ext w (w.alloc o) := (Ext.refl w).alloc o

set_option maxRecDepth 100000 in
set_option maxHeartbeats 2000000 in
theorem number_any (i : Ins) (h0 : 0 ≤ i.op) (h3 : i.op < 31) (w : World) (h : OpTabAt w) :
    Calls Tryz.prog 94 #[insVal i] w fun e w' => e = .returned (.bool (numberF i)) ∧ Ext w w' := by
  have hx := ext_boxI w (.cells #[.int .i64 i.op, .string i.s, .int .i64 i.n, .int .i64 i.v, .int .i64 i.a] 25)
  have HB := Lib.hid (Blk.new w 25 #[.int .i64 i.op, .string i.s, .int .i64 i.n, .int .i64 i.v, .int .i64 i.a])
  have H32 := fun (W : World) (x : OpTabAt W) => Lib.hid (has_any i.op h0 h3 32 32 (by decide) W x)
  have H64 := fun (W : World) (x : OpTabAt W) => Lib.hid (has_any i.op h0 h3 64 64 (by decide) W x)
  have H128 := fun (W : World) (x : OpTabAt W) => Lib.hid (has_any i.op h0 h3 128 128 (by decide) W x)
  have H16 := fun (W : World) (x : OpTabAt W) => Lib.hid (has_any i.op h0 h3 16 16 (by decide) W x)
  have HO := Lib.hid (h.ext hx)
  have hnum : numberF i = if hasF i.op 32 then withinF true i.n 1 16 else if hasF i.op 64 then withinF true i.n 0 16 else if hasF i.op 128 then withinF true i.n 0 64 else withinF (hasF i.op 16) i.n (-9007199254740991) 9007199254740991 := rfl
  rw [hnum]
  unfold insVal
  have c0 := HB.out.cell 0
  have c1 := HB.out.cell 1
  have c2 := HB.out.cell 2
  have c3 := HB.out.cell 3
  have c4 := HB.out.cell 4
  clear hnum h HB h0 h3
  generalize hasF i.op 32 = b32 at *
  generalize hasF i.op 64 = b64 at *
  generalize hasF i.op 128 = b128 at *
  generalize hasF i.op 16 = b16 at *
  cases b32
  · cases b64
    · cases b128
      · simp only [Bool.false_eq_true, if_false]
        go_enter Tryz.func94, Tryz.ntmps94
        go_upto_region 7 with (first | (go_at_call 59; with_reducible refine (H32 _ HO.out).out.mono ?_; rintro e W1 ⟨rfl, rfl⟩) | (go_at_call 59; with_reducible refine (H64 _ HO.out).out.mono ?_; rintro e W1 ⟨rfl, rfl⟩) | (go_at_call 59; with_reducible refine (H128 _ HO.out).out.mono ?_; rintro e W1 ⟨rfl, rfl⟩) | (go_at_call 59; with_reducible refine (H16 _ HO.out).out.mono ?_; rintro e W1 ⟨rfl, rfl⟩))
        go_quiet ((first | (go_at_call 59; exact quiet_leftI (H16 _ (HO.out.ext ((Ext.refl _).drewN _))).out) | (go_at_call 93; exact quiet_leftI (within_any _ _ _ _ _))))
        go_wp2_with fail
        go_ret
        exact ⟨rfl, hx.drewN _⟩
      · skip
        simp only [Bool.false_eq_true, if_false, if_true]
        go_enter Tryz.func94, Tryz.ntmps94
        go_wp2_with (first | (go_at_call 59; with_reducible refine (H32 _ HO.out).out.mono ?_; rintro e W1 ⟨rfl, rfl⟩) | (go_at_call 59; with_reducible refine (H64 _ HO.out).out.mono ?_; rintro e W1 ⟨rfl, rfl⟩) | (go_at_call 59; with_reducible refine (H128 _ HO.out).out.mono ?_; rintro e W1 ⟨rfl, rfl⟩) | (go_at_call 59; with_reducible refine (H16 _ HO.out).out.mono ?_; rintro e W1 ⟨rfl, rfl⟩) | (go_at_call 93; refine (within_any _ _ _ _ _).mono ?_; rintro e W2 ⟨rfl, rfl⟩))
        go_ret
        exact ⟨rfl, hx⟩
    · skip
      simp only [Bool.false_eq_true, if_false, if_true]
      go_enter Tryz.func94, Tryz.ntmps94
      go_wp2_with (first | (go_at_call 59; with_reducible refine (H32 _ HO.out).out.mono ?_; rintro e W1 ⟨rfl, rfl⟩) | (go_at_call 59; with_reducible refine (H64 _ HO.out).out.mono ?_; rintro e W1 ⟨rfl, rfl⟩) | (go_at_call 59; with_reducible refine (H128 _ HO.out).out.mono ?_; rintro e W1 ⟨rfl, rfl⟩) | (go_at_call 59; with_reducible refine (H16 _ HO.out).out.mono ?_; rintro e W1 ⟨rfl, rfl⟩) | (go_at_call 93; refine (within_any _ _ _ _ _).mono ?_; rintro e W2 ⟨rfl, rfl⟩))
      go_ret
      exact ⟨rfl, hx⟩
  · skip
    simp only [if_true]
    go_enter Tryz.func94, Tryz.ntmps94
    go_wp2_with (first | (go_at_call 59; with_reducible refine (H32 _ HO.out).out.mono ?_; rintro e W1 ⟨rfl, rfl⟩) | (go_at_call 59; with_reducible refine (H64 _ HO.out).out.mono ?_; rintro e W1 ⟨rfl, rfl⟩) | (go_at_call 59; with_reducible refine (H128 _ HO.out).out.mono ?_; rintro e W1 ⟨rfl, rfl⟩) | (go_at_call 59; with_reducible refine (H16 _ HO.out).out.mono ?_; rintro e W1 ⟨rfl, rfl⟩) | (go_at_call 93; refine (within_any _ _ _ _ _).mono ?_; rintro e W2 ⟨rfl, rfl⟩))
    go_ret
    exact ⟨rfl, hx⟩

end Go.Proofs.YtmnnhdegoapfcaaGreatDoor
