/- What the evaluator's values, blocks and heaps stand for: values and blocks of a world, each block somewhere; what stays when more blocks are known. -/
import Derived.Test.YtkenjhchfidpbaaGreatDoorC02
import Derived.Below
import Derived.Deep.MidRow
namespace Go.Ev
open Go.RowKit

/-- Where a block lies: in which block of the world, and from which cell on. -/
structure Pl where
  f : Nat → Option (Nat × Nat)
  m : Nat → Nat
instance : CoeFun Pl (fun _ => Nat → Option (Nat × Nat)) := ⟨Pl.f⟩
structure Le (φ ψ : Pl) : Prop where
  p : ∀ i x, φ i = some x → ψ i = some x
  m : ∀ i x, φ i = some x → ψ.m i = φ.m i
instance {φ ψ : Pl} : CoeFun (Le φ ψ) (fun _ => ∀ i x, φ i = some x → ψ i = some x) := ⟨Le.p⟩
theorem Le.refl (φ : Pl) : Le φ φ := ⟨fun _ _ h => h, fun _ _ _ => rfl⟩
theorem Le.trans {φ ψ χ : Pl} (h : Le φ ψ) (k : Le ψ χ) : Le φ χ := ⟨fun i x e => k.p i x (h.p i x e), fun i x e => (k.m i x (h.p i x e)).trans (h.m i x e)⟩

inductive FR (φ : Pl) : Fn → Fn → Prop
  | func (f : FuncId) : FR φ (.func f) (.func f)
  | yield (l r : Nat) (h : φ l = some (r, 0)) : FR φ (.yield l) (.yield r)

mutual
inductive VR (φ : Pl) : AV → Value → Prop
  | bool (b : Bool) : VR φ (.bool b) (.bool b)
  | int (k : IntKind) (n : Int) : VR φ (.int k n) (.int k n)
  | str (b : ByteArray) : VR φ (.str (b.data.toList.map UInt8.toNat)) (.string b)
  | ptr (i o b k : Nat) (h : φ i = some (b, k)) : VR φ (.ptr i o) (.pointer (some ⟨b, k + o, none⟩))
  | nilp : VR φ .nilp (.pointer none)
  | sl (i o l c c' b k z : Nat) (h : φ i = some (b, k)) (hc : c ≤ c') (he : z = 0 → c' = c) (hz : z ≠ 0 → o + c' * z ≤ φ.m i) : VR φ (.sl i o l c z) (.slice (some ⟨b, k + o, none⟩) l c')
  | slz (a : Addr) (c' : Nat) : VR φ .slz (.slice (some a) 0 c')
  | nils : VR φ .nils (.slice none 0 0)
  | map (i r : Nat) (h : φ i = some (r, 0)) : VR φ (.map i) (.map (some r))
  | nilm : VR φ .nilm (.map none)
  | fn (f g : Fn) (a b : List AV) (a' b' : Array Value) (hf : FR φ f g) (ha : VRs φ a a'.toList) (hb : VRs φ b b'.toList) : VR φ (.fn f a b) (.func g a' b')
  | nilf : VR φ .nilf .nilFunc
  | nili : VR φ .nili .nilIface
  | ifc (t : TypeId) (v : AV) (v' : Value) (h : VR φ v v') : VR φ (.ifc t v) (.iface t v')
  | agg (l : List AV) (a : Array Value) (h : VRs φ l a.toList) : VR φ (.agg l) (.agg a)
  | tup (l : List AV) (a : Array Value) (h : VRs φ l a.toList) : VR φ (.tup l) (.tuple a)
inductive VRs (φ : Pl) : List AV → List Value → Prop
  | nil : VRs φ [] []
  | cons (v : AV) (v' : Value) (l : List AV) (l' : List Value) (h : VR φ v v') (t : VRs φ l l') : VRs φ (v :: l) (v' :: l')
end

theorem FR.mono {φ ψ : Pl} (hl : Le φ ψ) {f g : Fn} (h : FR φ f g) : FR ψ f g := by
  cases h with
  | func f => exact .func f
  | yield l r h => exact .yield l r (hl _ _ h)
mutual
theorem VR.mono {φ ψ : Pl} (hl : Le φ ψ) {v : AV} {v' : Value} (h : VR φ v v') : VR ψ v v' :=
  match h with
  | .bool b => .bool b
  | .int k n => .int k n
  | .str b => .str b
  | .ptr i o b k h => .ptr i o b k (hl _ _ h)
  | .nilp => .nilp
  | .sl i o l c c' b k z h hc he hz => .sl i o l c c' b k z (hl _ _ h) hc he (fun n => by rw [hl.m _ _ h]; exact hz n)
  | .slz a c' => .slz a c'
  | .nils => .nils
  | .map i r h => .map i r (hl _ _ h)
  | .nilm => .nilm
  | .fn f g a b a' b' hf ha hb => .fn f g a b a' b' (hf.mono hl) (ha.mono hl) (hb.mono hl)
  | .nilf => .nilf
  | .nili => .nili
  | .ifc t v v' h => .ifc t v v' (h.mono hl)
  | .agg l a h => .agg l a (h.mono hl)
  | .tup l a h => .tup l a (h.mono hl)
theorem VRs.mono {φ ψ : Pl} (hl : Le φ ψ) {l : List AV} {l' : List Value} (h : VRs φ l l') : VRs ψ l l' :=
  match h with
  | .nil => .nil
  | .cons v v' l l' h t => .cons v v' l l' (h.mono hl) (t.mono hl)
end

section
variable {φ : Pl}
theorem VRs.length {l : List AV} {l' : List Value} (h : VRs φ l l') : l'.length = l.length := by
  induction l generalizing l' with
  | nil => cases h; rfl
  | cons v l ih => cases h with | cons _ v' _ l' h t => simp [ih t]
theorem VRs.append {a b : List AV} {a' b' : List Value} (h : VRs φ a a') (k : VRs φ b b') : VRs φ (a ++ b) (a' ++ b') := by
  induction a generalizing a' with
  | nil => cases h; exact k
  | cons v a ih => cases h with | cons _ v' _ l' h t => exact .cons _ _ _ _ h (ih t)
theorem VRs.get {l : List AV} {l' : List Value} (h : VRs φ l l') {i : Nat} {v : AV} (hi : l[i]? = some v) : ∃ v', l'[i]? = some v' ∧ VR φ v v' := by
  induction l generalizing l' i with
  | nil => simp at hi
  | cons w l ih =>
    cases h with
    | cons _ w' _ l' h t =>
      cases i with
      | zero => simp at hi; subst hi; exact ⟨w', by simp, h⟩
      | succ i => simp at hi; obtain ⟨v', a, b⟩ := ih t hi; exact ⟨v', by simpa using a, b⟩
theorem VRs.drop {l : List AV} {l' : List Value} (h : VRs φ l l') (n : Nat) : VRs φ (l.drop n) (l'.drop n) := by
  induction n generalizing l l' with
  | zero => simpa using h
  | succ n ih => cases h with
    | nil => simpa using VRs.nil
    | cons _ _ _ _ _ t => simpa using ih t
theorem VRs.take {l : List AV} {l' : List Value} (h : VRs φ l l') (n : Nat) : VRs φ (l.take n) (l'.take n) := by
  induction n generalizing l l' with
  | zero => simpa using VRs.nil
  | succ n ih => cases h with
    | nil => simpa using VRs.nil
    | cons _ _ _ _ h t => simpa using VRs.cons _ _ _ _ h (ih t)

/-- A value of one cell. -/
theorem one_cell {v : AV} {v' : Value} (h : VR φ v v') (o : one v = true) : v'.oneCell' = true := by
  cases h <;> first | rfl | exact absurd o (by simp [one])
theorem one_cells {v : AV} {v' : Value} (h : VR φ v v') (o : one v = true) : v'.cells = #[v'] ∧ cellsA v = [v] := by
  cases h <;> first | exact ⟨rfl, rfl⟩ | exact absurd o (by simp [one])
theorem cells_rel {v : AV} {v' : Value} (h : VR φ v v') : VRs φ (cellsA v) v'.cells.toList := by
  cases h with
  | agg l a h => exact h
  | bool b => exact .cons _ _ _ _ (.bool b) .nil
  | int k n => exact .cons _ _ _ _ (.int k n) .nil
  | str b => exact .cons _ _ _ _ (.str b) .nil
  | ptr i o b k h => exact .cons _ _ _ _ (.ptr i o b k h) .nil
  | nilp => exact .cons _ _ _ _ .nilp .nil
  | sl i o l c c' b k z h hc he hz => exact .cons _ _ _ _ (.sl i o l c c' b k z h hc he hz) .nil
  | slz a c' => exact .cons _ _ _ _ (.slz a c') .nil
  | nils => exact .cons _ _ _ _ .nils .nil
  | map i r h => exact .cons _ _ _ _ (.map i r h) .nil
  | nilm => exact .cons _ _ _ _ .nilm .nil
  | fn f g a b a' b' hf ha hb => exact .cons _ _ _ _ (.fn f g a b a' b' hf ha hb) .nil
  | nilf => exact .cons _ _ _ _ .nilf .nil
  | nili => exact .cons _ _ _ _ .nili .nil
  | ifc t v v' h => exact .cons _ _ _ _ (.ifc t v v' h) .nil
  | tup l a h => exact .cons _ _ _ _ (.tup l a h) .nil
theorem allOne_cells {l : List AV} {l' : List Value} (h : VRs φ l l') (o : allOne l = true) : ∀ v' ∈ l', v'.oneCell' = true := by
  induction l generalizing l' with
  | nil => cases h; intro v' h; simp at h
  | cons v l ih =>
    cases h with
    | cons _ w _ l' h t =>
      simp only [allOne, Bool.and_eq_true] at o
      intro v' hv
      rcases List.mem_cons.1 hv with rfl | hv
      · exact one_cell h o.1
      · exact ih t o.2 v' hv

/-! Values of the text -/
theorem ofV0_rel {v : Value} {x : AV} (h : ofV0 v = some x) : VR φ x v := by
  cases v with
  | bool b => injection h with h; subst h; exact .bool _
  | int k n => injection h with h; subst h; exact .int _ _
  | string s => injection h with h; subst h; exact .str _
  | nilFunc => injection h with h; subst h; exact .nilf
  | nilIface => injection h with h; subst h; exact .nili
  | pointer a => cases a with
    | none => injection h with h; subst h; exact .nilp
    | some a => exact absurd h (by simp [ofV0])
  | map a => cases a with
    | none => injection h with h; subst h; exact .nilm
    | some a => exact absurd h (by simp [ofV0])
  | slice a l c => cases a with
    | some a => exact absurd h (by simp [ofV0])
    | none =>
      have h' : (bif Nat.beq l 0 && Nat.beq c 0 then some AV.nils else none) = some x := h
      cases hb : (Nat.beq l 0 && Nat.beq c 0) with
      | false => rw [hb] at h'; exact absurd h' (by simp)
      | true =>
        rw [hb] at h'
        injection h' with h'
        simp only [Bool.and_eq_true] at hb
        have hl := Nat.eq_of_beq_eq_true hb.1
        have hc := Nat.eq_of_beq_eq_true hb.2
        subst hl hc h'
        exact .nils
  | float k b => exact absurd h (by simp [ofV0])
  | complex k a b => exact absurd h (by simp [ofV0])
  | chan r => exact absurd h (by simp [ofV0])
  | func f a b => exact absurd h (by simp [ofV0])
  | iface t v => exact absurd h (by simp [ofV0])
  | agg c => exact absurd h (by simp [ofV0])
  | tuple c => exact absurd h (by simp [ofV0])
theorem mapO_rel {l : List Value} {x : List AV} (h : mapO ofV0 l = some x) : VRs φ x l := by
  induction l generalizing x with
  | nil => simp only [mapO] at h; injection h with h; subst h; exact .nil
  | cons v l ih =>
    simp only [mapO] at h
    split at h
    · rename_i y hy
      split at h
      · rename_i l' hl
        injection h with h; subst h
        exact .cons _ _ _ _ (ofV0_rel hy) (ih hl)
      · exact absurd h (by simp)
    · exact absurd h (by simp)
theorem ofV_rel {v : Value} {x : AV} (h : ofV v = some x) : VR φ x v := by
  unfold ofV at h
  split at h
  · split at h
    · rename_i l hl; injection h with h; subst h; exact .agg _ _ (mapO_rel hl)
    · exact absurd h (by simp)
  · rename_i vs
    cases hb : vs.toList.isEmpty with
    | false => rw [hb] at h; exact absurd h (by simp)
    | true =>
      rw [hb] at h; injection h with h; subst h
      exact .tup _ _ (by rw [List.isEmpty_iff.1 hb]; exact .nil)
  · exact ofV0_rel h
end

/-! Temporaries -/
def TR (φ : Pl) (T : PT AV) (tmps : Array Value) : Prop := ∀ i v, T.get i = some v → ∃ v', tmps[i]? = some v' ∧ VR φ v v'
theorem TR.mono {φ ψ : Pl} (hl : Le φ ψ) {T : PT AV} {a : Array Value} (h : TR φ T a) : TR ψ T a := fun i v e => let ⟨v', x, y⟩ := h i v e; ⟨v', x, y.mono hl⟩
theorem TR.empty (φ : Pl) (a : Array Value) : TR φ .e a := fun i v e => by simp [get_e] at e
theorem TR.put {φ : Pl} {T : PT AV} {a : Array Value} (h : TR φ T a) {d : Nat} (hd : d < a.size) (hb : d < 5000000) {v : AV} {v' : Value} (hv : VR φ v v') : TR φ (T.put d v) (a.setIfInBounds d v') := by
  intro i w e
  rw [put_get _ _ _ _ hb] at e
  by_cases hi : i = d
  · subst hi
    rw [if_pos rfl] at e; injection e with e; subst e
    exact ⟨v', by simp [hd], hv⟩
  · rw [if_neg hi] at e
    obtain ⟨w', x, y⟩ := h i w e
    exact ⟨w', by rw [Array.getElem?_setIfInBounds, if_neg (by omega)]; exact x, y⟩

/-! Blocks -/
structure CR (φ : Pl) (c : PT AV) (n : Nat) (cs : Array Value) (k : Nat) : Prop where
  len : k + n ≤ cs.size
  bd : n ≤ 1000000
  cell : ∀ j v, j < n → c.get j = some v → ∃ v', cs[k + j]? = some v' ∧ VR φ v v'
theorem CR.mono {φ ψ : Pl} (hl : Le φ ψ) {c : PT AV} {n k : Nat} {cs : Array Value} (h : CR φ c n cs k) : CR ψ c n cs k :=
  ⟨h.len, h.bd, fun j v hj e => let ⟨v', x, y⟩ := h.cell j v hj e; ⟨v', x, y.mono hl⟩⟩

inductive ER (φ : Pl) : List (AV × AV × Nat) → List MapEntry → Prop
  | nil : ER φ [] []
  | cons (k v : AV) (n : Nat) (l : List (AV × AV × Nat)) (k' v' : Value) (l' : List MapEntry) (hk : VR φ k k') (hv : VR φ v v') (t : ER φ l l') : ER φ ((k, v, n) :: l) (⟨k', v', n⟩ :: l')
theorem ER.mono {φ ψ : Pl} (hl : Le φ ψ) {l : List (AV × AV × Nat)} {l' : List MapEntry} (h : ER φ l l') : ER ψ l l' := by
  induction h with
  | nil => exact .nil
  | cons k v n l k' v' l' hk hv t ih => exact .cons k v n l k' v' l' (hk.mono hl) (hv.mono hl) ih

structure LR (φ : Pl) (r : LoopR) (r' : Loop) : Prop where
  state : r'.state = r.state
  pending : r'.pending = r.pending
  tmps : TR φ r.tmps r'.tmps
  size : r'.tmps.size = r.size
  params : r'.params.toList = r.params
  assign : r'.assign = r.assign
  body : r'.body = r.body
  defers : φ r.defers = some (r'.defers, 0)
theorem LR.mono {φ ψ : Pl} (hl : Le φ ψ) {r : LoopR} {r' : Loop} (h : LR φ r r') : LR ψ r r' :=
  ⟨h.state, h.pending, h.tmps.mono hl, h.size, h.params, h.assign, h.body, hl _ _ h.defers⟩

inductive BR (φ : Pl) : Blk → Obj → Nat → Prop
  | cells (e : TypeId) (c : PT AV) (n fl : Nat) (cs : Array Value) (fr : Nat × Nat) (k : Nat) (h : CR φ c n cs k) (hx : fl = 0 ∨ fl = 2 → k = 0 ∧ cs.size = n)
      (hf : fl ≠ 3 → fr = (0, 0)) (hn : ∀ j, j < cs.size → ¬ (fr.1 ≤ j ∧ j < fr.2)) : BR φ (.cells e c n fl) (.cells cs e fr) k
  | map (es : List (AV × AV × Nat)) (es' : Array MapEntry) (ck : Nat) (h : ER φ es es'.toList) : BR φ (.map es ck) (.map es' ck) 0
  | sit (b : ByteArray) (pos : Nat) : BR φ (.sit (b.data.toList.map UInt8.toNat) pos) (.stringIter b pos) 0
  | mit0 (since : Nat) (seen : Array Nat) (st : Nat) : BR φ (.mit none since seen.toList st) (.mapIter none since seen st) 0
  | mit (m r : Nat) (hm : φ m = some (r, 0)) (since : Nat) (seen : Array Nat) (st : Nat) : BR φ (.mit (some m) since seen.toList st) (.mapIter (some r) since seen st) 0
  | loop (r : LoopR) (r' : Loop) (h : LR φ r r') : BR φ (.loop r) (.loop r') 0
  | dfr : BR φ (.dfr false) (.deferred (some [])) 0
  | dfrN : BR φ (.dfr true) (.deferred none) 0
theorem BR.mono {φ ψ : Pl} (hl : Le φ ψ) {b : Blk} {o : Obj} {k : Nat} (h : BR φ b o k) : BR ψ b o k := by
  cases h with
  | cells e c n fl cs fr k h hx hf hn => exact .cells e c n fl cs fr k (h.mono hl) hx hf hn
  | map es es' ck h => exact .map es es' ck (h.mono hl)
  | sit b pos => exact .sit b pos
  | mit0 since seen st => exact .mit0 since seen st
  | mit m r hm since seen st => exact .mit m r (hl _ _ hm) since seen st
  | loop r r' h => exact .loop r r' (h.mono hl)
  | dfr => exact .dfr
  | dfrN => exact .dfrN

def ro : Blk → Bool
  | .cells _ _ _ 2 => true
  | _ => false

/-- What a run leaves alone: blocks that stay as they are; blocks that nothing known lies in; numbers that are not given. -/
structure Kp where
  o : Nat → Prop
  x : Nat → Prop
  n : Nat → Prop
/-- Below a block. -/
def below (B : Nat) : Kp := ⟨fun k => k < B, fun _ => False, fun _ => False⟩
/-- The kept blocks are as they were; the streams are as they were; no block has gone. -/
structure Below (N : Kp) (w w' : World) : Prop where
  os : w'.os = w.os
  tape : w'.tape = w.tape
  output : w'.output = w.output
  size : w.heap.size ≤ w'.heap.size
  block : ∀ k, N.o k → w'.heap[k]? = w.heap[k]?
theorem Below.refl (N : Kp) (w : World) : Below N w w := ⟨rfl, rfl, rfl, Nat.le_refl _, fun _ _ => rfl⟩
theorem Below.trans {N : Kp} {a b c : World} (h : Below N a b) (k : Below N b c) : Below N a c :=
  ⟨k.os.trans h.os, k.tape.trans h.tape, k.output.trans h.output, Nat.le_trans h.size k.size, fun j hj => (k.block j hj).trans (h.block j hj)⟩
theorem Below.drew {N : Kp} {a w : World} (h : Below N a w) : Below N a w.drew := ⟨h.os, h.tape, h.output, h.size, h.block⟩
theorem Below.alloc {N : Kp} {a w : World} (h : Below N a w) (hB : ∀ k, N.o k → k < w.heap.size) (o : Obj) : Below N a (w.alloc o) :=
  h.trans ⟨rfl, rfl, rfl, by simp, fun k hk => Go.RowKit.Below.heap_alloc _ _ _ (hB k hk)⟩
theorem Below.setCell {N : Kp} {a w : World} (h : Below N a w) {p : Addr} (hp : ¬ N.o p.block) (u : Value) : Below N a (w.setCell p u) :=
  h.trans ⟨rfl, rfl, rfl, by simp [World.setCell], fun k hk => Go.RowKit.Below.heap_setCell _ _ _ _ (fun e => hp (e ▸ hk))⟩

/-- The world holds what the evaluator's heap tells. -/
structure Sim (N : Kp) (φ : Pl) (h : H) (w : World) : Prop where
  blk : ∀ i b, h.b.get i = some b → ∃ r k o, φ i = some (r, k) ∧ w.heap[r]? = some o ∧ BR φ b o k
  inj : ∀ i j b c r k k', h.b.get i = some b → h.b.get j = some c → φ i = some (r, k) → φ j = some (r, k') → i = j
  fresh : ∀ i, h.nx ≤ i → φ i = none
  own : ∀ i b r k, h.b.get i = some b → ro b = false → φ i = some (r, k) → ¬ N.o r
  glob : ∀ g, g < 1000 → φ g = some (g, 0)
  big : 1000 ≤ h.nx
  low : h.nx ≤ 5000000
  size : ∀ k, N.o k ∨ N.x k → k < w.heap.size
  hid : ∀ i b r k, h.b.get i = some b → φ i = some (r, k) → ¬ N.x r
  res : ∀ i, N.n i → i < h.nx ∧ φ i = none
  rm : ∀ i b r k cs t fr, h.b.get i = some b → φ i = some (r, k) → w.heap[r]? = some (.cells cs t fr) → k + φ.m i = cs.size

/-- Only the heap counts. -/
theorem Sim.heap {N : Kp} {φ : Pl} {h : H} {w w' : World} (s : Sim N φ h w) (e : w'.heap = w.heap) : Sim N φ h w' :=
  ⟨fun i b hb => by rw [e]; exact s.blk i b hb, s.inj, s.fresh, s.own, s.glob, s.big, s.low, by rw [e]; exact s.size, s.hid, s.res, by rw [e]; exact s.rm⟩
theorem Sim.at {N : Kp} {φ : Pl} {h : H} {w : World} (s : Sim N φ h w) {i : Nat} {b : Blk} (hb : h.b.get i = some b) {r k : Nat} (hp : φ i = some (r, k)) : ∃ o, w.heap[r]? = some o ∧ BR φ b o k := by
  obtain ⟨r', k', o, e, ho, hr⟩ := s.blk i b hb
  rw [hp] at e; injection e with e; injection e with a c; subst a c
  exact ⟨o, ho, hr⟩
theorem Sim.lt {N : Kp} {φ : Pl} {h : H} {w : World} (s : Sim N φ h w) {i : Nat} {b : Blk} (hb : h.b.get i = some b) : i < h.nx := by
  obtain ⟨r, k, o, e, _, _⟩ := s.blk i b hb
  rcases Nat.lt_or_ge i h.nx with hlt | hge
  · exact hlt
  · rw [s.fresh i hge] at e; exact absurd e (by simp)

/-- One place more. -/
def add (φ : Pl) (i : Nat) (x : Nat × Nat) (m : Nat) : Pl := ⟨fun j => if j = i then some x else φ j, fun j => if j = i then m else φ.m j⟩
theorem add_ne {φ : Pl} {i j : Nat} {x : Nat × Nat} {m : Nat} (hj : j ≠ i) : add φ i x m j = φ j := if_neg hj
theorem add_m_ne {φ : Pl} {i j : Nat} {x : Nat × Nat} {m : Nat} (hj : j ≠ i) : (add φ i x m).m j = φ.m j := if_neg hj
theorem add_m {φ : Pl} {i : Nat} {x : Nat × Nat} {m : Nat} : (add φ i x m).m i = m := if_pos rfl
theorem add_le {φ : Pl} {i : Nat} {x : Nat × Nat} {m : Nat} (h : φ i = none) : Le φ (add φ i x m) := by
  have hne : ∀ j y, φ j = some y → j ≠ i := fun j y e hj => by subst hj; rw [h] at e; exact absurd e (by simp)
  exact ⟨fun j y e => by rw [add_ne (hne j y e)]; exact e, fun j y e => add_m_ne (hne j y e)⟩
theorem add_at {φ : Pl} {i : Nat} {x : Nat × Nat} {m : Nat} : add φ i x m i = some x := if_pos rfl

theorem newB_some {h h' : H} {b : Blk} {i : Nat} (e : newB h b = some (i, h')) : i = h.nx ∧ h' = ⟨h.b.put h.nx b, h.nx + 1⟩ ∧ h.nx < 5000000 := by
  obtain ⟨c, e⟩ := iff_some e
  injection e with e; injection e with a b
  exact ⟨a.symm, b.symm, by simpa [Nat.blt_eq] using c⟩

/-- A new block. -/
theorem Sim.new {N : Kp} {φ : Pl} {h h' : H} {w : World} {b : Blk} {i m : Nat} {o : Obj} (s : Sim N φ h w) (e : newB h b = some (i, h')) (hb : BR (add φ i (w.heap.size, 0) m) b o 0) (hm : ∀ cs t fr, o = .cells cs t fr → m = cs.size) :
    Sim N (add φ i (w.heap.size, 0) m) h' (w.alloc o) ∧ Le φ (add φ i (w.heap.size, 0) m) ∧ Below N w (w.alloc o) := by
  obtain ⟨rfl, rfl, hlt⟩ := newB_some e
  have hle : Le φ (add φ h.nx (w.heap.size, 0) m) := add_le (s.fresh _ (Nat.le_refl _))
  refine ⟨⟨?_, ?_, ?_, ?_, ?_, ?_, hlt, ?_, ?_, ?_, ?_⟩, hle, (Below.refl N w).alloc (fun k hk => s.size k (.inl hk)) o⟩
  · intro j c hc
    rw [put_get _ _ _ _ hlt] at hc
    by_cases hj : j = h.nx
    · subst hj
      rw [if_pos rfl] at hc; injection hc with hc; subst hc
      exact ⟨_, _, o, add_at, (by show (w.heap.push o)[w.heap.size]? = _; simp), hb⟩
    · rw [if_neg hj] at hc
      obtain ⟨r, k, o', e1, e2, e3⟩ := s.blk j c hc
      have hr : r < w.heap.size := (Array.getElem?_eq_some_iff.1 e2).1
      exact ⟨r, k, o', hle _ _ e1, by rw [Go.RowKit.Below.heap_alloc _ _ _ hr]; exact e2, e3.mono hle⟩
  · have old : ∀ j c r k, j ≠ h.nx → h.b.get j = some c → add φ h.nx (w.heap.size, 0) m j = some (r, k) → r < w.heap.size ∧ φ j = some (r, k) := by
      intro j c r k hj hc hp
      have hp' : φ j = some (r, k) := by rwa [add_ne hj] at hp
      obtain ⟨o', ho, _⟩ := s.at hc hp'
      exact ⟨(Array.getElem?_eq_some_iff.1 ho).1, hp'⟩
    intro i j b c r k k' hb hc hi hj
    rw [put_get _ _ _ _ hlt] at hb hc
    by_cases h1 : i = h.nx
    · by_cases h2 : j = h.nx
      · rw [h1, h2]
      · rw [if_neg h2] at hc
        have := (old j c r k' h2 hc hj).1
        subst h1
        rw [add_at] at hi; injection hi with hi; injection hi with a _; omega
    · rw [if_neg h1] at hb
      by_cases h2 : j = h.nx
      · have := (old i b r k h1 hb hi).1
        subst h2
        rw [add_at] at hj; injection hj with hj; injection hj with a _; omega
      · rw [if_neg h2] at hc
        exact s.inj i j b c r k k' hb hc (old i b r k h1 hb hi).2 (old j c r k' h2 hc hj).2
  · intro j hj
    show add φ h.nx _ _ j = none
    have : h.nx + 1 ≤ j := hj
    rw [add_ne (by omega)]; exact s.fresh j (by omega)
  · intro j c r k hc hro hp
    rw [put_get _ _ _ _ hlt] at hc
    by_cases hj : j = h.nx
    · subst hj; rw [add_at] at hp; injection hp with hp; injection hp with a _; rw [← a]; exact fun hk => Nat.lt_irrefl _ (s.size _ (.inl hk))
    · rw [if_neg hj] at hc
      exact s.own j c r k hc hro (by rwa [add_ne hj] at hp)
  · intro g hg; exact hle _ _ (s.glob g hg)
  · have := s.big; show 1000 ≤ h.nx + 1; omega
  · intro k hk
    show k < (w.heap.push o).size
    have := s.size k hk; simp; omega
  · intro j c r k hc hp
    rw [put_get _ _ _ _ hlt] at hc
    by_cases hj : j = h.nx
    · subst hj; rw [add_at] at hp; injection hp with hp; injection hp with a _; rw [← a]; exact fun hk => Nat.lt_irrefl _ (s.size _ (.inr hk))
    · rw [if_neg hj] at hc
      exact s.hid j c r k hc (by rwa [add_ne hj] at hp)
  · intro i hi
    obtain ⟨a, b⟩ := s.res i hi
    refine ⟨Nat.lt_succ_of_lt a, ?_⟩
    rw [add_ne (by omega)]; exact b
  · intro j c r k cs t fr hc hp ho
    rw [put_get _ _ _ _ hlt] at hc
    by_cases hj : j = h.nx
    · subst hj
      rw [add_at] at hp; injection hp with hp; injection hp with a1 a2
      subst a1 a2
      have ho' : (w.heap.push o)[w.heap.size]? = some (.cells cs t fr) := ho
      rw [add_m, Nat.zero_add]
      exact hm cs t fr (by simpa using ho')
    · rw [if_neg hj] at hc
      rw [add_ne hj] at hp
      rw [add_m_ne hj]
      obtain ⟨o', h1, _⟩ := s.at hc hp
      have hr : r < w.heap.size := (Array.getElem?_eq_some_iff.1 h1).1
      rw [Go.RowKit.Below.heap_alloc _ _ _ hr] at ho
      exact s.rm j c r k cs t fr hc hp ho
end Go.Ev
