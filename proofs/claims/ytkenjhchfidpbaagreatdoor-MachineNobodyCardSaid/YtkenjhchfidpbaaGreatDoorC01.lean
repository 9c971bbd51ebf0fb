/- An evaluator for closed calls: what a call computes, on a heap of its own whose blocks have numbers instead of addresses. No program in sight. -/
import Derived.RangeFuncLeaves
import Derived.Orders
namespace Go.Ev

/-- If, by the recursor (for the kernel). -/
noncomputable def iff' {α : Type} (b : Bool) (x y : α) : α := Bool.rec y x b
noncomputable def ob {α β : Type} (o : Option α) (k : α → Option β) : Option β := Option.rec none k o
/-- A map from numbers, by their digits: 0 is here; the others by fours. -/
inductive PT (α : Type) where
  | e : PT α
  | n : Option α → PT α → PT α → PT α → PT α → PT α

noncomputable def PT.get {α : Type} (t : PT α) : Nat → Option α :=
  PT.rec (motive := fun _ => Nat → Option α) (fun _ => none)
    (fun v _ _ _ _ ga gb gc gd i => Bool.rec (Bool.rec (Bool.rec (gd (Nat.div (Nat.sub i 1) 4)) (gc (Nat.div (Nat.sub i 1) 4)) (Nat.beq (Nat.mod (Nat.sub i 1) 4) 2)) (Bool.rec (gb (Nat.div (Nat.sub i 1) 4)) (ga (Nat.div (Nat.sub i 1) 4)) (Nat.beq (Nat.mod (Nat.sub i 1) 4) 0)) (Nat.ble (Nat.mod (Nat.sub i 1) 4) 1)) (v) (Nat.beq i 0)) t

/-- One entry alone. -/
noncomputable def PT.single {α : Type} (f : Nat) : Nat → Option α → PT α :=
  Nat.rec (motive := fun _ => Nat → Option α → PT α) (fun _ _ => .e)
    (fun _ ih i v => Bool.rec (Bool.rec (Bool.rec (.n none .e .e .e (ih (Nat.div (Nat.sub i 1) 4) v)) (.n none .e .e (ih (Nat.div (Nat.sub i 1) 4) v) .e) (Nat.beq (Nat.mod (Nat.sub i 1) 4) 2)) (Bool.rec (.n none .e (ih (Nat.div (Nat.sub i 1) 4) v) .e .e) (.n none (ih (Nat.div (Nat.sub i 1) 4) v) .e .e .e) (Nat.beq (Nat.mod (Nat.sub i 1) 4) 0)) (Nat.ble (Nat.mod (Nat.sub i 1) 4) 1)) (.n v .e .e .e .e) (Nat.beq i 0)) f

noncomputable def PT.set {α : Type} (f : Nat) (t : PT α) : Nat → Option α → PT α :=
  PT.rec (motive := fun _ => Nat → Option α → PT α) (fun i v => PT.single f i v)
    (fun u a b c d sa sb sc sd i v => Bool.rec (Bool.rec (Bool.rec (.n u a b c (sd (Nat.div (Nat.sub i 1) 4) v)) (.n u a b (sc (Nat.div (Nat.sub i 1) 4) v) d) (Nat.beq (Nat.mod (Nat.sub i 1) 4) 2)) (Bool.rec (.n u a (sb (Nat.div (Nat.sub i 1) 4) v) c d) (.n u (sa (Nat.div (Nat.sub i 1) 4) v) b c d) (Nat.beq (Nat.mod (Nat.sub i 1) 4) 0)) (Nat.ble (Nat.mod (Nat.sub i 1) 4) 1)) (.n v a b c d) (Nat.beq i 0)) t

/-- How many digits a number may have. -/
def dig : Nat := 12
noncomputable def PT.put {α : Type} (t : PT α) (i : Nat) (v : α) : PT α := PT.set dig t i (some v)
noncomputable def PT.del {α : Type} (t : PT α) (i : Nat) : PT α := PT.set dig t i none

/-- Values: a pointer is a block's number and a place; a slice's last word is 0 if its capacity is known; else the capacity is a lower bound, and the word tells the cells of an element. -/
inductive AV where
  | bool (b : Bool)
  | int (k : IntKind) (n : Int)
  | str (s : List Nat)
  | ptr (i off : Nat)
  | nilp
  | sl (i off len cap z : Nat)
  | slz
  | nils
  | map (i : Nat)
  | nilm
  | fn (f : Fn) (first cap : List AV)
  | nilf
  | nili
  | ifc (t : TypeId) (v : AV)
  | agg (l : List AV)
  | tup (l : List AV)
  deriving Inhabited

structure LoopR where
  state : LoopState
  pending : Option Code
  fn : FuncId
  tmps : PT AV
  size : Nat
  params : List Tmp
  assign : Code
  body : Code
  defers : Nat

/-- Blocks. A row's last word: 0: it is as long as told; 1: at least so long; 2: as told, and only read; 3: at least so long, made of a string. -/
inductive Blk where
  | cells (e : TypeId) (c : PT AV) (n : Nat) (fl : Nat)
  | map (es : List (AV × AV × Nat)) (clock : Nat)
  | sit (s : List Nat) (pos : Nat)
  | mit (m : Option Nat) (since : Nat) (seen : List Nat) (stepped : Nat)
  | loop (l : LoopR)
  | dfr (taken : Bool)

structure H where
  b : PT Blk
  nx : Nat

structure Ctx where
  tt : PT TypeInfo
  ft : PT Func
  eqs : List TypeId
  ext : PT Nat
  lies : List (TypeId × Nat × Nat × TypeId)

/-! Types -/
noncomputable def und (C : Ctx) (t : TypeId) : Option TypeDesc :=
  ob (C.tt.get t) fun i => (match i.desc with
    | .named _ u => ob (C.tt.get u) fun j => some j.desc
    | d => some d)
noncomputable def siz (C : Ctx) (t : TypeId) : Option Nat := ob (C.tt.get t) fun i => some i.size
noncomputable def byt (C : Ctx) (t : TypeId) : Option Nat := ob (C.tt.get t) fun i => some i.bytes
def isAgg (d : TypeDesc) : Bool := match d with | .struct _ => true | .array _ _ => true | _ => false

/-! Numbers -/
def ltI : Int → Int → Bool
  | .ofNat a, .ofNat b => Nat.blt a b
  | .ofNat _, .negSucc _ => false
  | .negSucc _, .ofNat _ => true
  | .negSucc a, .negSucc b => Nat.blt b a
def eqI : Int → Int → Bool
  | .ofNat a, .ofNat b => Nat.beq a b
  | .negSucc a, .negSucc b => Nat.beq a b
  | _, _ => false
def kEq : IntKind → IntKind → Bool
  | .i8, .i8 | .i16, .i16 | .i32, .i32 | .i64, .i64 | .u8, .u8 | .u16, .u16 | .u32, .u32 | .u64, .u64 => true
  | _, _ => false
def wr (k : IntKind) (n : Int) : Int :=
  match n with
  | .ofNat a => bif Nat.blt a 127 then n else bif (match k with | .i64 => Nat.blt a 9223372036854775807 | .u64 => Nat.blt a 18446744073709551615 | _ => false) then n else k.wrap n
  | .negSucc a => bif (match k with | .i64 => Nat.blt a 9223372036854775807 | _ => false) then n else k.wrap n

/-! Values of the program's text -/
def ofV0 : Value → Option AV
  | .bool b => some (.bool b)
  | .int k n => some (.int k n)
  | .string s => some (.str (s.data.toList.map UInt8.toNat))
  | .pointer none => some .nilp
  | .slice none l c => bif Nat.beq l 0 && Nat.beq c 0 then some .nils else none
  | .map none => some .nilm
  | .nilFunc => some .nilf
  | .nilIface => some .nili
  | _ => none
def mapO {α β : Type} (f : α → Option β) : List α → Option (List β)
  | [] => some []
  | x :: l => match f x with
    | some y => match mapO f l with | some l' => some (y :: l') | none => none
    | none => none
def ofV : Value → Option AV
  | .agg cs => match mapO ofV0 cs.toList with | some l => some (.agg l) | none => none
  | .tuple vs => bif vs.toList.isEmpty then some (.tup []) else none
  | v => ofV0 v
noncomputable def zer (C : Ctx) (t : TypeId) : Option AV := match C.tt.get t with | some i => (match i.zero with | some v => ofV v | none => none) | none => none

noncomputable def opnd (T : PT AV) (x : Operand) : Option AV :=
  Operand.rec (fun t => T.get t) (fun v => ofV v) (fun g => iff' (Nat.blt g 1000) (some (.ptr g 0)) none) (fun f => some (.fn (.func f) [] [])) x
noncomputable def opnds (T : PT AV) (l : List Operand) : Option (List AV) :=
  List.rec (some []) (fun x _ ih => ob (opnd T x) fun y => ob ih fun r => some (y :: r)) l

noncomputable def cellsA (v : AV) : List AV := AV.rec (motive_1 := fun _ => AV → List AV) (motive_2 := fun _ => PUnit) (fun _ v => [v]) (fun _ _ v => [v]) (fun _ v => [v]) (fun _ _ v => [v]) (fun v => [v]) (fun _ _ _ _ _ v => [v]) (fun v => [v]) (fun v => [v]) (fun _ v => [v]) (fun v => [v]) (fun _ _ _ _ _ v => [v]) (fun v => [v]) (fun v => [v]) (fun _ _ _ v => [v]) (fun l _ _v => l) (fun _ _ v => [v]) PUnit.unit (fun _ _ _ _ => PUnit.unit) v v
def one : AV → Bool
  | .agg _ => false
  | .tup _ => false
  | _ => true

/-! Rows of cells -/
noncomputable def pt {α : Type} (l : List α) : Nat → PT α → PT α :=
  List.rec (motive := fun _ => Nat → PT α → PT α) (fun _ t => t) (fun x _ ih i t => ih (Nat.add i 1) (t.put i x)) l
noncomputable def getN {α : Type} (t : PT α) (i n : Nat) : Option (List α) :=
  Nat.rec (motive := fun _ => Nat → Option (List α)) (fun _ => some []) (fun _ ih i => ob (t.get i) fun v => ob (ih (Nat.add i 1)) fun l => some (v :: l)) n i
noncomputable def loadC (h : H) (i off n : Nat) : Option (List AV) :=
  ob (h.b.get i) fun b => Blk.casesOn (motive := fun _ => Option (List AV)) b (fun _ c m _ => iff' (Nat.ble (Nat.add off n) m) (getN c off n) none) (fun _ _ => none) (fun _ _ => none) (fun _ _ _ _ => none) (fun _ => none) (fun _ => none)
noncomputable def load1 (h : H) (i off : Nat) : Option AV :=
  ob (h.b.get i) fun b => Blk.casesOn (motive := fun _ => Option AV) b (fun _ c m _ => iff' (Nat.blt off m) (c.get off) none) (fun _ _ => none) (fun _ _ => none) (fun _ _ _ _ => none) (fun _ => none) (fun _ => none)
def allOne : List AV → Bool
  | [] => true
  | v :: l => one v && allOne l
noncomputable def storeC (h : H) (i off : Nat) (l : List AV) : Option H :=
  ob (h.b.get i) fun b => Blk.casesOn (motive := fun _ => Option H) b
    (fun e c m fl => iff' (Nat.ble (Nat.add off l.length) m) (iff' (allOne l) (iff' (Nat.beq fl 2) none (some ⟨h.b.put i (.cells e (pt l off c) m fl), h.nx⟩)) none) none)
    (fun _ _ => none) (fun _ _ => none) (fun _ _ _ _ => none) (fun _ => none) (fun _ => none)
noncomputable def newB (h : H) (b : Blk) : Option (Nat × H) := iff' (Nat.blt h.nx 5000000) (some (h.nx, ⟨h.b.put h.nx b, Nat.add h.nx 1⟩)) none
noncomputable def newRow (h : H) (e : TypeId) (l : List AV) (fl : Nat) : Option (Nat × H) := iff' (Nat.ble l.length 1000000) (iff' (allOne l) (newB h (.cells e (pt l 0 .e) l.length fl)) none) none

/-! Which addresses are the same -/
noncomputable def live (h : H) (i : Nat) : Bool := match h.b.get i with | some (.cells _ _ n fl) => Nat.blt 0 n && !(Nat.beq fl 3) | _ => false
noncomputable def eqPtr (h : H) (i o j p : Nat) : Option Bool :=
  bif Nat.beq i j then some (Nat.beq o p) else bif live h i && live h j then some false else none
def eqS : List Nat → List Nat → Bool
  | [], [] => true
  | a :: x, b :: y => Nat.beq a b && eqS x y
  | _, _ => false
def ltS : List Nat → List Nat → Bool
  | _, [] => false
  | [], _ :: _ => true
  | a :: x, b :: y => Nat.blt a b || (Nat.beq a b && ltS x y)

noncomputable def part (C : Ctx) (t : TypeId) (l : List AV) (off : Nat) : Option AV :=
  match und C t with
  | some d => bif isAgg d then (match siz C t with | some n => bif Nat.ble (Nat.add off n) l.length then some (.agg ((l.drop off).take n)) else none | none => none) else (l.drop off).head?
  | none => none

/-- The fields of two structs, one by one. -/
noncomputable def eqFs (C : Ctx) (eq : TypeId → AV → AV → Option Bool) (xs ys : List AV) : List Field → Option Bool
  | [] => some true
  | f :: fs => bif f.name != "_" then (match part C f.type xs f.offset, part C f.type ys f.offset with
      | some a, some b => (match eq f.type a b with | some true => eqFs C eq xs ys fs | r => r)
      | _, _ => none) else eqFs C eq xs ys fs
noncomputable def eqIs (C : Ctx) (eq : AV → AV → Option Bool) (e : TypeId) (s : Nat) (xs ys : List AV) : List Nat → Option Bool
  | [] => some true
  | i :: is => match part C e xs (Nat.mul i s), part C e ys (Nat.mul i s) with
      | some a, some b => (match eq a b with | some true => eqIs C eq e s xs ys is | r => r)
      | _, _ => none
/-- Two values of a type: the same? -/
noncomputable def eqT (C : Ctx) (h : H) : Nat → TypeId → AV → AV → Option Bool
  | 0, _, _, _ => none
  | d + 1, t, x, y =>
    match und C t with
    | none => none
    | some u => match u, x, y with
      | .bool, .bool a, .bool b => some (match a, b with | true, true => true | false, false => true | _, _ => false)
      | .int _, .int k a, .int k' b => bif kEq k k' then some (eqI a b) else none
      | .string, .str a, .str b => some (eqS a b)
      | .pointer _, .nilp, .nilp => some true
      | .pointer _, .nilp, .ptr _ _ => some false
      | .pointer _, .ptr _ _, .nilp => some false
      | .pointer e, .ptr i o, .ptr j p => (match siz C e with | some n => bif Nat.beq n 0 then none else eqPtr h i o j p | none => none)
      | .struct fs, .agg xs, .agg ys => bif C.eqs.any (Nat.beq t) then eqFs C (eqT C h d) xs ys fs.toList else none
      | .array n e, .agg xs, .agg ys => (match siz C e with
          | some s => eqIs C (eqT C h d e) e s xs ys (List.range n)
          | none => none)
      | .slice _, .nils, .nils => some true
      | .slice _, .nils, .sl .. => some false
      | .slice _, .nils, .slz => some false
      | .slice _, .sl .., .nils => some false
      | .slice _, .slz, .nils => some false
      | .map _ _, .nilm, .nilm => some true
      | .map _ _, .nilm, .map _ => some false
      | .map _ _, .map _, .nilm => some false
      | .func _ _ _, .nilf, .nilf => some true
      | .func _ _ _, .nilf, .fn .. => some false
      | .func _ _ _, .fn .., .nilf => some false
      | .interface _, .nili, .ifc _ _ => some false
      | .interface _, .ifc _ _, .nili => some false
      | _, _, _ => none

/-- Below this a number of a kind is its own bits. -/
def lim (k : IntKind) : Nat := match k with | .i8 => 128 | .i16 => 32768 | .i32 => 2147483648 | .i64 => 9223372036854775808 | .u8 => 256 | .u16 => 65536 | .u32 => 4294967296 | .u64 => 18446744073709551616
noncomputable def nat? (n : Int) : Option Nat := Int.rec some (fun _ => none) n
noncomputable def natK (f : Nat → Nat → Nat) (k : IntKind) (a b : Int) : Option AV :=
  ob (nat? a) fun x => ob (nat? b) fun y => iff' (Nat.blt x (lim k)) (iff' (Nat.blt y (lim k)) (some (.int k (.ofNat (f x y)))) none) none
noncomputable def intA (op : BinOp) (k : IntKind) (a b : Int) : Option AV :=
  BinOp.rec (motive := fun _ => IntKind → Int → Int → Option AV)
    (fun k a b => some (.int k (wr k (Int.add a b))))
    (fun k a b => some (.int k (wr k (Int.sub a b))))
    (fun k a b => some (.int k (wr k (Int.mul a b))))
    (fun k a b => iff' (eqI b 0) none (some (.int k (k.wrap (a.tdiv b)))))
    (fun k a b => iff' (eqI b 0) none (some (.int k (a.tmod b))))
    (fun k a b => natK Nat.land k a b)
    (fun k a b => natK Nat.lor k a b)
    (fun _ _ _ => none) (fun _ _ _ => none) (fun _ _ _ => none) (fun _ _ _ => none)
    (fun _ a b => some (.bool (eqI a b)))
    (fun _ a b => some (.bool (!(eqI a b))))
    (fun _ a b => some (.bool (ltI a b)))
    (fun _ a b => some (.bool (!(ltI b a))))
    (fun _ a b => some (.bool (ltI b a)))
    (fun _ a b => some (.bool (!(ltI a b)))) op k a b
noncomputable def shA (op : BinOp) (k : IntKind) (a b : Int) : Option AV :=
  match b with
  | .ofNat n => bif Nat.ble n k.bits then (match op with
    | .shl => some (.int k (k.wrap (a * 2 ^ n)))
    | .shr => some (.int k (a.fdiv (2 ^ n)))
    | _ => none) else none
  | .negSucc _ => none
noncomputable def strA (op : BinOp) (a b : List Nat) : Option AV :=
  match op with
  | .add => bif Nat.blt (Nat.add a.length b.length) 1000000000 then some (.str (a ++ b)) else none
  | .eql => some (.bool (eqS a b))
  | .neq => some (.bool (!(eqS a b)))
  | .lss => some (.bool (ltS a b))
  | .leq => some (.bool (ltS a b || eqS a b))
  | .gtr => some (.bool (!(ltS a b || eqS a b)))
  | .geq => some (.bool (!(ltS a b)))
  | _ => none
noncomputable def eqG (C : Ctx) (h : H) (op : BinOp) (t : TypeId) (x y : AV) : Option AV :=
  match op with
  | .eql => (match eqT C h 100 t x y with | some b => some (.bool b) | none => none)
  | .neq => (match eqT C h 100 t x y with | some b => some (.bool (!b)) | none => none)
  | _ => none
noncomputable def genA (C : Ctx) (h : H) (op : BinOp) (t : TypeId) (c : Bool) (x y : AV) : Option AV :=
  match x, y with
  | .nili, .nili => (match op, und C t with
    | .eql, some (.interface _) => bif c then some (.bool true) else none
    | .neq, some (.interface _) => bif c then some (.bool false) else none
    | _, _ => none)
  | .agg a, .agg b => bif C.eqs.any (Nat.beq t) then eqG C h op t (.agg a) (.agg b) else none
  | x, y => eqG C h op t x y
noncomputable def intK (op : BinOp) (k : IntKind) (a : Int) (k' : IntKind) (b : Int) : Option AV :=
  match op with
  | .shl => shA op k a b
  | .shr => shA op k a b
  | _ => iff' (kEq k k') (intA op k a b) none
noncomputable def binA (C : Ctx) (h : H) (op : BinOp) (t : TypeId) (c : Bool) (x y : AV) : Option AV :=
  AV.rec (motive_1 := fun _ => Ctx → H → BinOp → TypeId → Bool → AV → AV → Option AV) (motive_2 := fun _ => PUnit) (fun _ C h op t c x y => genA C h op t c x y) (fun k a _C _h op _t _c _x y => AV.rec (motive_1 := fun _ => BinOp → IntKind → Int → Option AV) (motive_2 := fun _ => PUnit) (fun _ _op _k _a => none) (fun k' b op k a => intK op k a k' b) (fun _ _op _k _a => none) (fun _ _ _op _k _a => none) (fun _op _k _a => none) (fun _ _ _ _ _ _op _k _a => none) (fun _op _k _a => none) (fun _op _k _a => none) (fun _ _op _k _a => none) (fun _op _k _a => none) (fun _ _ _ _ _ _op _k _a => none) (fun _op _k _a => none) (fun _op _k _a => none) (fun _ _ _ _op _k _a => none) (fun _ _ _op _k _a => none) (fun _ _ _op _k _a => none) PUnit.unit (fun _ _ _ _ => PUnit.unit) y op k a) (fun a _C _h op _t _c _x y => AV.rec (motive_1 := fun _ => BinOp → List Nat → Option AV) (motive_2 := fun _ => PUnit) (fun _ _op _a => none) (fun _ _ _op _a => none) (fun b op a => strA op a b) (fun _ _ _op _a => none) (fun _op _a => none) (fun _ _ _ _ _ _op _a => none) (fun _op _a => none) (fun _op _a => none) (fun _ _op _a => none) (fun _op _a => none) (fun _ _ _ _ _ _op _a => none) (fun _op _a => none) (fun _op _a => none) (fun _ _ _ _op _a => none) (fun _ _ _op _a => none) (fun _ _ _op _a => none) PUnit.unit (fun _ _ _ _ => PUnit.unit) y op a) (fun _ _ C h op t c x y => genA C h op t c x y) (fun C h op t c x y => genA C h op t c x y) (fun _ _ _ _ _ C h op t c x y => genA C h op t c x y) (fun C h op t c x y => genA C h op t c x y) (fun C h op t c x y => genA C h op t c x y) (fun _ C h op t c x y => genA C h op t c x y) (fun C h op t c x y => genA C h op t c x y) (fun _ _ _ _ _ C h op t c x y => genA C h op t c x y) (fun C h op t c x y => genA C h op t c x y) (fun C h op t c x y => genA C h op t c x y) (fun _ _ _ C h op t c x y => genA C h op t c x y) (fun _ _ C h op t c x y => genA C h op t c x y) (fun _ _ C h op t c x y => genA C h op t c x y) PUnit.unit (fun _ _ _ _ => PUnit.unit) x C h op t c x y
def isK : Operand → Bool
  | .const _ => true
  | _ => false
noncomputable def unA (op : UnOp) (x : AV) : Option AV :=
  match op, x with
  | .not, .bool b => some (.bool (!b))
  | .neg, .int k n => some (.int k (wr k (Int.sub 0 n)))
  | _, _ => none

/-! Parts of built values -/
def over : List AV → List AV → Nat → List AV
  | cs, [], _ => cs
  | [], _ :: _, _ => []
  | _c :: cs, v :: vs, 0 => v :: over cs vs 0
  | c :: cs, v :: vs, o + 1 => c :: over cs (v :: vs) o
noncomputable def fillF (place : Nat → Option (Nat × Nat)) : List AV → List (Nat × AV) → Option (List AV)
  | cs, [] => some cs
  | cs, (i, v) :: rest => match place i with
    | some (o, s) => bif Nat.beq (cellsA v).length s && Nat.ble (Nat.add o s) cs.length then fillF place (over cs (cellsA v) o) rest else none
    | none => none
noncomputable def partsA (T : PT AV) : List (Nat × Operand) → Option (List (Nat × AV))
  | [] => some []
  | (i, x) :: l => match opnd T x with
    | some v => match partsA T l with | some r => some ((i, v) :: r) | none => none
    | none => none
noncomputable def placesA (C : Ctx) : List Field → Option (List (Nat × Nat))
  | [] => some []
  | f :: l => match siz C f.type with
    | some s => match placesA C l with | some r => some ((f.offset, s) :: r) | none => none
    | none => none
noncomputable def buildA (C : Ctx) (t : TypeId) (ps : List (Nat × AV)) : Option AV :=
  match zer C t, und C t with
  | some z, some (.struct fs) => (match placesA C fs.toList with
    | some pl => (match fillF (fun i => pl[i]?) (cellsA z) ps with | some l => some (.agg l) | none => none)
    | none => none)
  | some z, some (.array _ e) => (match siz C e with
    | some s => (match fillF (fun i => some (Nat.mul i s, s)) (cellsA z) ps with | some l => some (.agg l) | none => none)
    | none => none)
  | _, _ => none
def repl (n : Nat) (l : List AV) : List AV := match n with | 0 => [] | n + 1 => l ++ repl n l
noncomputable def buildSl (C : Ctx) (h : H) (t : TypeId) (len : Nat) (ps : List (Nat × AV)) : Option (AV × H) :=
  match und C t with
  | some (.slice e) => (match siz C e, zer C e with
    | some s, some z => bif Nat.beq (cellsA z).length s && Nat.ble (Nat.mul len s) 100000 then (match fillF (fun i => some (Nat.mul i s, s)) (repl len (cellsA z)) ps with
      | some l => (match newRow h e l 0 with | some (i, h') => some (.sl i 0 len len 0, h') | none => none)
      | none => none) else none
    | _, _ => none)
  | _ => none

/-! Maps -/
def bits0 : AV → AV → Bool
  | .bool a, .bool b => (match a, b with | true, true => true | false, false => true | _, _ => false)
  | .int j a, .int k b => kEq j k && eqI a b
  | .str a, .str b => eqS a b
  | .ptr i o, .ptr j p => Nat.beq i j && Nat.beq o p
  | .nilp, .nilp => true
  | _, _ => false
def bitsL : List AV → List AV → Bool
  | [], [] => true
  | x :: a, y :: b => bits0 x y && bitsL a b
  | _, _ => false
/-- The same key, bit by bit. -/
def bitsA : AV → AV → Bool
  | .agg a, .agg b => bitsL a b
  | x, y => bits0 x y
def keyAt : List (AV × AV × Nat) → Nat → AV → Bool
  | [], _, _ => false
  | (k', _, _) :: _, 0, k => bitsA k' k
  | _ :: l, i + 1, k => keyAt l i k
noncomputable def findE (C : Ctx) (h : H) (t : TypeId) (k : AV) : List (AV × AV × Nat) → Nat → Option (Option (Nat × AV))
  | [], _ => some none
  | (k', v, _) :: l, i => match eqT C h 100 t k k' with
    | some true => some (some (i, v))
    | some false => findE C h t k l (Nat.add i 1)
    | none => none
/-- May a value of a type be a key? (No interface is in it.) -/
noncomputable def keyOk (C : Ctx) : Nat → TypeId → AV → Bool
  | 0, _, _ => false
  | d + 1, t, v => match und C t, v with
    | some (.struct fs), .agg l => fs.toList.all fun f => f.name == "_" || (match part C f.type l f.offset with | some x => keyOk C d f.type x | none => false)
    | some (.array n e), .agg l => (match siz C e with | some s => (List.range n).all fun i => (match part C e l (Nat.mul i s) with | some x => keyOk C d e x | none => false) | none => false)
    | some (.interface _), _ => false
    | some (.struct _), _ => false
    | some (.array _ _), _ => false
    | some _, _ => true
    | none, _ => false
def setE : List (AV × AV × Nat) → Nat → AV → List (AV × AV × Nat)
  | [], _, _ => []
  | (k, _, b) :: l, 0, v => (k, v, b) :: l
  | e :: l, i + 1, v => e :: setE l i v
def delE : List (AV × AV × Nat) → Nat → List (AV × AV × Nat)
  | [], _ => []
  | _ :: l, 0 => l
  | e :: l, i + 1 => e :: delE l i
noncomputable def lookA (C : Ctx) (h : H) (t : TypeId) (m k : AV) (ok : Bool) : Option AV :=
  match und C t with
  | some (.map kt et) => bif keyOk C 50 kt k then (match m with
    | .nilm => (match zer C et with | some z => some (bif ok then .tup [z, .bool false] else z) | none => none)
    | .map i => (match h.b.get i with
      | some (.map es _) => (match findE C h kt k es 0 with
        | some (some (_, v)) => some (bif ok then .tup [v, .bool true] else v)
        | some none => (match zer C et with | some z => some (bif ok then .tup [z, .bool false] else z) | none => none)
        | none => none)
      | _ => none)
    | _ => none) else none
  | _ => none
noncomputable def updA (C : Ctx) (h : H) (t : TypeId) (m k v : AV) : Option H :=
  match und C t with
  | some (.map kt _) => bif keyOk C 50 kt k then (match m with
    | .map i => (match h.b.get i with
      | some (.map es ck) => (match findE C h kt k es 0 with
        | some (some (j, _)) => bif keyAt es j k then some ⟨h.b.put i (.map (setE es j v) ck), h.nx⟩ else none
        | some none => some ⟨h.b.put i (.map (es ++ [(k, v, ck)]) (Nat.add ck 1)), h.nx⟩
        | none => none)
      | _ => none)
    | _ => none) else none
  | _ => none
noncomputable def delA (C : Ctx) (h : H) (t : TypeId) (m k : AV) : Option H :=
  match und C t with
  | some (.map kt _) => bif keyOk C 50 kt k then (match m with
    | .nilm => some h
    | .map i => (match h.b.get i with
      | some (.map es ck) => (match findE C h kt k es 0 with
        | some (some (j, _)) => some ⟨h.b.put i (.map (delE es j) ck), h.nx⟩
        | some none => some h
        | none => none)
      | _ => none)
    | _ => none) else none
  | _ => none
noncomputable def entA (C : Ctx) (h : H) (t : TypeId) (m k : AV) : Option (AV × H) :=
  match und C t with
  | some (.map kt et) => bif keyOk C 50 kt k then (match m with
    | .map i => (match h.b.get i with
      | some (.map es ck) => (match findE C h kt k es 0 with
        | some (some (j, v)) => bif keyAt es j k then (match es[j]? with | some e => some (.tup [v, .int .i64 (.ofNat e.2.2)], h) | none => none) else none
        | some none => (match zer C et with | some z => some (.tup [z, .int .i64 (.ofNat ck)], ⟨h.b.put i (.map (es ++ [(k, z, ck)]) (Nat.add ck 1)), h.nx⟩) | none => none)
        | none => none)
      | _ => none)
    | _ => none) else none
  | _ => none
def bornAt : List (AV × AV × Nat) → Nat → Nat → Option Nat
  | [], _, _ => none
  | (_, _, b) :: l, s, i => bif Nat.beq b s then some i else bornAt l s (Nat.add i 1)
noncomputable def entSt (h : H) (m s v : AV) : Option H :=
  match m, s with
  | .map i, .int _ (.ofNat b) => (match h.b.get i with
    | some (.map es ck) => (match bornAt es b 0 with | some j => some ⟨h.b.put i (.map (setE es j v) ck), h.nx⟩ | none => none)
    | _ => none)
  | _, _ => none

/-! Slices -/
noncomputable def bnd (T : PT AV) (x : Operand) (most : Nat) : Option Nat :=
  match opnd T x with
  | some (.int _ (.ofNat n)) => bif Nat.ble n most then some n else none
  | _ => none
/-- Low, high, max; the last word: was a max given? -/
noncomputable def bnds (T : PT AV) (len cap : Nat) (lo hi mx : Option Operand) : Option (Nat × Nat × Nat) :=
  match (match mx with | some x => bnd T x cap | none => some cap) with
  | none => none
  | some m => match (match hi with | some x => bnd T x m | none => bif mx.isSome then none else some len) with
    | none => none
    | some h => match (match lo with | some x => bnd T x h | none => some 0) with
      | none => none
      | some l => some (l, h, m)
noncomputable def sliceA (C : Ctx) (T : PT AV) (t : TypeId) (x : AV) (lo hi mx : Option Operand) : Option AV :=
  match und C t, x with
  | some .string, .str s => bif mx.isSome then none else (match bnds T s.length s.length lo hi none with
    | some (l, h, _) => some (.str ((s.drop l).take (Nat.sub h l)))
    | none => none)
  | some (.slice e), .sl i off len cap z => (match siz C e, bnds T len cap lo hi mx with
    | some s, some (l, h, m) => bif Nat.beq z 0 || Nat.beq z s then (bif Nat.beq m l then (bif mx.isSome || Nat.beq z 0 then some (.sl i off (Nat.sub h l) 0 0) else bif Nat.beq l 0 then some (.sl i off (Nat.sub h l) (Nat.sub m l) z) else bif Nat.beq h l then some .slz else none)
      else bif Nat.blt l m then some (.sl i (Nat.add off (Nat.mul l s)) (Nat.sub h l) (Nat.sub m l) (bif mx.isSome then 0 else z)) else none) else none
    | _, _ => none)
  | some (.slice e), .nils => (match siz C e, bnds T 0 0 lo hi mx with | some _, some _ => some .nils | _, _ => none)
  | some (.slice e), .slz => (match siz C e, bnds T 0 0 lo hi none with | some _, some _ => bif mx.isSome then none else some .slz | _, _ => none)
  | some (.array n e), .ptr i off => (match siz C e, bnds T n n lo hi mx with
    | some s, some (l, h, m) => bif Nat.beq m l then some (.sl i off (Nat.sub h l) 0 0) else bif Nat.blt l m then some (.sl i (Nat.add off (Nat.mul l s)) (Nat.sub h l) (Nat.sub m l) 0) else none
    | _, _ => none)
  | _, _ => none

/-- What is appended: so many elements, their cells. -/
noncomputable def srcA (h : H) (s : Nat) (x : AV) : Option (Nat × List AV) :=
  match x with
  | .nils => some (0, [])
  | .slz => some (0, [])
  | .sl i off len _ _ => (match loadC h i off (Nat.mul len s) with | some l => some (len, l) | none => none)
  | .str b => bif Nat.beq s 1 then some (b.length, b.map fun c => .int .u8 (.ofNat c)) else none
  | _ => none
noncomputable def srcKind (C : Ctx) (t : TypeId) : Bool := match und C t with | some (.slice _) => true | some .string => true | _ => false
/-- Onto a slice, there is no room. -/
noncomputable def growA (h : H) (e : TypeId) (z i off len k n : Nat) (l : List AV) : Option (AV × H) :=
  match loadC h i off (Nat.mul len z) with
  | none => none
  | some old => bif Nat.beq k 0 then (match newRow h e (old ++ l) 1 with | some (j, h') => some (.sl j 0 (Nat.add len n) (Nat.add len n) z, h') | none => none)
    else bif Nat.beq k z then (match h.b.get i with
      | some (.cells e' _ _ fl) => bif Nat.beq fl 2 || !(Nat.beq e e') then none else (match newRow ⟨h.b.del i, h.nx⟩ e (old ++ l) (bif Nat.beq fl 3 then 3 else 1) with | some (j, h') => some (.sl j 0 (Nat.add len n) (Nat.add len n) z, h') | none => none)
      | _ => none) else none
noncomputable def appA (C : Ctx) (h : H) (argTypes : List TypeId) (s x : AV) : Option (AV × H) :=
  match argTypes with
  | [st, xt] => (match und C st with
    | some (.slice e) => (match siz C e, byt C e, zer C e with
      | some z, some b, some zv =>
        bif (Nat.blt 0 z && Nat.ble b 1000000) && (srcKind C xt && Nat.beq (cellsA zv).length z) then (match srcA h z x with
        | none => none
        | some (n, l) => (match s with
          | .nils => bif Nat.beq n 0 then some (.nils, h) else (match newRow h e l 1 with | some (i, h') => some (.sl i 0 n n z, h') | none => none)
          | .sl i off len cap k =>
            bif Nat.ble (Nat.add len n) cap then (bif Nat.beq n 0 then some (.sl i off len cap k, h) else (match storeC h i (Nat.add off (Nat.mul len z)) l with | some h' => some (.sl i off (Nat.add len n) cap k, h') | none => none))
            else growA h e z i off len k n l
          | .slz => bif Nat.beq n 0 then some (.slz, h) else none
          | _ => none)) else none
      | _, _, _ => none)
    | _ => none)
  | _ => none
/-- So many zeros onto nil. -/
noncomputable def appZ (C : Ctx) (h : H) (argTypes : List TypeId) (n : Nat) : Option (AV × H) :=
  match argTypes with
  | [st, xt] => (match und C st, und C xt with
    | some (.slice e), some (.int _) => (match siz C e, byt C e, zer C e with
      | some z, some b, some zv => bif (Nat.blt 0 z && Nat.ble b 1000000) && (Nat.beq (cellsA zv).length z && (Nat.blt 0 n && Nat.ble n 100000)) then (match newRow h e (repl n (cellsA zv)) 1 with | some (i, h') => some (.sl i 0 n n z, h') | none => none) else none
      | _, _, _ => none)
    | _, _ => none)
  | _ => none
noncomputable def appB (C : Ctx) (h : H) (argTypes : List TypeId) (s x : AV) : Option (AV × H) :=
  match s, x with
  | .nils, .int _ (.ofNat n) => appZ C h argTypes n
  | s, x => appA C h argTypes s x
noncomputable def copyA (C : Ctx) (h : H) (argTypes : List TypeId) (d x : AV) : Option (AV × H) :=
  match argTypes with
  | [] => none
  | st :: _ => match und C st with
    | some (.slice e) => (match siz C e with
      | none => none
      | some z => match srcA h z x with
        | none => none
        | some (n, l) => match d with
          | .nils => some (.int .i64 0, h)
          | .slz => some (.int .i64 0, h)
          | .sl i off len _ _ => bif Nat.ble n len then (match storeC h i off l with | some h' => some (.int .i64 (.ofNat n), h') | none => none)
            else (match storeC h i off (l.take (Nat.mul len z)) with | some h' => some (.int .i64 (.ofNat len), h') | none => none)
          | _ => none)
    | _ => none
noncomputable def lenA (C : Ctx) (h : H) (argTypes : List TypeId) (x : AV) : Option AV :=
  match argTypes with
  | [] => none
  | t :: _ => match und C t, x with
    | some .string, .str s => some (.int .i64 (.ofNat s.length))
    | some (.slice _), .sl _ _ n _ _ => some (.int .i64 (.ofNat n))
    | some (.slice _), .slz => some (.int .i64 0)
    | some (.slice _), .nils => some (.int .i64 0)
    | some (.array n _), _ => some (.int .i64 (.ofNat n))
    | some (.pointer a), _ => (match und C a with | some (.array n _) => some (.int .i64 (.ofNat n)) | _ => none)
    | some (.map _ _), .nilm => some (.int .i64 0)
    | some (.map _ _), .map i => (match h.b.get i with | some (.map es _) => some (.int .i64 (.ofNat es.length)) | _ => none)
    | _, _ => none
noncomputable def capA (C : Ctx) (argTypes : List TypeId) (x : AV) : Option AV :=
  match argTypes with
  | [] => none
  | t :: _ => match und C t, x with
    | some (.slice _), .sl _ _ _ c 0 => some (.int .i64 (.ofNat c))
    | some (.slice _), .nils => some (.int .i64 0)
    | _, _ => none
noncomputable def clearA (C : Ctx) (h : H) (argTypes : List TypeId) (x : AV) : Option H :=
  match argTypes with
  | [] => none
  | t :: _ => match und C t, x with
    | some (.slice _), .nils => some h
    | some (.slice _), .slz => some h
    | some (.slice e), .sl i off n _ _ => bif Nat.beq n 0 then some h else (match zer C e with | some z => storeC h i off (repl n (cellsA z)) | none => none)
    | some (.map _ _), .nilm => some h
    | some (.map _ _), .map i => (match h.b.get i with | some (.map _ ck) => some ⟨h.b.put i (.map [] ck), h.nx⟩ | _ => none)
    | _, _ => none
noncomputable def mmA (mx : Bool) : AV → List AV → Option AV
  | x, [] => some x
  | .int k a, .int _ b :: l => mmA mx (.int k (bif (bif mx then ltI a b else ltI b a) then b else a)) l
  | .str a, .str b :: l => mmA mx (.str (bif (bif mx then !(ltS a b) else (ltS a b || eqS a b)) then a else b)) l
  | _, _ => none

/-! Conversions -/
noncomputable def val0 (r : Option AV) (h : H) : Option (AV × H) := match r with | some v => some (v, h) | none => none
def bytesOk : List AV → Option (List Nat)
  | [] => some []
  | .int .u8 (.ofNat n) :: l => bif Nat.blt n 256 then (match bytesOk l with | some r => some (n :: r) | none => none) else none
  | _ => none
noncomputable def liesA (C : Ctx) (e n off u : Nat) : Bool := match siz C e with
  | some s => Nat.blt 0 s && C.lies.any fun x => Nat.beq x.1 e && (Nat.beq (Nat.mul x.2.1 s) n && (Nat.beq x.2.2.1 off && Nat.beq x.2.2.2 u))
  | none => false
noncomputable def uptr (C : Ctx) (h : H) (src dst : TypeDesc) (x : AV) : Option AV :=
  match src, dst, x with
  | .pointer _, .unsafePointer, .nilp => some .nilp
  | .unsafePointer, .pointer _, .nilp => some .nilp
  | .pointer t, .unsafePointer, .ptr i o => (match siz C t, h.b.get i with
    | some s, some (.cells _ _ n _) => bif Nat.beq s 0 then none else bif Nat.blt o n then some x else none
    | _, _ => none)
  | .unsafePointer, .pointer u, .ptr i o => (match siz C u, h.b.get i with
    | some s, some (.cells e _ n 0) => bif !(Nat.beq s 0) && liesA C e n o u then some x else none
    | _, _ => none)
  | _, _, _ => none
noncomputable def convA (C : Ctx) (h : H) (src dst : TypeId) (x : AV) : Option (AV × H) :=
  match und C src, und C dst, x with
  | some (.int _), some (.int k), .int _ n => some (.int k (wr k n), h)
  | some (.int _), some .string, .int _ (.ofNat n) => bif Nat.blt n 128 then some (.str [n], h) else none
  | some .string, some .string, .str s => some (.str s, h)
  | some .string, some (.slice e), .str s => (match und C e with
    | some (.int .u8) => (match newRow h e (s.map fun c => .int .u8 (.ofNat c)) 3 with | some (i, h') => some (.sl i 0 s.length s.length 1, h') | none => none)
    | _ => none)
  | some (.slice e), some .string, y => (match und C e with
    | some (.int .u8) => (match y with
      | .nils => some (.str [], h)
      | .slz => some (.str [], h)
      | .sl i off n _ _ => (match loadC h i off n with
        | some l => (match bytesOk l with | some s => some (.str s, h) | none => none)
        | none => none)
      | _ => none)
    | _ => none)
  | some d, some d', x => val0 (uptr C h d d' x) h
  | _, _, _ => none

/-! Places -/
noncomputable def asPtr (x : AV) : Option (Nat × Nat) := AV.rec (motive_1 := fun _ => Option (Nat × Nat)) (motive_2 := fun _ => PUnit) (fun _ => none) (fun _ _ => none) (fun _ => none) (fun i o => some (i, o)) (none) (fun _ _ _ _ _ => none) (none) (none) (fun _ => none) (none) (fun _ _ _ _ _ => none) (none) (none) (fun _ _ _ => none) (fun _ _ => none) (fun _ _ => none) PUnit.unit (fun _ _ _ _ => PUnit.unit) x
noncomputable def isAggK (d : TypeDesc) : Bool := TypeDesc.casesOn (motive := fun _ => Bool) d false false (fun _ => false) (fun _ => false) (fun _ => false) false false (fun _ => false) (fun _ => false) (fun _ _ => true) (fun _ _ => false) (fun _ _ => false) (fun _ => true) (fun _ _ _ => false) (fun _ => false) (fun _ => false) (fun _ _ => false)
/-- Is a type's value an aggregate, and of how many cells? -/
noncomputable def aggS (C : Ctx) (t : TypeId) : Option (Bool × Nat) := ob (und C t) fun d => ob (siz C t) fun n => some (isAggK d, n)
noncomputable def fldO (C : Ctx) (t : TypeId) (f : Nat) : Option Nat :=
  match und C t with
  | some (.struct fs) => (match fs.toList[f]? with
    | some fd => (match siz C fd.type with | some s => bif Nat.beq s 0 then none else some fd.offset | none => none)
    | none => none)
  | _ => none
noncomputable def fieldPl (C : Ctx) (t : TypeId) (x : AV) (f : Nat) : Option AV :=
  ob (asPtr x) fun p => ob (fldO C t f) fun o => some (.ptr p.1 (Nat.add p.2 o))
noncomputable def asNat (x : AV) : Option Nat := AV.rec (motive_1 := fun _ => Option Nat) (motive_2 := fun _ => PUnit) (fun _ => none) (fun _ n => nat? n) (fun _ => none) (fun _ _ => none) (none) (fun _ _ _ _ _ => none) (none) (none) (fun _ => none) (none) (fun _ _ _ _ _ => none) (none) (none) (fun _ _ _ => none) (fun _ _ => none) (fun _ _ => none) PUnit.unit (fun _ _ _ _ => PUnit.unit) x
noncomputable def elemS (C : Ctx) (t : TypeId) : Option (Option Nat × Nat) :=
  match und C t with
  | some (.array n e) => ob (siz C e) fun s => some (some n, s)
  | some (.slice e) => ob (siz C e) fun s => some (none, s)
  | _ => none
noncomputable def idxK (k i off n s : Nat) : Option AV := iff' (Nat.blt k n) (some (.ptr i (Nat.add off (Nat.mul k s)))) none
noncomputable def indexPl (C : Ctx) (t : TypeId) (x ix : AV) : Option AV :=
  ob (asNat ix) fun k => ob (elemS C t) fun e => AV.rec (motive_1 := fun _ => Option Nat → Nat → Nat → Option AV) (motive_2 := fun _ => PUnit) (fun _ _a _s _k => none) (fun _ _ _a _s _k => none) (fun _ _a _s _k => none) (fun i off a s k => ob a fun n => idxK k i off n s) (fun _a _s _k => none) (fun i off n _ _ a s k => Option.rec (idxK k i off n s) (fun _ => none) a) (fun _a _s _k => none) (fun _a _s _k => none) (fun _ _a _s _k => none) (fun _a _s _k => none) (fun _ _ _ _ _ _a _s _k => none) (fun _a _s _k => none) (fun _a _s _k => none) (fun _ _ _ _a _s _k => none) (fun _ _ _a _s _k => none) (fun _ _ _a _s _k => none) PUnit.unit (fun _ _ _ _ => PUnit.unit) x e.1 e.2 k
noncomputable def indexA (C : Ctx) (t : TypeId) (x ix : AV) : Option AV :=
  match ix with
  | .int _ (.ofNat k) => (match und C t, x with
    | some (.array n e), .agg l => bif Nat.blt k n then (match siz C e with | some s => part C e l (Nat.mul k s) | none => none) else none
    | some .string, .str s => (match s[k]? with | some b => some (.int .u8 (.ofNat b)) | none => none)
    | _, _ => none)
  | _ => none
noncomputable def loadA (C : Ctx) (h : H) (t : TypeId) (x : AV) : Option AV :=
  ob (asPtr x) fun p => ob (aggS C t) fun a => iff' a.1 (ob (loadC h p.1 p.2 a.2) fun l => some (.agg l)) (load1 h p.1 p.2)
noncomputable def storeA (C : Ctx) (h : H) (t : TypeId) (x v : AV) : Option H :=
  ob (asPtr x) fun p => ob (siz C t) fun n => iff' (Nat.beq (cellsA v).length n) (storeC h p.1 p.2 (cellsA v)) none
noncomputable def makeSl (C : Ctx) (h : H) (t : TypeId) (l c : AV) : Option (AV × H) :=
  match und C t, l, c with
  | some (.slice e), .int _ (.ofNat l), .int _ (.ofNat c) => (match siz C e, zer C e, byt C e with
    | some s, some z, some b => bif Nat.ble l c && Nat.ble (Nat.mul c s) 100000 && Nat.ble (Nat.mul c b) 1000000 && Nat.ble c 1000000 && Nat.beq (cellsA z).length s then (match newRow h e (repl c (cellsA z)) 0 with | some (i, h') => some (.sl i 0 l c 0, h') | none => none) else none
    | _, _, _ => none)
  | _, _, _ => none
noncomputable def rangeA (C : Ctx) (h : H) (t : TypeId) (x : AV) : Option (AV × H) :=
  match und C t, x with
  | some .string, .str s => (match newB h (.sit s 0) with | some (i, h') => some (.ptr i 0, h') | none => none)
  | some (.map _ _), .nilm => (match newB h (.mit none 0 [] 0) with | some (i, h') => some (.ptr i 0, h') | none => none)
  | some (.map _ _), .map m => (match h.b.get m with
    | some (.map _ ck) => (match newB h (.mit (some m) ck [] ck) with | some (i, h') => some (.ptr i 0, h') | none => none)
    | _ => none)
  | _, _ => none
noncomputable def nextA (h : H) (x : AV) (isStr : Bool) : Option (AV × H) :=
  match x with
  | .ptr r 0 => (match h.b.get r, isStr with
    | some (.sit s pos), true => (match s[pos]? with
      | some c => bif Nat.blt c 128 then some (.tup [.bool true, .int .i64 (.ofNat pos), .int .i32 (.ofNat c)], ⟨h.b.put r (.sit s (Nat.add pos 1)), h.nx⟩) else none
      | none => some (.tup [.bool false], h))
    | some (.mit none _ _ _), false => some (.tup [.bool false], h)
    | some (.mit (some m) since seen last), false => (match h.b.get m with
      | some (.map es ck) =>
        bif !seen.isEmpty && !es.isEmpty && es.all (fun e => Nat.ble last e.2.2) then none else
        (let left := es.filter fun e => !(seen.any (Nat.beq e.2.2))
         let old := left.filter fun e => Nat.blt e.2.2 since
         let new := left.filter fun e => !(Nat.blt e.2.2 since)
         match old, new with
         | [], [] => some (.tup [.bool false], h)
         | [e], [] => some (.tup [.bool true, e.1, e.2.1], ⟨h.b.put r (.mit (some m) since (seen ++ [e.2.2]) ck), h.nx⟩)
         | _, _ => none)
      | _ => none)
    | _, _ => none)
  | _ => none

def lastN : List Nat → Option Nat
  | [] => none
  | [x] => some x
  | _ :: l => lastN l
noncomputable def entryA (h : H) (x : AV) : Option AV :=
  match x with
  | .ptr r 0 => (match h.b.get r with
    | some (.mit (some m) _ seen st) => (match lastN seen, h.b.get m with
      | some s, some (.map es ck) => bif Nat.beq ck st then (match es.find? (fun e => Nat.beq e.2.2 s) with | some e => some (.tup [e.1, e.2.1]) | none => none) else none
      | _, _ => none)
    | _ => none)
  | _ => none
def val (r : Option AV) (h : H) : Option (AV × H) := match r with | some v => some (v, h) | none => none
def unit (r : Option H) : Option (AV × H) := match r with | some h => some (.tup [], h) | none => none

/-- The builtin functions. -/
noncomputable def builtA (C : Ctx) (h : H) (b : Builtin) (ts : List TypeId) (args : List AV) : Option (AV × H) :=
  match b, args with
  | .append, [s, x] => appB C h ts s x
  | .cap, [x] => val (capA C ts x) h
  | .clear, [x] => unit (clearA C h ts x)
  | .copy, [d, x] => copyA C h ts d x
  | .delete, [m, k] => (match ts with | t :: _ => unit (delA C h t m k) | [] => none)
  | .len, [x] => val (lenA C h ts x) h
  | .unsafeSliceData, [.sl i o _ c _] => bif Nat.beq c 0 then none else some (.ptr i o, h)
  | .unsafeSliceData, [.nils] => some (.nilp, h)
  | .unsafeString, [.nilp, .int _ (.ofNat n)] => bif Nat.beq n 0 && !ts.isEmpty then some (.str [], h) else none
  | .unsafeString, [.ptr i o, .int _ (.ofNat n)] => bif Nat.beq n 0 then (bif ts.isEmpty then none else some (.str [], h)) else (match ts, h.b.get i with
    | t :: _, some (.cells e c m fl) => (match und C t with
      | some (.pointer u) => bif (Nat.beq u e && Nat.ble (Nat.add o n) m) && (!(Nat.beq fl 2) && (match siz C e with | some z => Nat.beq z 1 | none => false)) then (match getN c o n with
        | some l => (match bytesOk l with | some s => some (.str s, ⟨h.b.del i, h.nx⟩) | none => none)
        | none => none) else none
      | _ => none)
    | _, _ => none)
  | .max, x :: l => val (mmA true x l) h
  | .min, x :: l => val (mmA false x l) h
  | _, _ => none

noncomputable def ptr0 (r : Option (Nat × H)) : Option (AV × H) := ob r fun x => some (.ptr x.1 0, x.2)
noncomputable def map0 (r : Option (Nat × H)) : Option (AV × H) := ob r fun x => some (.map x.1, x.2)
noncomputable def vb (r : Option AV) (k : AV → Option (AV × H)) : Option (AV × H) := Option.rec none k r
noncomputable def vv (r : Option AV) (h : H) : Option (AV × H) := Option.rec none (fun v => some (v, h)) r
noncomputable def pickK (T : PT AV) (h : H) (a b : Operand) (c : AV) : Option (AV × H) := match c with | .bool true => vv (opnd T a) h | .bool false => vv (opnd T b) h | _ => none
noncomputable def buildK (C : Ctx) (T : PT AV) (h : H) (t : TypeId) (ps : List (Nat × Operand)) : Option (AV × H) := match partsA T ps with | some l => vv (buildA C t l) h | none => none
noncomputable def buildSlK (C : Ctx) (T : PT AV) (h : H) (t : TypeId) (n : Nat) (ps : List (Nat × Operand)) : Option (AV × H) := match partsA T ps with | some l => buildSl C h t n l | none => none
noncomputable def nilK (h : H) (v : AV) : Option (AV × H) := match v with | .ptr .. => some (v, h) | .fn (.func _) .. => some (v, h) | .fn (.yield _) .. => some (v, h) | _ => none
noncomputable def ifcK (C : Ctx) (h : H) (t : TypeId) (v : AV) : Option (AV × H) := match und C t with | some (.interface _) => none | some _ => some (.ifc t v, h) | none => none
noncomputable def funcK (T : PT AV) (h : H) (f : Fn) (a b : List Operand) : Option (AV × H) := match f, opnds T a, opnds T b with | .func g, some a, some b => some (.fn (.func g) a b, h) | _, _, _ => none
noncomputable def makeK (C : Ctx) (T : PT AV) (h : H) (t : TypeId) (r : Option Operand) : Option (AV × H) := match und C t, r with
  | some (.map _ _), none => map0 (newB h (.map [] 0))
  | some (.map _ _), some x => vb (opnd T x) fun v => (match v with | .int _ _ => map0 (newB h (.map [] 0)) | _ => none)
  | _, _ => none
noncomputable def fieldK (C : Ctx) (h : H) (t : TypeId) (f : Nat) (x : AV) : Option (AV × H) := match x, und C t with
  | .agg l, some (.struct fs) => (match fs.toList[f]? with | some fd => vv (part C fd.type l fd.offset) h | none => none)
  | _, _ => none
noncomputable def extrK (h : H) (i : Nat) (x : AV) : Option (AV × H) := match x with | .tup l => vv l[i]? h | _ => none
/-! Code -/
inductive Out where
  | normal
  | exit (id : Nat)
  | ret
inductive R where
  | bad
  | ok (o : Out) (T : PT AV) (d : List Nat) (h : H)

/-- A call of code: a function's number and what it is given, or a round of a loop over a function. -/
abbrev CallA := H → FuncId → List AV → Option (AV × H)
abbrev RoundA := H → Nat → List AV → Option (AV × H)

noncomputable def putT (T : PT AV) (dst : Option Tmp) (v : AV) : PT AV := match dst with | some d => T.put d v | none => T

noncomputable def callFn (cf : CallA) (cr : RoundA) (h : H) (l : List AV) (f : AV) : Option (AV × H) :=
  match f with
  | .fn (.func g) first cap => cf h g (first ++ (l ++ cap))
  | .fn (.yield r) first _ => cr h r (first ++ l)
  | _ => none
noncomputable def callA (C : Ctx) (cf : CallA) (cr : RoundA) (T : PT AV) (h : H) (c : Call) : Option (AV × H) :=
  Callee.casesOn (motive := fun _ => Ctx → CallA → RoundA → PT AV → H → Call → Option (AV × H)) c.callee
    (fun f _ cf cr T h c => vb (opnd T f) fun f => ob (opnds T c.args.toList) fun l => callFn cf cr h l f)
    (fun _ _ _ _ _ _ _ _ => none)
    (fun b C _ _ T h c => ob (opnds T c.args.toList) fun l => builtA C h b c.argTypes.toList l) C cf cr T h c
/-- Any operation. -/
noncomputable def anyA (C : Ctx) (cf : CallA) (cr : RoundA) (T : PT AV) (h : H) (o : Op) : Option (AV × H) :=
  Op.rec (motive := fun _ => Ctx → CallA → RoundA → PT AV → H → Option (AV × H))
    (fun x _ _ _ T h => vv (opnd T x) h)
    (fun x _ _ _ T h => vv (opnd T x) h)
    (fun c a b _ _ _ T h => vb (opnd T c) (pickK T h a b))
    (fun e C _ _ _ h => vb (zer C e) fun z => ptr0 (newRow h e (cellsA z) 0))
    (fun e x _ _ _ T h => vb (opnd T x) fun v => ptr0 (newRow h e (cellsA v) 0))
    (fun t ps C _ _ T h => buildK C T h t ps.toList)
    (fun t n ps C _ _ T h => buildSlK C T h t n ps.toList)
    (fun t m k v C _ _ T h => vb (opnd T m) fun m => vb (opnd T k) fun k => vb (opnd T v) fun v => unit (updA C h t m k v))
    (fun t a C _ _ T h => vb (opnd T a) fun a => vv (loadA C h t a) h)
    (fun t a v C _ _ T h => vb (opnd T a) fun a => vb (opnd T v) fun v => unit (storeA C h t a v))
    (fun _ _ _ _ _ _ => none)
    (fun _ _ _ _ _ _ => none)
    (fun x _ _ _ T h => vb (opnd T x) (nilK h))
    (fun op t x' y' _ C _ _ T h => vb (opnd T x') fun x => vb (opnd T y') fun y => vv (binA C h op t (isK x' || isK y') x y) h)
    (fun op _ x _ _ _ T h => vb (opnd T x) fun x => vv (unA op x) h)
    (fun s d x C _ _ T h => vb (opnd T x) fun x => convA C h s d x)
    (fun _ _ _ _ _ _ _ => none)
    (fun t x C _ _ T h => vb (opnd T x) (ifcK C h t))
    (fun f first cap _ _ _ T h => funcK T h f first.toList cap.toList)
    (fun t r C _ _ T h => makeK C T h t r)
    (fun _ _ _ _ _ _ _ => none)
    (fun t l c C _ _ T h => vb (opnd T l) fun l => vb (opnd T c) fun c => makeSl C h t l c)
    (fun t x lo hi mx C _ _ T h => vb (opnd T x) fun x => vv (sliceA C T t x lo hi mx) h)
    (fun t x f C _ _ T h => vb (opnd T x) fun x => vv (fieldPl C t x f) h)
    (fun t x f C _ _ T h => vb (opnd T x) (fieldK C h t f))
    (fun t x i C _ _ T h => vb (opnd T x) fun x => vb (opnd T i) fun i => vv (indexPl C t x i) h)
    (fun t x i C _ _ T h => vb (opnd T x) fun x => vb (opnd T i) fun i => vv (indexA C t x i) h)
    (fun t m k ok C _ _ T h => vb (opnd T m) fun m => vb (opnd T k) fun k => vv (lookA C h t m k ok) h)
    (fun t m k v C _ _ T h => vb (opnd T m) fun m => vb (opnd T k) fun k => vb (opnd T v) fun v => unit (updA C h t m k v))
    (fun t m k C _ _ T h => vb (opnd T m) fun m => vb (opnd T k) fun k => entA C h t m k)
    (fun _ m s v _ _ _ T h => vb (opnd T m) fun m => vb (opnd T s) fun s => vb (opnd T v) fun v => unit (entSt h m s v))
    (fun t x C _ _ T h => vb (opnd T x) fun x => rangeA C h t x)
    (fun it s _ _ _ T h => vb (opnd T it) fun x => nextA h x s)
    (fun it _ _ _ T h => vb (opnd T it) fun x => vv (entryA h x) h)
    (fun _ _ _ _ _ _ _ _ _ => none)
    (fun t i _ _ _ T h => vb (opnd T t) (extrK h i))
    (fun c C cf cr T h => callA C cf cr T h c)
    (fun _ _ _ _ _ _ => none) (fun _ _ _ _ _ _ => none) (fun _ _ _ _ _ _ => none) (fun _ _ _ _ _ _ _ => none) (fun _ _ _ _ _ _ _ _ => none) (fun _ _ _ _ _ _ _ => none) o C cf cr T h
noncomputable def wantG (ops : List Oper) (T : PT AV) (g : Nat × Bool) : Option Bool :=
  match ops[g.1]? with
  | some p => match p.dst with
    | some d => match T.get d with
      | some (.bool b) => some (match b, g.2 with | true, true => true | false, false => true | _, _ => false)
      | some _ => some false
      | none => none
    | none => some false
  | none => some false
noncomputable def wantA (ops : List Oper) (T : PT AV) (o : Oper) : Option Bool := Option.rec (some true) (wantG ops T) o.guard
noncomputable def opsA (C : Ctx) (cf : CallA) (cr : RoundA) (ops l : List Oper) : PT AV → H → Option (PT AV × H) :=
  List.rec (motive := fun _ => PT AV → H → Option (PT AV × H)) (fun T h => some (T, h))
    (fun o _ ih T h => ob (wantA ops T o) fun w => iff' w (ob (anyA C cf cr T h o.op) fun r => ih (putT T o.dst r.1) r.2) (ih (putT T o.dst (.tup [])) h)) l

noncomputable def thenR (r : R) (k : PT AV → List Nat → H → R) : R :=
  R.casesOn (motive := fun _ => R) r .bad fun o T d h => Out.casesOn (motive := fun _ => R) o (k T d h) (fun i => .ok (.exit i) T d h) (.ok .ret T d h)
noncomputable def loopA (f : PT AV → List Nat → H → R) (n : Nat) : PT AV → List Nat → H → R :=
  Nat.rec (motive := fun _ => PT AV → List Nat → H → R) (fun _ _ _ => .bad) (fun _ ih T d h => thenR (f T d h) ih) n

def pendA : Option Code → Option Out
  | none => some .normal
  | some .ret => some .ret
  | some (.exit i) => some (.exit i)
  | _ => none

abbrev KA := PT AV → List Nat → H → R
abbrev DrawA := List Oper → PT AV → H → Option (PT AV × H)
/-- Does a region write only what the function has? -/
noncomputable def dstsOk (sz : Nat) (ops : List Oper) : Bool := ops.all fun o => match o.dst with | some d => Nat.blt d sz | none => true
noncomputable def regK (C : Ctx) (cf : CallA) (cr : RoundA) (drawA : DrawA) (sz : Nat) (ops : List Oper) (dr : Bool) (T : PT AV) (d : List Nat) (h : H) : R :=
  iff' (dstsOk sz ops) (Option.rec .bad (fun r => .ok .normal r.1 d r.2) (iff' dr (drawA ops T h) (opsA C cf cr ops ops T h))) .bad
noncomputable def condK (a b : KA) (T : PT AV) (d : List Nat) (h : H) (c : AV) : R := AV.rec (motive_1 := fun _ => KA → KA → PT AV → List Nat → H → R) (motive_2 := fun _ => PUnit) (fun x a b T d h => Bool.rec (b T d h) (a T d h) x) (fun _ _ _a _b _T _d _h => .bad) (fun _ _a _b _T _d _h => .bad) (fun _ _ _a _b _T _d _h => .bad) (fun _a _b _T _d _h => .bad) (fun _ _ _ _ _ _a _b _T _d _h => .bad) (fun _a _b _T _d _h => .bad) (fun _a _b _T _d _h => .bad) (fun _ _a _b _T _d _h => .bad) (fun _a _b _T _d _h => .bad) (fun _ _ _ _ _ _a _b _T _d _h => .bad) (fun _a _b _T _d _h => .bad) (fun _a _b _T _d _h => .bad) (fun _ _ _ _a _b _T _d _h => .bad) (fun _ _ _a _b _T _d _h => .bad) (fun _ _ _a _b _T _d _h => .bad) PUnit.unit (fun _ _ _ _ => PUnit.unit) c a b T d h
noncomputable def blockK (id : Nat) (r : R) : R := match r with
  | .ok (.exit j) T' d' h' => .ok (iff' (Nat.beq j id) .normal (.exit j)) T' d' h'
  | r => r
/-- Has a function code that is run as it stands? -/
noncomputable def runs (C : Ctx) (g : FuncId) : Bool := match C.ext.get g with | some _ => false | none => true
noncomputable def rangeK (C : Ctx) (cf : CallA) (fid : FuncId) (sz : Nat) (rnd : Option Nat) (f : Operand) (ps : List Tmp) (as bd : Code) (T : PT AV) (d : List Nat) (h : H) : R :=
    (match (match rnd with
        | none => newB h (.dfr false)
        | some l => (match h.b.get l with | some (.loop r) => some (r.defers, h) | _ => none)) with
    | none => .bad
    | some (df, h1) => match newB h1 (.loop ⟨.ready, none, fid, T, sz, ps, as, bd, df⟩) with
      | none => .bad
      | some (l, h2) => match opnd T f with
        | some (.fn (.func g) first cap) => (match iff' (runs C g) (cf h2 g (first ++ ([.fn (.yield l) [] []] ++ cap))) none with
          | none => .bad
          | some (_, h3) => match h3.b.get l with
            | some (.loop r) => (match r.state with
              | .busy => .bad
              | _ => match pendA r.pending with
                | some o => .ok o T (match rnd with | none => df :: d | some _ => d) ⟨h3.b.put l (.loop { r with state := .exhausted }), h3.nx⟩
                | none => .bad)
            | _ => .bad)
        | _ => .bad)
noncomputable def codeA (C : Ctx) (cf : CallA) (cr : RoundA) (lf : Nat) (fid : FuncId) (sz : Nat) (rnd : Option Nat) (drawA : DrawA) (c : Code) : KA :=
  Code.rec (motive := fun _ => KA)
    (fun T d h => .ok .normal T d h)
    (fun _ ops dr => regK C cf cr drawA sz ops.toList dr)
    (fun _ _ a b T d h => thenR (a T d h) b)
    (fun c _ _ a b T d h => Option.rec .bad (condK a b T d h) (opnd T c))
    (fun id _ b T d h => blockK id (b T d h))
    (fun _ b => loopA b lf)
    (fun f ps as bd _ _ => rangeK C cf fid sz rnd f ps.toList as bd)
    (fun id T d h => .ok (.exit id) T d h)
    (fun _ b => b)
    (fun _ T d h => .ok .normal T d h)
    (fun _ _ _ _ => .bad)
    (fun T d h => .ok .ret T d h)
    (fun _ _ _ _ => .bad) c

/-! Regions that draw their order. What makes, writes or calls is in one order; what only reads is read again in every heap it may meet. -/
/-- Does an operation make, write or call? -/
noncomputable def isE (C : Ctx) : Op → Bool
  | .move _ | .assign _ | .pick .. | .load .. | .nilCheck _ | .binOp .. | .unOp .. | .makeInterface .. | .makeFunc .. | .slice .. | .fieldAddr .. | .field ..
  | .indexAddr .. | .index .. | .lookup .. | .entry _ | .extract .. | .build .. => false
  | .convert _ d _ => (match und C d with | some (.slice _) => true | _ => false)
  | .call ⟨.builtin .len, _, _⟩ | .call ⟨.builtin .cap, _, _⟩ | .call ⟨.builtin .max, _, _⟩ | .call ⟨.builtin .min, _, _⟩ => false
  | _ => true
/-- Does what it yields not hang on the heap? -/
noncomputable def steady : Op → Bool
  | .move _ | .assign _ | .pick .. | .nilCheck _ | .unOp .. | .makeInterface .. | .makeFunc .. | .slice .. | .fieldAddr .. | .field ..
  | .indexAddr .. | .index .. | .extract .. | .build .. => true
  | .binOp op _ _ _ _ => (match op with | .eql | .neq => false | _ => true)
  | _ => false
noncomputable def edge (e : Edge) : Bool := match e.ground with | .textOnly _ => false | .gcOnly _ => false | _ => true
/-- Which operations come before one, as bits. -/
noncomputable def befO (acc : List Nat) (l : List Edge) : Nat :=
  List.rec 0 (fun e _ r => iff' (edge e) (Nat.lor (Nat.lor (Nat.pow 2 e.on) (acc.getD e.on 0)) r) r) l
noncomputable def befG : List Oper → List Nat → List Nat
  | [], acc => acc
  | o :: l, acc => befG l (acc ++ [befO acc o.after.toList])
noncomputable def befs (ops : List Oper) : List Nat := befG ops []
def tmpsOf : List Operand → List Tmp
  | [] => []
  | .tmp t :: l => t :: tmpsOf l
  | _ :: l => tmpsOf l
/-- What an operation reads of the temporaries. -/
noncomputable def looks (ops : List Oper) (o : Oper) : List Tmp :=
  (match o.guard with | some g => (match ops[g.1]? with | some p => (match p.dst with | some d => [d] | none => []) | none => []) | none => []) ++ tmpsOf o.op.operands.toList
noncomputable def isDst (o : Oper) (t : Tmp) : Bool := match o.dst with | some d => Nat.beq d t | none => false
noncomputable def edgesOk : List Oper → Nat → Bool
  | [], _ => true
  | o :: l, j => (o.after.toList.all fun e => !(edge e) || Nat.blt e.on j) && edgesOk l (Nat.add j 1)
mutual
def sameV : AV → AV → Bool
  | .bool a, .bool b => (match a, b with | true, true => true | false, false => true | _, _ => false)
  | .int j a, .int k b => kEq j k && eqI a b
  | .str a, .str b => eqS a b
  | .ptr i o, .ptr j p => Nat.beq i j && Nat.beq o p
  | .nilp, .nilp => true
  | .sl i o l c x, .sl j p m d y => Nat.beq i j && (Nat.beq o p && (Nat.beq l m && (Nat.beq c d && Nat.beq x y)))
  | .slz, .slz => true
  | .nils, .nils => true
  | .map i, .map j => Nat.beq i j
  | .nilm, .nilm => true
  | .fn (.func f) a b, .fn (.func g) c d => Nat.beq f g && (sameL a c && sameL b d)
  | .fn (.yield f) a b, .fn (.yield g) c d => Nat.beq f g && (sameL a c && sameL b d)
  | .nilf, .nilf => true
  | .nili, .nili => true
  | .ifc t v, .ifc u x => Nat.beq t u && sameV v x
  | .agg a, .agg b => sameL a b
  | .tup a, .tup b => sameL a b
  | _, _ => false
def sameL : List AV → List AV → Bool
  | [], [] => true
  | x :: a, y :: b => sameV x y && sameL a b
  | _, _ => false
end
noncomputable def resA (C : Ctx) (h : H) (T : PT AV) : List ResultVar → Option (List AV)
  | [] => some []
  | .tmp t :: l => (match T.get t with
    | some v => (match resA C h T l with | some r => some (v :: r) | none => none)
    | none => none)
  | .cell a t :: l => (match T.get a with
    | some x => (match loadA C h t x with
      | some v => (match resA C h T l with | some r => some (v :: r) | none => none)
      | none => none)
    | none => none)
def resV : List AV → AV
  | [v] => v
  | l => .tup l
noncomputable def takeD (h : H) : List Nat → Option H
  | [] => some h
  | r :: l => match h.b.get r with
    | some (.dfr false) => takeD ⟨h.b.put r (.dfr true), h.nx⟩ l
    | _ => none
noncomputable def argsT : List AV → Nat → PT AV → PT AV
  | [], _, t => t
  | x :: l, i, t => argsT l (Nat.add i 1) (t.put i x)

def outPend : Out → Option Code
  | .normal => none
  | .ret => some .ret
  | .exit i => some (.exit i)
noncomputable def zipPut (sz : Nat) : List Tmp → List AV → PT AV → Option (PT AV)
  | [], [], T => some T
  | t :: ts, v :: vs, T => bif Nat.blt t sz then zipPut sz ts vs (T.put t v) else none
  | _, _, _ => none

/-- A round of a loop over a function. -/
noncomputable def roundA (C : Ctx) (cf : CallA) (cr : RoundA) (lf : Nat) (drawA : List Oper → PT AV → H → Option (PT AV × H)) (h : H) (l : Nat) (args : List AV) : Option (AV × H) :=
  match h.b.get l with
  | some (.loop r) => (match zipPut r.size r.params args r.tmps with
    | none => none
    | some T => match iff' (Nat.ble r.size 5000000) (codeA C cf cr lf r.fn r.size (some l) drawA r.assign T [] h) .bad with
      | .ok .normal T1 [] h1 => (match h1.b.get l with
        | some (.loop r1) => (match r1.state with
          | .ready => (match codeA C cf cr lf r.fn r.size (some l) drawA r.body T1 [] ⟨h1.b.put l (.loop { r1 with state := .busy }), h1.nx⟩ with
            | .ok o _ [] h2 => (match h2.b.get l with
              | some (.loop r2) => some (.bool (match o with | .normal => true | _ => false), ⟨h2.b.put l (.loop { r2 with state := (match o with | .normal => .ready | _ => .done), pending := outPend o }), h2.nx⟩)
              | _ => none)
            | _ => none)
          | _ => none)
        | _ => none)
      | _ => none)
  | _ => none

/-- (*sync.Once).Do, called for the first time. -/
noncomputable def onceK (cf : CallA) (g0 : FuncId) (i o : Nat) (f : Fn) (first cap : List AV) (h : H) : Option (AV × H) :=
  match f, first, cap with
  | .func g, [t], [] => ob (iff' (Nat.beq g g0) (storeC h i (Nat.add o 1) [.int .i32 1]) none) fun h1 => ob (cf h1 g [t]) fun r => (match loadC r.2 i o 3 with
    | some [.int .u32 (.ofNat 0), .int .i32 (.ofNat 1), _] => ob (storeC r.2 i o [.int .u32 1, .int .i32 0]) fun h3 => some (.tup [], h3)
    | _ => none)
  | _, _, _ => none
/-- (*sync.Once).Do with the one function that it is called with. -/
noncomputable def onceA (cf : CallA) (g0 : FuncId) (args : List AV) (h : H) : Option (AV × H) :=
  match args with
  | [.ptr i o, .fn f first cap] => (match loadC h i o 3 with
    | some [.int .u32 (.ofNat 1), _, _] => some (.tup [], h)
    | some [.int .u32 (.ofNat 0), .int .i32 (.ofNat 0), _] => onceK cf g0 i o f first cap h
    | _ => none)
  | _ => none
/-- Functions that are not run as they stand: 2 hands back what it is given; 4 adds; from 10 on: once. -/
noncomputable def extA (cf : CallA) (k : Nat) (args : List AV) (h : H) : Option (AV × H) :=
  match k, args with
  | 2, [v] => some (v, h)
  | 4, [.ptr i o, .int .i64 d] => (match load1 h i o with
    | some (.int .i64 n) => (match storeC h i o [.int .i64 (IntKind.i64.wrap (n + d))] with | some h' => some (.int .i64 (IntKind.i64.wrap (n + d)), h') | none => none)
    | _ => none)
  | k, args => bif Nat.ble 10 k then onceA cf (Nat.sub k 10) args h else none

/-- A call: a function's code is done. -/
noncomputable def callF (C : Ctx) (cf : CallA) (cr : RoundA) (lf : Nat) (drawA : List Oper → PT AV → H → Option (PT AV × H)) (h : H) (f : FuncId) (args : List AV) : Option (AV × H) :=
  match C.ft.get f with
  | none => none
  | some fn => match C.ext.get f with
    | some k => extA cf k args h
    | none => match fn.body with
    | none => none
    | some c => match iff' (Nat.ble args.length fn.ntmps && Nat.ble fn.ntmps 5000000) (codeA C cf cr lf f fn.ntmps none drawA c (argsT args 0 .e) [] h) .bad with
      | .ok o T d h1 => (match (match o with | .normal => true | .ret => true | _ => false) with
        | true => (match takeD h1 d with
          | some h2 => (match resA C h2 T fn.results.toList with
            | some l => some (resV l, h2)
            | none => none)
          | none => none)
        | false => none)
      | .bad => none

noncomputable def ofList {α : Type} (l : List α) : PT α := pt l 0 .e
end Go.Ev
