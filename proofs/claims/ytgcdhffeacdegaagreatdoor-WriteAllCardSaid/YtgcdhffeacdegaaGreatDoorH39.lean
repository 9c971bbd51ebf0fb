/- Layer 10, plain: a reading does not look at places. -/
import Derived.Test.YtgcdhffeacdegaaGreatDoorH04
import Derived.Test.YtgcdhffeacdegaaGreatDoorH37
import Derived.Test.YtgcdhffeacdegaaGreatDoorH31
import Derived.Test.YtgcdhffeacdegaaGreatDoorH36
import Derived.Test.YtgcdhffeacdegaaGreatDoorH17
import Derived.Test.YtgcdhffeacdegaaGreatDoorH01
namespace Go.El
def PR.map {α : Type} (z : TokV → TokV) : PR α → PR α
 | .bad r => .bad (r.map z)
 | .ok a r ms => .ok a (r.map z) ms
section
variable {O : Ops} {z : TokV → TokV} (hk : ∀ t, (z t).kind = t.kind) (hs : ∀ t, (z t).s = t.s) (hn : ∀ t, (z t).n = t.n) (hl : ∀ t, (z t).lay = t.lay)
include hk hs
theorem zpu (r : List TokV) (c : UInt8) : isPu (r.map z) c = isPu r c := by
 cases r with
 | nil => rfl
 | cons t r => simp [isPu, hk, hs]
theorem zin (r : List TokV) : infixF O (r.map z) = infixF O r := by
 cases r with
 | nil => rfl
 | cons t r =>
  have := zpu hk hs (t :: r) 44
  simp only [List.map_cons] at this
  simp only [List.map_cons, infixF, hk, hs, this]
include hl
theorem zop (r : List TokV) : opensB (r.map z) = opensB r := by
 unfold opensB
 rw [zpu hk hs]
 cases r with
 | nil => rfl
 | cons t r => simp [layB, hl]
theorem zbe (r : List TokV) : beginsB O (r.map z) = beginsB O r := by
 cases r with
 | nil => rfl
 | cons t r =>
  have h := fun c => zpu hk hs (t :: r) c
  simp only [List.map_cons] at h
  simp only [List.map_cons, beginsB, hk, hs, h, zop hk hs hl]
omit hs in
theorem znu (r : List TokV) : numB (r.map z) = numB r := by
 cases r with
 | nil => rfl
 | cons t r => simp [numB, hk, hl]
include hn
omit hk hs hl in
theorem zhn (r : List TokV) : headN (r.map z) = headN r := by
 cases r with
 | nil => rfl
 | cons t r => simp [headN, hn]
omit hn hl in
theorem zwant {α : Type} (c : UInt8) (a : α) (r : List TokV) (ns : List ByteArray) : wantP c a (r.map z) ns = (wantP c a r ns).map z := by
 unfold wantP
 rw [zpu hk hs]
 split
 ·simp [PR.map]
 ·rfl
structure ZedN (O : Ops) (z : TokV → TokV) (n : Nat) : Prop where
 term : ∀ most r ns, termN O n most (r.map z) ns = (termN O n most r ns).map z
 loop : ∀ most t p r ns, loopN O n most t p (r.map z) ns = (loopN O n most t p r ns).map z
 oper : ∀ most r ns, operN O n most (r.map z) ns = (operN O n most r ns).map z
 brac : ∀ t r ns, bracN O n (z t) (r.map z) ns = (bracN O n t r ns).map z
 named : ∀ s r ns, namedN O n s (r.map z) ns = (namedN O n s r ns).map z
 row : ∀ lim acc r ns, rowN O n lim acc (r.map z) ns = (rowN O n lim acc r ns).map z
 sign : ∀ s most r ns, signN O n s most (r.map z) ns = (signN O n s most r ns).map z
theorem zed_all : ∀ n, ZedN O z n
 | 0 => ⟨fun _ _ _ => rfl, fun _ _ _ _ _ => rfl, fun _ _ _ => rfl, fun _ _ _ => rfl, fun _ _ _ => rfl, fun _ _ _ _ => rfl, fun _ _ _ _ => rfl⟩
 | n + 1 => by
  have ih := zed_all n
  refine ⟨fun most r ns => ?_, fun most t p r ns => ?_, fun most r ns => ?_, fun t r ns => ?_, fun s r ns => ?_, fun lim acc r ns => ?_, fun s most r ns => ?_⟩
  ·simp only [termN]
   rw [ih.oper]
   cases operN O n most r ns with
   | bad q => rfl
   | ok a q ms => exact ih.loop most a.1 a.2 q ms
  ·simp only [loopN]
   rw [zin hk hs]
   cases infixF O r with
   | none => rfl
   | some o =>
    dsimp only
    split
    ·rfl
    ·rw [← List.map_tail, ih.term]
     cases termN O n (rightI o.p o.t) r.tail ns with
     | bad q => rfl
     | ok a q ms => exact ih.loop most _ _ q ms
  ·cases r with
   | nil => rfl
   | cons t r =>
    simp only [List.map_cons, operN, hk, hs, hn]
    split
    ·exact ih.brac t r ns
    ·split
     ·rfl
     ·split
      ·rfl
      ·split
       ·rfl
       ·split
        ·exact ih.named _ r ns
        ·exact ih.sign _ _ r ns
  ·simp only [bracN, hs]
   split
   ·rw [ih.term]
    cases termN O n 1200 r ns with
    | bad q => rfl
    | ok a q ms => exact zwant hk hs 41 _ q ms
   ·split
    ·rw [zpu hk hs]
     split
     ·rw [← List.map_tail]
      exact ih.named _ _ ns
     ·rw [ih.row]
      cases rowN O n false [] r ns with
      | bad q => rfl
      | ok l q ms =>
       simp only [PR.map]
       rw [zpu hk hs]
       split
       ·rw [← List.map_tail, ih.term]
        cases termN O n 999 q.tail ms with
        | bad q2 => rfl
        | ok u q2 m2 => exact zwant hk hs 93 _ q2 m2
       ·exact zwant hk hs 93 _ q ms
    ·split
     ·rw [zpu hk hs]
      split
      ·rw [← List.map_tail]
       exact ih.named _ _ ns
      ·rw [ih.term]
       cases termN O n 1200 r ns with
       | bad q => rfl
       | ok a q ms => exact zwant hk hs 125 _ q ms
     ·rfl
  ·simp only [namedN]
   rw [zop hk hs hl]
   split
   ·rw [← List.map_tail, ih.row]
    cases rowN O n true [] r.tail ns with
    | bad q => rfl
    | ok l q ms => exact zwant hk hs 41 _ q ms
   ·rfl
  ·simp only [rowN]
   rw [ih.term]
   cases termN O n 999 r ns with
   | bad q => rfl
   | ok u q ms =>
    simp only [PR.map]
    rw [zpu hk hs]
    split
    ·split
     ·rfl
     ·rw [← List.map_tail]
      exact ih.row lim _ _ ms
    ·rfl
  ·simp only [signN]
   rw [zop hk hs hl, znu hk hl, zbe hk hs hl, zhn hn]
   split
   ·exact ih.named _ r ns
   ·split
    ·simp [PR.map]
    ·cases O.fp s with
     | none => rfl
     | some o =>
      dsimp only
      split
      ·rw [ih.term]
       cases termN O n (rightI o.p o.t) r ns with
       | bad q => rfl
       | ok u q ms => rfl
      ·rfl
end
end Go.El

/- Layer 10, plain: the clauses of two texts with a line's end between are those of the first one and those of the second one. -/
namespace Go.El
open Go.Proofs.YtgcdhffeacdegaaGreatDoor
def ctF (B : List UInt8) (i : Nat) (acc : List TokV) : Except (Nat × Int) (List TokV × Nat) := ctoksN (B.length + 1 - i) B i acc
theorem ctF_eq {B : List UInt8} {k : Nat} {acc : List TokV} (hk : k ≤ B.length) {t : TokV} {e : Nat} {x : Int} (hs : scanS B k = (t, e, x)) :
  ctF B k acc = if x = 4 ∧ acc ≠ [] then .error (e, 101) else if x ≠ 0 then .error (e, x) else if t.kind = 6 then .ok (acc ++ [t], e) else ctF B e (acc ++ [t]) := ctoks_step hk rfl hs
theorem term_lay (O : Ops) (f : Nat) (most : Int) (t : TokV) (r : List TokV) (ns : List ByteArray) {u : Tm} {q : List TokV} {ms : List ByteArray} (h : termN O f most (t :: r) ns = .ok u q ms) : termN O f most ({ t with lay := true } :: r) ns = .ok u q ms := by
 cases f with
 | zero => simp only [termN] at h; cases h
 | succ f =>
  simp only [termN] at h ⊢
  have key : ∀ a q2 m2, operN O f most (t :: r) ns = .ok a q2 m2 → operN O f most ({ t with lay := true } :: r) ns = .ok a q2 m2 := by
   intro a q2 m2 h
   cases f with
   | zero => simp only [operN] at h; cases h
   | succ f =>
    simp only [operN] at h ⊢
    split at h
    ·next h5 =>
     rw [if_pos h5]
     cases f with
     | zero => simp only [bracN] at h; cases h
     | succ f =>
      simp only [bracN] at h ⊢
      split at h
      ·next h1 => rw [if_pos h1]; exact h
      ·next h1 =>
       rw [if_neg h1]
       split at h
       ·next h2 => rw [if_pos h2]; exact h
       ·next h2 =>
        rw [if_neg h2]
        split at h
        ·next h3 => rw [if_pos h3]; exact h
        ·cases h
    ·next h5 =>
     rw [if_neg h5]
     split at h
     ·cases h
     ·next h6 =>
      rw [if_neg h6]
      exact h
  cases ho : operN O f most (t :: r) ns with
  | bad q2 => rw [ho] at h; cases h
  | ok a q2 m2 =>
   rw [ho] at h
   rw [key a q2 m2 ho]
   exact h
theorem readT_inv {O : Ops} {l : List TokV} {e : Nat} {r : ReadV} {k : Int} (h : readT O l e = (r, k, 0)) : ∃ t q ns, termN O (5 * l.length + 5) 1200 l [] = .ok t q ns ∧ (q.map TokV.kind).head? = some 6 ∧ chkT t = 0 ∧ r = ⟨t, ns, e⟩ ∧ k = e := by
 unfold readT at h
 cases ht : termN O (5 * l.length + 5) 1200 l [] with
 | bad q =>
  rw [ht] at h
  injection h with _ h
  injection h with _ h
  cases h
 | ok t q ns =>
  rw [ht] at h
  simp only at h
  split at h
  ·next h6 =>
   split at h
   ·next hc =>
    injection h with h1 h
    injection h with h2 _
    exact ⟨t, q, ns, rfl, h6, hc, h1.symm, h2.symm⟩
   ·next hc =>
    injection h with _ h
    injection h with _ h
    exact absurd h hc
  ·injection h with _ h
   injection h with _ h
   cases h
section
variable {O : Ops} {A B : List UInt8}
end
def rtF (O : Ops) (B : List UInt8) (i : Nat) (acc : List ReadV) : List ReadV × Int × Int := allRN O (B.length + 1 - i) B i acc
theorem allRN_more {O : Ops} {B : List UInt8} (hB : B.length ≤ 65536) : ∀ (n m i : Nat) (acc : List ReadV), i ≤ B.length → B.length + 1 - i ≤ n → n ≤ m → allRN O m B i acc = allRN O n B i acc
 | 0, _, i, _, hi, h, _ => by omega
 | n + 1, 0, _, _, _, _, h => by omega
 | n + 1, m + 1, i, acc, hi, h, hm => by
  simp only [allRN]
  split
  ·next h0 =>
   obtain ⟨k, hk, h1, h2⟩ := clauseS_ok hi hB h0
   rw [hk, Int.toNat_natCast]
   exact allRN_more hB n m k _ h2 (by omega) (by omega)
  ·rfl
theorem rtF_eq {O : Ops} {B : List UInt8} {i : Nat} {acc : List ReadV} (hB : B.length ≤ 65536) (hi : i ≤ B.length) {r : ReadV} {k x : Int} (h : clauseS O B i = (r, k, x)) :
  (x = 0 → ∃ j : Nat, k = j ∧ i < j ∧ j ≤ B.length ∧ rtF O B i acc = rtF O B j (acc ++ [r])) ∧ (x = 4 → rtF O B i acc = (acc, k, 0)) ∧ (x ≠ 0 → x ≠ 4 → rtF O B i acc = (acc, k, x)) := by
 obtain ⟨n, hn⟩ : ∃ n, B.length + 1 - i = n + 1 := ⟨B.length - i, by omega⟩
 have hok := clauseS_ok (O := O) hi hB
 unfold rtF
 rw [hn]
 simp only [allRN]
 rw [h] at hok ⊢
 simp only at hok ⊢
 refine ⟨fun h0 => ?_, fun h4 => ?_, fun h0 h4 => ?_⟩
 ·obtain ⟨j, hj, h1, h2⟩ := hok h0
  refine ⟨j, hj, h1, h2, ?_⟩
  rw [if_pos h0, hj, Int.toNat_natCast]
  exact allRN_more hB _ n j _ h2 (Nat.le_refl _) (by omega)
 ·rw [if_neg (by omega), if_pos h4]
 ·rw [if_neg h0, if_neg h4]
section
variable {O : Ops} {A B : List UInt8}
end
end Go.El

/- Layer 10, plain: a text with a blank and a point behind it; more fuel; what is left of tokens is some of them. -/
namespace Go.El
section
variable (A : List UInt8)
end
def UpP {α : Type} (x y : PR α) : Prop := ∀ a r ms, x = .ok a r ms → y = .ok a r ms
theorem up_bad {α : Type} (r : List TokV) (y : PR α) : UpP (.bad r) y := fun _ _ _ h => by cases h
theorem up_same {α : Type} (y : PR α) : UpP y y := fun _ _ _ h => h
structure UpN (O : Ops) (n m : Nat) : Prop where
 term : ∀ most r ns, UpP (termN O n most r ns) (termN O m most r ns)
 loop : ∀ most t p r ns, UpP (loopN O n most t p r ns) (loopN O m most t p r ns)
 oper : ∀ most r ns, UpP (operN O n most r ns) (operN O m most r ns)
 brac : ∀ t r ns, UpP (bracN O n t r ns) (bracN O m t r ns)
 named : ∀ s r ns, UpP (namedN O n s r ns) (namedN O m s r ns)
 row : ∀ lim acc r ns, UpP (rowN O n lim acc r ns) (rowN O m lim acc r ns)
 sign : ∀ s most r ns, UpP (signN O n s most r ns) (signN O m s most r ns)
theorem up_all (O : Ops) : ∀ n m, n ≤ m → UpN O n m
 | 0, _, _ => ⟨fun _ _ _ => up_bad _ _, fun _ _ _ _ _ => up_bad _ _, fun _ _ _ => up_bad _ _, fun _ _ _ => up_bad _ _, fun _ _ _ => up_bad _ _, fun _ _ _ _ => up_bad _ _, fun _ _ _ _ => up_bad _ _⟩
 | n + 1, 0, h => by omega
 | n + 1, m + 1, h => by
  have ih := up_all O n m (by omega)
  refine ⟨fun most r ns => ?_, fun most t p r ns => ?_, fun most r ns => ?_, fun t r ns => ?_, fun s r ns => ?_, fun lim acc r ns => ?_, fun s most r ns => ?_⟩
  ·simp only [termN]
   cases hx : operN O n most r ns with
   | bad q => exact up_bad _ _
   | ok a q ms =>
    rw [ih.oper most r ns _ _ _ hx]
    exact ih.loop most a.1 a.2 q ms
  ·simp only [loopN]
   cases hi : infixF O r with
   | none => exact up_same _
   | some o =>
    simp only
    split
    ·exact up_same _
    ·cases hx : termN O n (rightI o.p o.t) r.tail ns with
     | bad q => exact up_bad _ _
     | ok u q ms =>
      rw [ih.term _ r.tail ns _ _ _ hx]
      exact ih.loop most _ _ q ms
  ·cases r with
   | nil =>
    simp only [operN]
    exact up_bad _ _
   | cons t r =>
    simp only [operN]
    split
    ·exact ih.brac t r ns
    ·split
     ·exact up_bad _ _
     ·split
      ·exact up_same _
      ·split
       ·exact up_same _
       ·split
        ·exact ih.named _ r ns
        ·exact ih.sign _ _ r ns
  ·simp only [bracN]
   split
   ·cases hx : termN O n 1200 r ns with
    | bad q => exact up_bad _ _
    | ok u q ms =>
     rw [ih.term 1200 r ns _ _ _ hx]
     exact up_same _
   ·split
    ·split
     ·exact ih.named nilB r.tail ns
     ·cases hx : rowN O n false [] r ns with
      | bad q => exact up_bad _ _
      | ok l q ms =>
       rw [ih.row false [] r ns _ _ _ hx]
       simp only
       split
       ·cases hx2 : termN O n 999 q.tail ms with
        | bad q => exact up_bad _ _
        | ok u q2 m2 =>
         rw [ih.term 999 q.tail ms _ _ _ hx2]
         exact up_same _
       ·exact up_same _
    ·split
     ·split
      ·exact ih.named curB r.tail ns
      ·cases hx : termN O n 1200 r ns with
       | bad q => exact up_bad _ _
       | ok u q ms =>
        rw [ih.term 1200 r ns _ _ _ hx]
        exact up_same _
     ·exact up_bad _ _
  ·simp only [namedN]
   split
   ·cases hx : rowN O n true [] r.tail ns with
    | bad q => exact up_bad _ _
    | ok l q ms =>
     rw [ih.row true [] r.tail ns _ _ _ hx]
     exact up_same _
   ·exact up_same _
  ·simp only [rowN]
   cases hx : termN O n 999 r ns with
   | bad q => exact up_bad _ _
   | ok u q ms =>
    rw [ih.term 999 r ns _ _ _ hx]
    simp only
    split
    ·split
     ·exact up_bad _ _
     ·exact ih.row lim _ q.tail ms
    ·exact up_same _
  ·simp only [signN]
   split
   ·exact ih.named s r ns
   ·split
    ·exact up_same _
    ·cases hf : O.fp s with
     | none => exact up_same _
     | some o =>
      simp only
      split
      ·cases hx : termN O n (rightI o.p o.t) r ns with
       | bad q => exact up_bad _ _
       | ok u q ms =>
        rw [ih.term _ r ns _ _ _ hx]
        exact up_same _
      ·exact up_same _
end Go.El

/- Layer 10, plain: more blanks change nothing. -/
namespace Go.El
open Go.Proofs.YtgcdhffeacdegaaGreatDoor
def z0 (t : TokV) : TokV := { t with at_ := 0 }
theorem z0_sh (n : Nat) (t : TokV) : z0 (shT n t) = z0 t := rfl
theorem z0_all {t t2 : TokV} (h : z0 t = z0 t2) : t.kind = t2.kind ∧ t.lay = t2.lay := by
 unfold z0 at h
 simp only [TokV.mk.injEq] at h
 exact ⟨h.1, h.2.2.2.2⟩
theorem scan_blank (c : UInt8) (hc : isBlank c = true) (l : List UInt8) : (scanS (c :: l) 0).2.2 = (scanS l 0).2.2 ∧ ((scanS l 0).2.2 = 0 → z0 (scanS (c :: l) 0).1 = z0 { (scanS l 0).1 with lay := true } ∧ (scanS (c :: l) 0).2.1 = 1 + (scanS l 0).2.1) := by
 have h0 : (c :: l)[0]? = some c := rfl
 have hs : skipTo (c :: l) 0 = skipTo (c :: l) 1 := by rw [skipTo_eq h0, if_pos hc]
 have h1 := scan_lay (W := c :: l) (i := 0) (j := 1) (by omega) hs
 have h2 : scanS (c :: l) 1 = shScan 1 (scanS l 0) := sh_scan [c] l 0
 rw [h1, h2]
 refine ⟨rfl, fun h => ?_⟩
 simp only [shScan, h, if_true]
 exact ⟨rfl, trivial⟩
theorem scan_drop (B : List UInt8) (i : Nat) (hi : i ≤ B.length) : scanS B i = shScan i (scanS (B.drop i) 0) := by
 have h := sh_scan (B.take i) (B.drop i) 0
 rw [List.take_append_drop, List.length_take, Nat.min_eq_left hi] at h
 exact h
def RdW (a b : ReadV × Int × Int) : Prop := a.1.t = b.1.t ∧ a.2.2 = b.2.2
theorem read_wd {O : Ops} {l m : List TokV} (h : l.map z0 = m.map z0) (e e2 : Nat) : RdW (readT O l e) (readT O m e2) := by
 have hz := fun l : List TokV => (zed_all (O := O) (z := z0) (fun _ => rfl) (fun _ => rfl) (fun _ => rfl) (fun _ => rfl) (5 * l.length + 5)).term 1200 l []
 have hlen : l.length = m.length := by have := congrArg List.length h; simpa using this
 have h1 := hz l
 have h2 := hz m
 rw [h, hlen, h2] at h1
 unfold readT
 rw [hlen]
 cases ht : termN O (5 * m.length + 5) 1200 l [] with
 | bad q =>
  rw [ht] at h1
  cases ht2 : termN O (5 * m.length + 5) 1200 m [] with
  | bad q2 => exact ⟨rfl, rfl⟩
  | ok t2 q2 ns2 =>
   rw [ht2] at h1
   cases h1
 | ok t q ns =>
  rw [ht] at h1
  cases ht2 : termN O (5 * m.length + 5) 1200 m [] with
  | bad q2 =>
   rw [ht2] at h1
   cases h1
  | ok t2 q2 ns2 =>
   rw [ht2] at h1
   simp only [PR.map] at h1
   injection h1 with g1 g2 g3
   subst g1 g3
   have hq : (q.map TokV.kind).head? = (q2.map TokV.kind).head? := by
    cases q <;> cases q2
    ·rfl
    ·cases g2
    ·cases g2
    ·injection g2 with g2 _
     obtain ⟨k5, _⟩ := z0_all g2
     simp [k5]
   simp only
   rw [hq]
   split
   ·split
    ·exact ⟨rfl, rfl⟩
    ·exact ⟨rfl, rfl⟩
   ·exact ⟨rfl, rfl⟩
theorem readT_end {O : Ops} {l : List TokV} {e : Nat} (h : (readT O l e).2.2 = 0) : (readT O l e).2.1 = e := by
 obtain ⟨r, k, x, hr⟩ : ∃ r k x, readT O l e = (r, k, x) := ⟨_, _, _, rfl⟩
 rw [hr] at h ⊢
 simp only at h ⊢
 subst h
 obtain ⟨_, _, _, _, _, _, _, hk⟩ := readT_inv hr
 exact hk
end Go.El

/- Layer 11, plain: variables are numbered as one comes to them. No program in sight. -/
namespace Go.El
def addV (n : Int) (l : List Int) : List Int := if n ∈ l then l else l ++ [n]
mutual
def vsT : Tm → List Int → List Int
 | .mk k n _ l, acc => if k = 1 then addV n acc else vsL l acc
def vsL : List Tm → List Int → List Int
 | [], acc => acc
 | a :: r, acc => vsL r (vsT a acc)
end
def plc (n : Int) : List Int → Nat
 | [] => 0
 | m :: l => if m = n then 0 else plc n l + 1
mutual
def rnT : Tm → List Int → Tm
 | .mk k n s l, acc => if k = 1 then .mk 1 (plc n (addV n acc)) ⟨#[]⟩ [] else .mk k n s (rnL l acc)
def rnL : List Tm → List Int → List Tm
 | [], _ => []
 | a :: r, acc => rnT a acc :: rnL r (vsT a acc)
end
theorem vsL_take : ∀ {l : List Tm} {j : Nat} {u : Tm} (acc : List Int), l[j]? = some u → vsL (l.take (j + 1)) acc = vsT u (vsL (l.take j) acc)
 | [], j, u, acc, h => by simp at h
 | a :: r, 0, u, acc, h => by
  simp at h
  subst h
  simp [vsL]
 | a :: r, j + 1, u, acc, h => by
  have := vsL_take (l := r) (j := j) (u := u) (vsT a acc) (by simpa using h)
  simp only [List.take_succ_cons, vsL]
  exact this
theorem rnL_take : ∀ {l : List Tm} {j : Nat} {u : Tm} (acc : List Int), l[j]? = some u → rnL (l.take (j + 1)) acc = rnL (l.take j) acc ++ [rnT u (vsL (l.take j) acc)]
 | [], j, u, acc, h => by simp at h
 | a :: r, 0, u, acc, h => by
  simp at h
  subst h
  simp [vsL, rnL]
 | a :: r, j + 1, u, acc, h => by
  have := rnL_take (l := r) (j := j) (u := u) (vsT a acc) (by simpa using h)
  simp only [List.take_succ_cons, vsL, rnL]
  rw [this]
  rfl
theorem rnL_len : ∀ (l : List Tm) (acc : List Int), (rnL l acc).length = l.length
 | [], _ => rfl
 | a :: r, acc => by simp [rnL, rnL_len r]
theorem addV_len (n : Int) (l : List Int) : (addV n l).length ≤ l.length + 1 ∧ l.length ≤ (addV n l).length := by
 unfold addV
 split
 ·omega
 ·simp
theorem addV_mem (n : Int) (l : List Int) : n ∈ addV n l := by
 unfold addV
 split
 ·assumption
 ·simp
theorem plc_lt {n : Int} : ∀ {l : List Int}, n ∈ l → plc n l < l.length
 | m :: l, h => by
  unfold plc
  split
  ·simp
  ·rename_i hne
   have : n ∈ l := by
    rcases List.mem_cons.1 h with e | e
    ·exact absurd e.symm hne
    ·exact e
   have := plc_lt this
   simp
   omega
mutual
theorem vsT_len : ∀ (t : Tm) (acc : List Int), (vsT t acc).length ≤ acc.length + szT t ∧ acc.length ≤ (vsT t acc).length
 | .mk k n _ l, acc => by
  have := vsL_len l acc
  have := addV_len n acc
  simp only [vsT, szT]
  split <;> omega
theorem vsL_len : ∀ (l : List Tm) (acc : List Int), (vsL l acc).length ≤ acc.length + szL l ∧ acc.length ≤ (vsL l acc).length
 | [], acc => by simp [vsL]
 | a :: r, acc => by
  have := vsT_len a acc
  have := vsL_len r (vsT a acc)
  simp only [vsL, szL]
  omega
end
theorem part_var {n : Int} {s : ByteArray} {m : Nat} (h : partK 1 n s m = true) : 0 ≤ n ∧ n < 1073741824 ∧ s.size = 0 ∧ m = 0 := by
 simpa [partK] using h
mutual
theorem rnT_size : ∀ (t : Tm) (acc : List Int), okT t = true → szT (rnT t acc) = szT t ∧ dpT (rnT t acc) = dpT t ∧ (acc.length + szT t ≤ 1073741824 → okT (rnT t acc) = true)
 | .mk k n s l, acc, h => by
  simp only [okT, Bool.and_eq_true] at h
  have hl := rnL_size l acc h.2
  simp only [rnT]
  split
  ·rename_i hk
   subst hk
   have hp := part_var h.1
   have := List.length_eq_zero_iff.1 hp.2.2.2
   subst this
   refine ⟨by simp [szT, szL], by simp [dpT, dpL], fun hb => ?_⟩
   simp only [szT, szL] at hb
   have h1 := plc_lt (addV_mem n acc)
   have h2 := addV_len n acc
   simp only [okT, okL, Bool.and_true]
   unfold partK
   rw [if_pos rfl]
   refine decide_eq_true ⟨by omega, by omega, rfl, rfl⟩
  ·simp only [szT, dpT, okT, rnL_len, Bool.and_eq_true]
   exact ⟨by omega, by omega, fun hb => ⟨h.1, hl.2.2 (by omega)⟩⟩
theorem rnL_size : ∀ (l : List Tm) (acc : List Int), okL l = true → szL (rnL l acc) = szL l ∧ dpL (rnL l acc) = dpL l ∧ (acc.length + szL l ≤ 1073741824 → okL (rnL l acc) = true)
 | [], acc, _ => by simp [rnL, okL]
 | a :: r, acc, h => by
  simp only [okL, Bool.and_eq_true] at h
  have h1 := rnT_size a acc h.1
  have h2 := rnL_size r (vsT a acc) h.2
  have h3 := vsT_len a acc
  simp only [rnL, szL, dpL, okL, Bool.and_eq_true]
  exact ⟨by omega, by omega, fun hb => ⟨h1.2.2 (by omega), h2.2.2 (by omega)⟩⟩
end
theorem rnT_may {t : Tm} {acc : List Int} (h : mayT t = true) (hl : acc.length ≤ 1000000000) : mayT (rnT t acc) = true := by
 obtain ⟨h1, h2, h3⟩ := mayT_iff.1 h
 obtain ⟨a, b, c⟩ := rnT_size t acc h1
 exact mayT_iff.2 ⟨c (by omega), by omega, by omega⟩
def numF (i : Nat) : List Int → List (Int × Value)
 | [] => []
 | n :: l => (n, .int .i64 (i : Int)) :: numF (i + 1) l
def numP (l : List Int) : List (Int × Value) := numF 0 l
theorem numF_len : ∀ (l : List Int) (i : Nat), (numF i l).length = l.length
 | [], _ => rfl
 | n :: l, i => by simp [numF, numF_len l]
theorem numF_find (n : Int) : ∀ (l : List Int) (i : Nat), findP n (numF i l) = if n ∈ l then some (.int .i64 ((i + plc n l : Nat) : Int)) else none
 | [], i => by simp [numF, findP]
 | m :: l, i => by
  have ih := numF_find n l (i + 1)
  simp only [numF, findP, plc]
  by_cases h : m = n
  ·simp [h]
  ·have h2 : ¬ n = m := fun e => h e.symm
   rw [if_neg h, ih]
   simp only [List.mem_cons, h2, false_or, if_neg h]
   split
   ·congr 2
    omega
   ·rfl
theorem numP_find (n : Int) (l : List Int) : findP n (numP l) = if n ∈ l then some (.int .i64 (plc n l : Int)) else none := by
 have := numF_find n l 0
 simpa [numP] using this
theorem numF_set {n : Int} : ∀ {l : List Int} {i : Nat}, n ∉ l → setP n (.int .i64 ((i + l.length : Nat) : Int)) (numF i l) = numF i (l ++ [n])
 | [], i, _ => by simp [numF, setP]
 | m :: l, i, h => by
  have h1 : m ≠ n := fun e => h (by simp [e])
  have h2 : n ∉ l := fun e => h (by simp [e])
  have ih := numF_set (l := l) (i := i + 1) h2
  simp only [numF, setP, List.cons_append, if_neg h1, List.length_cons]
  rw [← ih]
  congr 3
  simp
  omega
theorem numP_set {n : Int} {l : List Int} (h : n ∉ l) : setP n (.int .i64 (l.length : Int)) (numP l) = numP (l ++ [n]) := by
 have := numF_set (i := 0) h
 simpa [numP] using this
theorem plc_new {n : Int} : ∀ {l : List Int}, n ∉ l → plc n (l ++ [n]) = l.length
 | [], _ => by simp [plc]
 | m :: l, h => by
  have h1 : m ≠ n := fun e => h (by simp [e])
  have h2 : n ∉ l := fun e => h (by simp [e])
  simp [plc, h1, plc_new h2]
end Go.El
/- Layer 11, plain: the text of an answer. No program in sight. -/
namespace Go.El
def sepF (F : List UInt8) : List UInt8 := if F = [] then [] else [44, 32]
def bdS (a : List UInt8 × List Int) (x : ByteArray × Tm) : List UInt8 × List Int :=
 if x.1.data.toList = [95] then a else (a.1 ++ sepF a.1 ++ (x.1.data.toList ++ [32, 61, 32]) ++ txT none (rnT x.2 a.2) 1200, vsT x.2 a.2)
def bdL (l : List (ByteArray × Tm)) : List UInt8 × List Int := l.foldl bdS ([], [])
theorem bdL_take {l : List (ByteArray × Tm)} {j : Nat} {x : ByteArray × Tm} (h : l[j]? = some x) : bdL (l.take (j + 1)) = bdS (bdL (l.take j)) x := by
 obtain ⟨hj, e⟩ := List.getElem?_eq_some_iff.1 h
 unfold bdL
 rw [List.take_succ_eq_append_getElem hj, List.foldl_append, e]
 rfl
def fstBad : List Tm → Int
 | [] => 0
 | t :: r => if chkT t = 0 then fstBad r else chkT t
theorem fstBad_first : ∀ {l : List Tm} {j : Nat} {u : Tm}, (∀ t ∈ l.take j, chkT t = 0) → l[j]? = some u → chkT u ≠ 0 → fstBad l = chkT u
 | [], j, u, _, h, _ => by simp at h
 | a :: r, 0, u, _, h, hu => by
  simp at h
  subst h
  simp [fstBad, hu]
 | a :: r, j + 1, u, ha, h, hu => by
  have h1 : chkT a = 0 := ha a (by simp)
  have := fstBad_first (l := r) (j := j) (u := u) (fun t ht => ha t (by simp [ht])) (by simpa using h) hu
  simp [fstBad, h1, this]
theorem fstBad_none : ∀ {l : List Tm}, (∀ t ∈ l, chkT t = 0) → fstBad l = 0
 | [], _ => rfl
 | a :: r, h => by
  have h1 : chkT a = 0 := h a (by simp)
  have := fstBad_none (l := r) (fun t ht => h t (by simp [ht]))
  simp [fstBad, h1, this]
def bndF (ns : List ByteArray) (l : List Tm) : List UInt8 := if (bdL (ns.zip l)).1 = [] then [116, 114, 117, 101] else (bdL (ns.zip l)).1
theorem bdS_len {a : List UInt8 × List Int} {x : ByteArray × Tm} (hx : x.1.size ≤ 1000) (ht : mayT x.2 = true) (ha : a.2.length ≤ 1000000000) : (bdS a x).1.length ≤ a.1.length + 2000000 ∧ (bdS a x).2.length ≤ a.2.length + 4096 := by
 obtain ⟨h1, _, h3⟩ := mayT_iff.1 ht
 have hv := (vsT_len x.2 a.2).1
 have hm := rnT_may ht ha
 obtain ⟨g1, _, g3⟩ := mayT_iff.1 hm
 have hl := txT_le none (rnT x.2 a.2) 1200 g1
 have hs : (sepF a.1).length ≤ 2 := by
  unfold sepF
  split <;> simp
 have e : x.1.data.toList.length = x.1.size := by simp
 unfold bdS
 split
 ·omega
 ·simp only [List.length_append, List.length_cons, List.length_nil]
  omega
theorem bdL_len : ∀ {l : List (ByteArray × Tm)} {j : Nat}, (∀ x ∈ l, x.1.size ≤ 1000 ∧ mayT x.2 = true) → l.length ≤ 100 → (bdL (l.take j)).1.length ≤ j * 2000000 ∧ (bdL (l.take j)).2.length ≤ j * 4096
 | l, 0, _, _ => by simp [bdL]
 | l, j + 1, h, hl => by
  have ih := bdL_len (l := l) (j := j) h hl
  by_cases hj : j < l.length
  ·have ho : l[j]? = some l[j] := List.getElem?_eq_getElem hj
   rw [bdL_take ho]
   have hx := h l[j] (List.getElem_mem hj)
   have := bdS_len (a := bdL (l.take j)) hx.1 hx.2 (by omega)
   omega
  ·have e1 : l.take j = l := List.take_of_length_le (by omega)
   have e2 : l.take (j + 1) = l := List.take_of_length_le (by omega)
   rw [e1] at ih
   rw [e2]
   exact ⟨Nat.le_trans ih.1 (Nat.mul_le_mul_right _ (Nat.le_succ j)), Nat.le_trans ih.2 (Nat.mul_le_mul_right _ (Nat.le_succ j))⟩
end Go.El
