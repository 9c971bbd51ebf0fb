/- Layer 8, the reference: tokens as values; what is known of a byte of each kind. -/
import Derived.Test.YtgcdhffeacdegaaGreatDoorH05
import Derived.Test.YtgcdhffeacdegaaGreatDoorH03
import Derived.Test.YtgcdhffeacdegaaGreatDoorH01
import Derived.Laws.BytesArg
import Derived.Laws.IdiomStrings
import Derived.Lib.ConvBytes
import Derived.OwnWalk
import Derived.Test.YtgcdhffeacdegaaGreatDoorH04
namespace Go.Proofs.YtgcdhffeacdegaaGreatDoor
open Go.RowKit Go.El
def tokV (t : TokV) : Value := .agg #[.int .i64 t.kind, .string t.s, .int .i64 t.n, .int .i64 t.at_, .bool t.lay]
theorem tokV_eq (t : TokV) : tokV t = .agg #[.int .i64 t.kind, .string t.s, .int .i64 t.n, .int .i64 t.at_, .bool t.lay] := rfl
theorem nameS_ok {k : Int} {s : List UInt8} {e : Nat} (h : ¬ 64 < s.length) : nameS k s e = .ok (k, s, 0, e) := by unfold nameS; rw [if_neg h]
theorem nameS_long {k : Int} {s : List UInt8} {e : Nat} (h : 64 < s.length) : nameS k s e = .error 3 := by unfold nameS; rw [if_pos h]
theorem oneS_end {B : List UInt8} {i : Nat} {c : UInt8} (h : endsS B i c = true) : oneS B i c = nameS 6 [c] (i + 1) := by unfold oneS; rw [if_pos h]
theorem oneS_small {B : List UInt8} {i : Nat} {c : UInt8} (h : isSmall c = true) : oneS B i c = nameS 1 (sub B i (rowTo isWord B i)) (rowTo isWord B i) := by
 have h1 : endsS B i c = false := by
  have := all_bytes (p := fun c => (!isSmall c || (c != 46)) = true) (by decide +kernel) c
  unfold endsS
  rw [h] at this
  have h46 : (c == 46) = false := by simpa using this
  rw [h46]; rfl
 unfold oneS; rw [if_neg (by simp [h1]), if_pos h]
theorem oneS_sign {B : List UInt8} {i : Nat} {c : UInt8} (h1 : endsS B i c = false) (h : isSign c = true) : oneS B i c = nameS 1 (sub B i (rowTo isSign B i)) (rowTo isSign B i) := by
 have h2 : isSmall c = false := by
  have := all_bytes (p := fun c => (!isSign c || !isSmall c) = true) (by decide +kernel) c
  rw [h] at this
  simpa using this
 unfold oneS; rw [if_neg (by simp [h1]), if_neg (by simp [h2]), if_pos h]
theorem ends_no {B : List UInt8} {i : Nat} {c : UInt8} (h : c ≠ 46) : endsS B i c = false := by unfold endsS; rw [show (c == 46) = false from by simpa using h]; rfl
theorem oneS_solo {B : List UInt8} {i : Nat} {c : UInt8} (h : c = 33 ∨ c = 59) : oneS B i c = nameS 1 [c] (i + 1) := by
 have h0 : endsS B i c = false := ends_no (by rintro rfl; revert h; decide)
 have h1 : isSmall c = false := by rcases h with rfl | rfl <;> rfl
 have h2 : isSign c = false := by rcases h with rfl | rfl <;> rfl
 unfold oneS; rw [if_neg (by simp [h0]), if_neg (by simp [h1]), if_neg (by simp [h2]), if_pos h]
theorem digit_not (c : UInt8) (h : isDigit c = true) : c ≠ 46 ∧ isSmall c = false ∧ isSign c = false ∧ c ≠ 33 ∧ c ≠ 59 ∧ isWord c = true := by
 have := all_bytes (p := fun c => (!isDigit c || (c != 46 && !isSmall c && !isSign c && c != 33 && c != 59 && isWord c)) = true) (by decide +kernel) c
 rw [h] at this
 simpa [and_assoc] using this
theorem oneS_digit {B : List UInt8} {i : Nat} {c : UInt8} (h : isDigit c = true) : oneS B i c = (if numV (sub B i (rowTo isDigit B i)) ≤ 9007199254740991 then .ok (4, [], numV (sub B i (rowTo isDigit B i)), rowTo isDigit B i) else .error 81) := by
 obtain ⟨g1, g2, g3, g4, g5, _⟩ := digit_not c h
 unfold oneS; rw [if_neg (by simp [ends_no g1]), if_neg (by simp [g2]), if_neg (by simp [g3]), if_neg (by simp [g4, g5]), if_pos h]
def isGreat (c : UInt8) : Bool := isWord c && !isSmall c && !isDigit c
theorem great_not (c : UInt8) (h : isGreat c = true) : c ≠ 46 ∧ isSmall c = false ∧ isSign c = false ∧ c ≠ 33 ∧ c ≠ 59 ∧ isDigit c = false ∧ isWord c = true := by
 have := all_bytes (p := fun c => (!isGreat c || (c != 46 && !isSmall c && !isSign c && c != 33 && c != 59 && !isDigit c && isWord c)) = true) (by decide +kernel) c
 rw [h] at this
 simpa [and_assoc] using this
theorem oneS_great {B : List UInt8} {i : Nat} {c : UInt8} (h : isGreat c = true) : oneS B i c = nameS 3 (sub B i (rowTo isWord B i)) (rowTo isWord B i) := by
 obtain ⟨g1, g2, g3, g4, g5, g6, g7⟩ := great_not c h
 unfold oneS; rw [if_neg (by simp [ends_no g1]), if_neg (by simp [g2]), if_neg (by simp [g3]), if_neg (by simp [g4, g5]), if_neg (by simp [g6]), if_pos g7]
theorem punct_not (c : UInt8) (h : isPunct c = true) : c ≠ 46 ∧ isSmall c = false ∧ isSign c = false ∧ c ≠ 33 ∧ c ≠ 59 ∧ isDigit c = false ∧ isWord c = false := by
 have := all_bytes (p := fun c => (!isPunct c || (c != 46 && !isSmall c && !isSign c && c != 33 && c != 59 && !isDigit c && !isWord c)) = true) (by decide +kernel) c
 rw [h] at this
 simpa [and_assoc] using this
theorem oneS_punct {B : List UInt8} {i : Nat} {c : UInt8} (h : isPunct c = true) : oneS B i c = nameS 5 [c] (i + 1) := by
 obtain ⟨g1, g2, g3, g4, g5, g6, g7⟩ := punct_not c h
 unfold oneS; rw [if_neg (by simp [ends_no g1]), if_neg (by simp [g2]), if_neg (by simp [g3]), if_neg (by simp [g4, g5]), if_neg (by simp [g6]), if_neg (by simp [g7]), if_pos h]
theorem oneS_quote {B : List UInt8} {i : Nat} : oneS B i 39 = match quoS B (i + 1) [] with | none => .error 80 | some (s, e) => nameS 2 s e := by
 unfold oneS; rw [if_neg (by simp [ends_no (B := B) (i := i) (c := 39) (by decide)]), if_neg (by decide), if_neg (by decide), if_neg (by decide), if_neg (by decide), if_neg (by decide), if_neg (by decide), if_pos rfl]
 cases quoS B (i + 1) [] <;> rfl
def isOther (c : UInt8) : Bool := !(c == 46) && !isSmall c && !isSign c && !(c == 33) && !(c == 59) && !isWord c && !isPunct c && !(c == 39)
theorem other_not (c : UInt8) (h : isOther c = true) : c ≠ 46 ∧ isSmall c = false ∧ isSign c = false ∧ c ≠ 33 ∧ c ≠ 59 ∧ isDigit c = false ∧ isWord c = false ∧ isPunct c = false ∧ c ≠ 39 := by
 have := all_bytes (p := fun c => (!isOther c || (c != 46 && !isSmall c && !isSign c && c != 33 && c != 59 && !isDigit c && !isWord c && !isPunct c && c != 39)) = true) (by decide +kernel) c
 rw [h] at this
 simpa [and_assoc] using this
theorem oneS_other {B : List UInt8} {i : Nat} {c : UInt8} (h : isOther c = true) : oneS B i c = .error 80 := by
 obtain ⟨g1, g2, g3, g4, g5, g6, g7, g8, g9⟩ := other_not c h
 unfold oneS; rw [if_neg (by simp [ends_no g1]), if_neg (by simp [g2]), if_neg (by simp [g3]), if_neg (by simp [g4, g5]), if_neg (by simp [g6]), if_neg (by simp [g7]), if_neg (by simp [g8]), if_neg g9]
theorem byte_kinds (c : UInt8) : c = 46 ∨ isSmall c = true ∨ (c ≠ 46 ∧ isSign c = true) ∨ (c = 33 ∨ c = 59) ∨ isDigit c = true ∨ isGreat c = true ∨ isPunct c = true ∨ c = 39 ∨ isOther c = true := by
 have := all_bytes (p := fun c => (c == 46 || isSmall c || (c != 46 && isSign c) || (c == 33 || c == 59) || isDigit c || isGreat c || isPunct c || c == 39 || isOther c) = true) (by decide +kernel) c
 simpa [or_assoc] using this
theorem sub_one {B : List UInt8} {i : Nat} {c : UInt8} (h : B[i]? = some c) : sub B i (i + 1) = [c] := by
 unfold sub
 rw [drop_cons h]
 simp
theorem sub_row (p : UInt8 → Bool) (B : List UInt8) (i : Nat) : sub B i (rowTo p B i) = (B.drop i).takeWhile p := by
 have h := rowTo_ge p B i
 unfold sub
 have e : rowTo p B i - i = ((B.drop i).takeWhile p).length := by unfold rowTo; omega
 rw [e]
 exact (List.prefix_iff_eq_take.1 (List.takeWhile_prefix p)).symm
theorem takeWhile_all (p : UInt8 → Bool) : ∀ (l : List UInt8), ∀ c ∈ l.takeWhile p, p c = true
 | [], c, h => by simp at h
 | d :: l, c, h => by
  rw [List.takeWhile_cons] at h
  split at h
  ·next hd =>
   rcases List.mem_cons.1 h with rfl | h
   ·exact hd
   ·exact takeWhile_all p l c h
  ·simp at h
theorem sub_row_all (p : UInt8 → Bool) (B : List UInt8) (i : Nat) : ∀ c ∈ sub B i (rowTo p B i), p c = true := by
 rw [sub_row]
 intro c hc
 exact takeWhile_all p _ c hc
end Go.Proofs.YtgcdhffeacdegaaGreatDoor

/- Layer 8, the reference: the walk of one, kind by kind of its first byte. -/
namespace Go.Proofs.YtgcdhffeacdegaaGreatDoor
open Go.RowKit Go.El
theorem ext_box (w : World) (o : Obj) : Ext w (w.alloc o) := (Ext.refl w).alloc o
theorem ext_box2 (w : World) (o p : Obj) : Ext w ((w.alloc o).alloc p) := ((Ext.refl w).alloc o).alloc p
end Go.Proofs.YtgcdhffeacdegaaGreatDoor

/- Bytes in memory; strings out of bytes. -/
namespace Go.Proofs.YtgcdhffeacdegaaGreatDoor
open Go.RowKit Go.El
theorem own_heap {w : World} {base : Nat} {e : TypeId} {k : Nat} {v : Value} {n : Nat} {xs : List Value} {g : Nat} {t : TypeId} {cs : Array Value} {m : Nat × Nat} (h : w.ownsRow base e k v n xs) (hg : w.heap[g]? = some (.cells cs t m)) (ht : t ≠ e ∨ m ≠ (0, 0)) : g ∉ ownL v := by
 intro hm
 have hb := mem_ownL hm
 rcases h.2 with ⟨rfl, _⟩ | ⟨g', cap, cur, rfl, _, hc, _⟩
 ·simp [Value.ownBlock] at hb
 ·have e1 : g' = g := by simpa [Value.ownBlock] using hb
  subst e1
  rw [hg] at hc
  injection hc with hc
  injection hc with h1 h2 h3
  rcases ht with ht | ht
  ·exact ht h2
  ·exact ht h3
theorem str_app (a b : List UInt8) : (strB a) ++ (strB b) = strB (a ++ b) := by
 have h : ((strB a) ++ (strB b)).data.toList = a ++ b := by
  rw [ByteArray.data_append, Array.toList_append, strB_toList, strB_toList]
 rw [← strB_mk ((strB a) ++ (strB b)), h]
end Go.Proofs.YtgcdhffeacdegaaGreatDoor

/- Terms in memory, and the state of a writer. -/
namespace Go.El
open Go.RowKit
inductive TmIn (D : Nat → Prop) (w : World) : Tm → Option Addr → Nat → Prop
 | mk (k n : Int) (s : ByteArray) (l : List Tm) (A : Option Addr) (cap : Nat) (ch : List (Option Addr × Nat))
   (hl : ch.length = l.length)
   (hr : ∀ (j : Nat) (t : Tm) (c : Option Addr × Nat), l[j]? = some t → ch[j]? = some c → TmIn D w t c.1 c.2)
   (hs : l ≠ [] → ∃ b off, A = some ⟨b, off, none⟩ ∧ D b ∧ ∀ (j : Nat) (t : Tm) (c : Option Addr × Nat), l[j]? = some t → ch[j]? = some c → w.cell? ⟨b, off + j * 4, none⟩ = some (.int .i64 t.k) ∧ w.cell? ⟨b, off + j * 4 + 1, none⟩ = some (.int .i64 t.n) ∧ w.cell? ⟨b, off + j * 4 + 2, none⟩ = some (.string t.s) ∧ w.cell? ⟨b, off + j * 4 + 3, none⟩ = some (.slice c.1 t.l.length c.2))
   (hc : l.length ≤ cap) : TmIn D w (.mk k n s l) A cap
def tmVal (t : Tm) (A : Option Addr) (cap : Nat) : Value := .agg #[.int .i64 t.k, .int .i64 t.n, .string t.s, .slice A t.l.length cap]
theorem TmIn.mods {D D' : Nat → Prop} {S : List Nat} {w w' : World} (hm : Mods S w w') (hS : ∀ k, D k → k ∉ S) (hD : ∀ k, D k → D' k) {t : Tm} {A : Option Addr} {c : Nat} (h : TmIn D w t A c) : TmIn D' w' t A c := by
 induction h with
 | mk k n s l A cap ch hl hr hs hc ih =>
  refine .mk k n s l A cap ch hl ih (fun hne => ?_) hc
  obtain ⟨b, off, hA, hb, hcell⟩ := hs hne
  refine ⟨b, off, hA, hD b hb, fun j t c ht hcj => ?_⟩
  obtain ⟨h0, h1, h2, h3⟩ := hcell j t c ht hcj
  exact ⟨hm.cell h0 (hS b hb), hm.cell h1 (hS b hb), hm.cell h2 (hS b hb), hm.cell h3 (hS b hb)⟩
theorem TmIn.ext {D : Nat → Prop} {w w' : World} (hx : Ext w w') {t : Tm} {A : Option Addr} {c : Nat} (h : TmIn D w t A c) : TmIn D w' t A c :=
 TmIn.mods (Mods.ext (S := []) hx) (fun _ _ => by simp) (fun _ h => h) h
theorem TmIn.mono {D D' : Nat → Prop} {w : World} (hD : ∀ k, D k → D' k) {t : Tm} {A : Option Addr} {c : Nat} (h : TmIn D w t A c) : TmIn D' w t A c :=
 TmIn.mods (Mods.refl [] w) (fun _ _ => by simp) hD h
theorem TmIn.child {D : Nat → Prop} {w : World} {t : Tm} {A : Option Addr} {c : Nat} (h : TmIn D w t A c) {j : Nat} {u : Tm} (hj : t.l[j]? = some u) : ∃ b off A' c', A = some ⟨b, off, none⟩ ∧ D b ∧ TmIn D w u A' c' ∧ w.cell? ⟨b, off + j * 4, none⟩ = some (.int .i64 u.k) ∧ w.cell? ⟨b, off + j * 4 + 1, none⟩ = some (.int .i64 u.n) ∧ w.cell? ⟨b, off + j * 4 + 2, none⟩ = some (.string u.s) ∧ w.cell? ⟨b, off + j * 4 + 3, none⟩ = some (.slice A' u.l.length c') := by
 cases h with
 | mk k n s l A cap ch hl hr hs hc =>
  simp only [Tm.l] at hj
  have hlt := (List.getElem?_eq_some_iff.1 hj).1
  have hne : l ≠ [] := by
   rintro rfl
   simp at hlt
  obtain ⟨b, off, hA, hb, hcell⟩ := hs hne
  have hcj : ch[j]? = some (ch[j]'(by omega)) := List.getElem?_eq_getElem (by omega)
  obtain ⟨h0, h1, h2, h3⟩ := hcell j u _ hj hcj
  exact ⟨b, off, _, _, hA, hb, hr j u _ hj hcj, h0, h1, h2, h3⟩
def TmsIn (D : Nat → Prop) (w : World) (l : List Tm) (A : Option Addr) (cap : Nat) : Prop := TmIn D w (.mk 0 0 ⟨#[]⟩ l) A cap
theorem TmIn.args {D : Nat → Prop} {w : World} {t : Tm} {A : Option Addr} {c : Nat} (h : TmIn D w t A c) : TmsIn D w t.l A c := by
 cases h with
 | mk k n s l A cap ch hl hr hs hc => exact .mk 0 0 _ _ _ _ ch hl hr hs hc
theorem TmsIn.term {D : Nat → Prop} {w : World} {l : List Tm} {A : Option Addr} {c : Nat} (h : TmsIn D w l A c) (k n : Int) (s : ByteArray) : TmIn D w (.mk k n s l) A c := by
 cases h with
 | mk _ _ _ _ _ _ ch hl hr hs hc => exact .mk k n s l A c ch hl hr hs hc
theorem TmsIn.nil (D : Nat → Prop) (w : World) (A : Option Addr) (c : Nat) : TmsIn D w [] A c :=
 .mk 0 0 _ [] A c [] rfl (fun j t c h => by simp at h) (fun h => absurd rfl h) (Nat.zero_le _)
def Clr (w : World) (b : Nat) (v : Value) (k : Nat) : Prop := k ≠ b ∧ v.ownBlock ≠ some k ∧ k < w.heap.size
structure WStep (b : Nat) (v : Value) (w : World) (v' : Value) (w' : World) : Prop where
 mods : Mods (b :: ownL v) w w'
 own : ∀ k, v'.ownBlock = some k → v.ownBlock = some k ∨ w.heap.size ≤ k
theorem Clr.no {w : World} {b : Nat} {v : Value} {k : Nat} (h : Clr w b v k) : k ∉ b :: ownL v := by
 intro hm
 rcases List.mem_cons.1 hm with e | e
 ·exact h.1 e
 ·exact h.2.1 (by simpa [ownL] using e)
theorem WStep.clr {b : Nat} {v v' : Value} {w w' : World} (h : WStep b v w v' w') {k : Nat} (hk : Clr w b v k) : Clr w' b v' k := by
 refine ⟨hk.1, fun e => ?_, Nat.lt_of_lt_of_le hk.2.2 h.mods.size⟩
 rcases h.own k e with e | e
 ·exact hk.2.1 e
 ·exact absurd hk.2.2 (by omega)
theorem WStep.tm {b : Nat} {v v' : Value} {w w' : World} (h : WStep b v w v' w') {t : Tm} {A : Option Addr} {c : Nat} (ht : TmIn (Clr w b v) w t A c) : TmIn (Clr w' b v') w' t A c :=
 TmIn.mods h.mods (fun _ hk => hk.no) (fun _ hk => h.clr hk) ht
theorem WStep.refl (b : Nat) (v : Value) (w : World) : WStep b v w v w := ⟨Mods.refl _ w, fun _ h => .inl h⟩
theorem WStep.ext {b : Nat} {v : Value} {w w' : World} (h : Ext w w') : WStep b v w v w' := ⟨Mods.ext h, fun _ h => .inl h⟩
theorem WStep.trans {b : Nat} {v v1 v2 : Value} {w w1 w2 : World} (h : WStep b v w v1 w1) (k : WStep b v1 w1 v2 w2) : WStep b v w v2 w2 := by
 refine ⟨h.mods.step k.mods (fun x hx => ?_), fun x hx => ?_⟩
 ·rcases List.mem_cons.1 hx with e | e
  ·exact .inl (by simp [e])
  ·have e1 : v1.ownBlock = some x := by simpa [ownL] using e
   rcases h.own x e1 with e2 | e2
   ·exact .inl (by simp [ownL, e2])
   ·exact .inr e2
 ·rcases k.own x hx with e | e
  ·exact h.own x e
  ·exact .inr (Nat.le_trans h.mods.size e)
end Go.El

/- Layer 8, the reference: the walk of one at a quote; one, whole. -/
namespace Go.Proofs.YtgcdhffeacdegaaGreatDoor
open Go.RowKit Go.El
theorem cell_set_ne {w : World} {p q : Addr} {v : Value} (h : p.block ≠ q.block) : (w.setCell p v).cell? q = w.cell? q := by
 exact World.cell?_of_block (Below.heap_setCell w p v q.block (Ne.symm h))
end Go.Proofs.YtgcdhffeacdegaaGreatDoor

/- Layer 8, the reference: the walk of Scan. -/
namespace Go.Proofs.YtgcdhffeacdegaaGreatDoor
open Go.RowKit Go.El
def scanV (x : TokV × Nat × Int) : Value := .tuple #[tokV x.1, .int .i64 (x.2.1 : Int), .int .i64 x.2.2]
theorem blk_set5 {w : World} {g : Nat} {t : TypeId} {a b c d e : Value} (h : Blk w g t #[a, b, c, d, e]) (a' b' c' d' e' : Value) : Blk (((((w.setCell ⟨g, 0, none⟩ a').setCell ⟨g, 1, none⟩ b').setCell ⟨g, 2, none⟩ c').setCell ⟨g, 3, none⟩ d').setCell ⟨g, 4, none⟩ e') g t #[a', b', c', d', e'] :=
 ((((h.set_ 0 a').set_ 1 b').set_ 2 c').set_ 3 d').set_ 4 e'
theorem ext_set5 {w w' : World} (h : Ext w w') {g : Nat} (hg : w.heap.size ≤ g) (a' b' c' d' e' : Value) : Ext w (((((w'.setCell ⟨g, 0, none⟩ a').setCell ⟨g, 1, none⟩ b').setCell ⟨g, 2, none⟩ c').setCell ⟨g, 3, none⟩ d').setCell ⟨g, 4, none⟩ e') :=
 (((((h.setCell (p := ⟨g, 0, none⟩) hg a').setCell (p := ⟨g, 1, none⟩) hg b').setCell (p := ⟨g, 2, none⟩) hg c').setCell (p := ⟨g, 3, none⟩) hg d').setCell (p := ⟨g, 4, none⟩) hg e')
end Go.Proofs.YtgcdhffeacdegaaGreatDoor

/- Layer 8, the reference: the walks of All, SameAll. -/
namespace Go.Proofs.YtgcdhffeacdegaaGreatDoor
open Go.RowKit Go.El
def tokCells (t : TokV) : List Value := [.int .i64 t.kind, .string t.s, .int .i64 t.n, .int .i64 t.at_, .bool t.lay]
theorem tokCells_len : ∀ t, (tokCells t).length = 5 := fun _ => rfl
theorem tokCells_one (t : TokV) : ∀ u ∈ tokCells t, u.oneCell' = true := by
 intro u hu
 simp only [tokCells, List.mem_cons, List.not_mem_nil, or_false] at hu
 rcases hu with rfl | rfl | rfl | rfl | rfl <;> rfl
theorem tokInfo : (Tryz.prog.info? 55).map (fun i => (i.zero, i.size, i.bytes)) = some (some (tokV zeroT), 5, 48) := by kernel_rfl
structure GathT (X wr : World) (v : Value) (F : List TokV) : Prop where
 own : wr.ownsRow 0 55 5 v F.length (flat tokCells F)
 far : ∀ b, v.ownBlock = some b → X.heap.size ≤ b
 ext : Ext X wr
theorem GathT.start (X : World) : GathT X X (.slice none 0 0) [] := ⟨World.ownsRow_nil _ _ _ _, fun b hb => by simp [Value.ownBlock] at hb, Ext.refl _⟩
theorem GathT.step {X wr V w' : World} {v v' : Value} {F : List TokV} {o : TokV} (h : GathT X wr v F) (x : Ext wr V) (ho : w'.ownsRow 0 55 5 v' (F.length + 1) (flat tokCells F ++ tokCells o)) (hm : Mods (ownL v) V w') (hb : v'.ownBlock = v.ownBlock ∨ v'.ownBlock = some V.heap.size) : GathT X w' v' (F ++ [o]) := by
 refine ⟨?_, fun b hb' => ?_, ext_mods (h.ext.trans x) hm (fun k hk => h.far k (mem_ownL hk))⟩
 ·rw [flat_append, List.length_append]
  have e : flat tokCells [o] = tokCells o := by simp [flat]
  rw [e]
  exact ho
 ·rcases hb with e | e
  ·exact h.far b (e.symm.trans hb')
  ·rw [e] at hb'
   injection hb' with hb'
   subst hb'
   exact Nat.le_trans h.ext.size x.size
theorem src_new2 (w : World) (o : Obj) (t : TokV) : El.Src ((w.alloc o).alloc (.cells #[.int .i64 t.kind, .string t.s, .int .i64 t.n, .int .i64 t.at_, .bool t.lay] 55)) (some ⟨w.heap.size + 1, 0, none⟩) 1 5 (tokCells t) := by
 have := El.Src.new (w.alloc o) #[.int .i64 t.kind, .string t.s, .int .i64 t.n, .int .i64 t.at_, .bool t.lay] 55 1 5 rfl
 rw [World.size_alloc] at this
 exact this
end Go.Proofs.YtgcdhffeacdegaaGreatDoor
