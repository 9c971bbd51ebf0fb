/- Layer 11, the program: the writer's state; the walks of is, minus, within. -/
import Derived.Test.YtnedihbffiddpaaGreatDoorW8
import Derived.Test.YtnedihbffiddpaaGreatDoorWO
import Derived.Test.YtnedihbffiddpaaGreatDoorWQ
namespace Go.Proofs.YtnedihbffiddpaaGreatDoor
open Go.RowKit Go.El

/-- The operators that a writer holds. -/
def OpsIn (w : World) (b : Nat) (v : Value) : OpsV → Value → Prop
  | none, op => op = .pointer none
  | some (I, Q), op => ∃ tb m1 m2, op = .pointer (some ⟨tb, 0, none⟩) ∧ TabAt w tb m1 m2 I Q ∧ Clr w b v tb ∧ Clr w b v m1 ∧ Clr w b v m2 ∧ (∀ p : OpV, p ∈ I ∨ p ∈ Q → -1000000 ≤ p.p ∧ p.p ≤ 1000000)
/-- A writer that has written F. -/
structure WrSt (base : Nat) (w : World) (b : Nat) (v : Value) (F : List UInt8) (o : OpsV) (op : Value) : Prop where
  bld : ∃ p, BldAt 55 [op] base w b p v F
  ops : OpsIn w b v o op
  low : base ≤ w.heap.size
  lim : F.length ≤ 900000000
theorem OpsIn.step {w w' : World} {b : Nat} {v v' op : Value} {o : OpsV} (h : OpsIn w b v o op) (s : WStep b v w v' w') : OpsIn w' b v' o op := by
  cases o with
  | none => exact h
  | some q =>
    obtain ⟨I, Q⟩ := q
    obtain ⟨tb, m1, m2, e, ht, h1, h2, h3⟩ := h
    exact ⟨tb, m1, m2, e, ht.mods s.mods h1.no h2.no h3.1.no, s.clr h1, s.clr h2, s.clr h3.1, h3.2⟩
theorem WrSt.go {base : Nat} {w w' : World} {b : Nat} {v : Value} {F : List UInt8} {o : OpsV} {op : Value} (h : WrSt base w b v F o op) (x : Ext w w') : WrSt base w' b v F o op := by
  obtain ⟨⟨p, hb⟩, ho, hl, hm⟩ := h
  exact ⟨⟨p, hb.ext x⟩, ho.step (WStep.ext x), Nat.le_trans hl x.size, hm⟩
/-- What a call that writes X leaves. -/
def WrPost (base : Nat) (w : World) (b : Nat) (v : Value) (F X : List UInt8) (o : OpsV) (op : Value) (w' : World) : Prop := ∃ v', WrSt base w' b v' (F ++ X) o op ∧ WStep b v w v' w'

theorem wrByte {base : Nat} {w : World} {b : Nat} {v : Value} {F : List UInt8} {o : OpsV} {op : Value} (h : WrSt base w b v F o op) (c : UInt8) (hl : F.length + 1 ≤ 900000000) :
    Calls Tryz.prog 48 #[.pointer (some ⟨b, 0, none⟩), .int .u8 (c.toNat : Int)] w fun e w' => e = .returned .nilIface ∧ WrPost base w b v F [c] o op w' := by
  obtain ⟨⟨p, hb⟩, ho, hlo, hm⟩ := h
  refine (bldByte_any _ [op] base b p v F c w bldT1 hb hlo (by omega)).mono ?_
  rintro e w' ⟨rfl, v', h1, h2⟩
  exact ⟨rfl, v', ⟨⟨_, h1⟩, ho.step h2, Nat.le_trans hlo h2.mods.size, by simpa using hl⟩, h2⟩
theorem wrString {base : Nat} {w : World} {b : Nat} {v : Value} {F : List UInt8} {o : OpsV} {op : Value} (h : WrSt base w b v F o op) (s : ByteArray) (hl : F.length + s.size ≤ 900000000) :
    Calls Tryz.prog 25 #[.pointer (some ⟨b, 0, none⟩), .string s] w fun e w' => e = .returned (.tuple #[.int .i64 s.size, .nilIface]) ∧ WrPost base w b v F s.data.toList o op w' := by
  obtain ⟨⟨p, hb⟩, ho, hlo, hm⟩ := h
  refine (bldString_any _ [op] base b p v F s w bldT1 hb hlo (by omega)).mono ?_
  rintro e w' ⟨rfl, v', h1, h2⟩
  exact ⟨rfl, v', ⟨⟨_, h1⟩, ho.step h2, Nat.le_trans hlo h2.mods.size, by simpa using hl⟩, h2⟩
theorem WrPost.next {base : Nat} {w w1 w2 : World} {b : Nat} {v v1 : Value} {F X Y : List UInt8} {o : OpsV} {op : Value} (h1 : WStep b v w v1 w1) (h2 : WrPost base w1 b v1 (F ++ X) Y o op w2) : WrPost base w b v F (X ++ Y) o op w2 := by
  obtain ⟨v2, h3, h4⟩ := h2
  rw [List.append_assoc] at h3
  exact ⟨v2, h3, h1.trans h4⟩

set_option maxRecDepth 100000 in
set_option maxHeartbeats 1000000 in
theorem wis_any {base : Nat} {w : World} {b : Nat} {v : Value} {F : List UInt8} {o : OpsV} {op : Value} (h : WrSt base w b v F o op) (s : ByteArray) :
    Calls Tryz.prog 114 #[.pointer (some ⟨b, 0, none⟩), .string s] w fun e w' => e = .returned (.bool (isOp o s)) ∧ Ext w w' := by
  obtain ⟨⟨p, hb⟩, ho, _, _⟩ := h
  have d2 : w.cell? ⟨b, 2, none⟩ = some op := hb.blk.cell 2
  clear hb
  cases o with
  | none =>
    have ho : op = .pointer none := ho
    subst ho
    go_enter Tryz.func114, Tryz.ntmps114
    go_wp2_with fail
    go_ret
    exact ⟨rfl, Ext.refl _⟩
  | some q =>
    obtain ⟨I, Q⟩ := q
    obtain ⟨tb, m1, m2, rfl, ht, _, _, _⟩ := ho
    have HI := Lib.hid (is_any tb m1 m2 I Q s w ht)
    clear ht
    go_enter Tryz.func114, Tryz.ntmps114
    go_wp2_with (go_at_call 122; refine HI.out.mono ?_; rintro e w1 ⟨rfl, hx⟩; have HX := Lib.hid hx; clear hx)
    go_ret
    exact ⟨rfl, HX.out⟩

theorem head_k : ∀ (l : List Tm) (h : 0 < l.length), l.head?.map Tm.k = some (l[0]'h).k
  | [], h => by simp at h
  | _ :: _, _ => rfl

set_option maxRecDepth 100000 in
set_option maxHeartbeats 1000000 in
theorem minus_any (t : Tm) (A : Option Addr) (c : Nat) (w : World) (D : Nat → Prop) (ht : TmIn D w t A c) (hl : 0 < t.l.length) :
    Calls Tryz.prog 98 #[tmVal t A c] w fun e w' => e = .returned (.bool (isMinus t.s t.l)) ∧ Ext w w' := by
  obtain ⟨bb, off, A', c', rfl, _, _, q0, _, _, _⟩ := ht.child (j := 0) (List.getElem?_eq_getElem hl)
  rw [Nat.zero_mul, Nat.add_zero] at q0
  have hh := head_k t.l hl
  have hm : isMinus t.s t.l = (t.s.data.toList == [45] && ((t.l[0]).k == 2)) := by
    unfold isMinus
    rw [hh]
    cases h : ((t.l[0]).k == 2) <;> simp_all
  rw [hm]
  clear hm hh
  generalize hk0 : (t.l[0]'hl).k = k0 at q0 ⊢
  clear hk0
  have q1 := (ext_box w (.cells #[.int .i64 t.k, .int .i64 t.n, .string t.s, .slice (some ⟨bb, off, none⟩) t.l.length c] 27)).cell q0
  have hl2 : (0 : Int) < (t.l.length : Int) := by omega
  unfold tmVal
  clear ht
  by_cases hs : t.s.data.toList = [45]
  · have hs2 : (t.s.toList == [45]) = true := by rw [ByteArray.toList_eq]; simpa using hs
    have hs3 : (t.s.data.toList == [45]) = true := by simpa using hs
    rw [hs3, Bool.true_and]
    clear hs hs3
    go_enter Tryz.func98, Tryz.ntmps98
    go_wp2_with fail
    go_ret
    exact ⟨rfl, ext_box _ _⟩
  · have hs2 := lit_ne hs
    have hs3 : (t.s.data.toList == [45]) = false := by simpa using hs
    rw [hs3, Bool.false_and]
    clear hs hs3
    go_enter Tryz.func98, Tryz.ntmps98
    go_wp2_with fail
    go_ret
    exact ⟨rfl, ext_box _ _⟩

end Go.Proofs.YtnedihbffiddpaaGreatDoor
