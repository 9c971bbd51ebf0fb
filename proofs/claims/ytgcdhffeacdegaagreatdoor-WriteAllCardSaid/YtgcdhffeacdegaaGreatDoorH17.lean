/- Layer 11, the program: the walk of within. -/
import Derived.Test.YtgcdhffeacdegaaGreatDoorH15
import Derived.Test.YtgcdhffeacdegaaGreatDoorH16
import Derived.Test.YtgcdhffeacdegaaGreatDoorH04
namespace Go.Proofs.YtgcdhffeacdegaaGreatDoor
open Go.RowKit Go.El
set_option maxRecDepth 100000 in
set_option maxHeartbeats 2000000 in
theorem within_any {base : Nat} {w : World} {b : Nat} {v : Value} {F : List UInt8} {o : OpsV} {op : Value} (h : WrSt base w b v F o op) (br : Bool) (f : FuncId) (cap : Array Value) (X : List UInt8) (hl : F.length + X.length + 2 ≤ 900000000)
  (he : ∀ args w, (callFunc f args).run Tryz.prog w = .ok (.enter f args) w)
  (hc : ∀ w1 v1 F1, WrSt base w1 b v1 F1 o op → WStep b v w v1 w1 → F1.length ≤ F.length + 1 → Calls Tryz.prog f cap w1 fun e w' => e = .returned (.tuple #[]) ∧ WrPost base w1 b v1 F1 X o op w') :
  Calls Tryz.prog 157 #[.pointer (some ⟨b, 0, none⟩), .bool br, .func (.func f) #[] cap] w fun e w' => e = .returned (.tuple #[]) ∧ WrPost base w b v F (brk br X) o op w' := by
 have H := Lib.hid h
 have HC := fun w1 v1 F1 h1 h2 h3 => Lib.hid (hc w1 v1 F1 h1 h2 h3)
 clear h hc
 cases br
 ·go_enter Tryz.func157, Tryz.ntmps157
  go_wp2_with (go_at_fn f; refine (HC w v F H.out (WStep.refl _ _ _) (by omega)).out.mono ?_; rintro e w' ⟨rfl, h2⟩; have H2 := Lib.hid h2; clear h2)
  go_end0
  exact ⟨rfl, H2.out⟩
 ·go_enter Tryz.func157, Tryz.ntmps157
  go_upto_region 2 with (go_at_call 123; refine (wrByte H.out 40 (by omega)).mono ?_; rintro e w1 ⟨rfl, v1, h1, s1⟩; have H1 := Lib.hid h1; have S1 := Lib.hid s1; clear h1 s1)
  go_upto_region 3 with (go_at_fn f; refine (HC w1 v1 _ H1.out S1.out (by simp)).out.mono ?_; rintro e w2 ⟨rfl, v2, h2, s2⟩; have H2 := Lib.hid h2; have S2 := Lib.hid s2; clear h2 s2)
  go_wp2_with (go_at_call 123; refine (wrByte H2.out 41 (by simp; omega)).mono ?_; rintro e w3 ⟨rfl, v3, h3, s3⟩; have H3 := Lib.hid h3; have S3 := Lib.hid s3; clear h3 s3)
  go_end0
  refine ⟨rfl, v3, ?_, (S1.out.trans S2.out).trans S3.out⟩
  have := H3.out
  simpa [brk] using this
end Go.Proofs.YtgcdhffeacdegaaGreatDoor

/- Layer 11, the program: what a writer leans on; the contract of term; the walk of row. -/
namespace Go.Proofs.YtgcdhffeacdegaaGreatDoor
open Go.RowKit Go.El
noncomputable def pwName : String := (Tryz.prog.globals[2]?).elim "" (·.name)
theorem pwNamed : Tryz.prog.globalNamed pwName = some 2 := by kernel_rfl
structure Env (w : World) : Prop where
 tz : TzAt w
 pw : Lib.TabIs Tryz.prog w pwName .u64 Lib.pow10Tab
 ty : TypesAt 0 w
theorem var_mods {S : List Nat} {w w' : World} {n : String} {g : Nat} (hg : Tryz.prog.globalNamed n = some g) (hm : Mods S w w') (hS : g ∉ S) {cs : Array Value} (h : w.var? Tryz.prog n = some cs) : w'.var? Tryz.prog n = some cs := by
 unfold World.var? at h ⊢
 simp only [hg, Option.bind_some] at h ⊢
 have hlt : g < w.heap.size := by
  rcases Nat.lt_or_ge g w.heap.size with h' | h'
  ·exact h'
  ·simp [Array.getElem?_eq_none h'] at h
 rw [hm.block g hlt hS]
 exact h
theorem types_mods {S : List Nat} {w w' : World} {g : Nat} (h : TypesAt g w) (hm : Mods S w w') (hS : g ∉ S) : TypesAt g w' := by
 obtain ⟨h0, h1, h2, h3, h4, h5⟩ := h
 exact ⟨hm.cell h0 hS, hm.cell h1 hS, hm.cell h2 hS, hm.cell h3 hS, hm.cell h4 hS, hm.cell h5 hS⟩
theorem Env.mods {S : List Nat} {w w' : World} (h : Env w) (hm : Mods S w w') (h1 : 6 ∉ S) (h2 : 2 ∉ S) (h3 : 0 ∉ S) : Env w' :=
 ⟨hm.cell h.tz h1, var_mods pwNamed hm h2 h.pw, types_mods h.ty hm h3⟩
theorem Env.ext {w w' : World} (h : Env w) (x : Ext w w') : Env w' := h.mods (Mods.ext (S := []) x) (by simp) (by simp) (by simp)
structure EnvIn (w : World) (b : Nat) (v : Value) : Prop where
 env : Env w
 c1 : Clr w b v 6
 c2 : Clr w b v 2
 c3 : Clr w b v 0
theorem EnvIn.step {w w' : World} {b : Nat} {v v' : Value} (h : EnvIn w b v) (s : WStep b v w v' w') : EnvIn w' b v' :=
 ⟨h.env.mods s.mods h.c1.no h.c2.no h.c3.no, s.clr h.c1, s.clr h.c2, s.clr h.c3⟩
def TermC (N : Nat) : Prop := ∀ t, szT t ≤ N → mayT t = true → ∀ (base : Nat) (w : World) (b : Nat) (v : Value) (F : List UInt8) (o : OpsV) (op : Value) (most : Int) (A : Option Addr) (c : Nat), WrSt base w b v F o op → EnvIn w b v → TmIn (Clr w b v) w t A c → F.length + 400 * szT t ≤ 800000000 → -9000000000000000000 ≤ most → most ≤ 9000000000000000000 →
 Calls Tryz.prog 78 #[.pointer (some ⟨b, 0, none⟩), tmVal t A c, .int .i64 most] w fun e w' => e = .returned (.tuple #[]) ∧ WrPost base w b v F (txT o t most) o op w'
theorem box_clr {base : Nat} {wr : World} {obj : Obj} {b : Nat} {v : Value} {F : List UInt8} {o : OpsV} {op : Value} (h : WrSt base (wr.alloc obj) b v F o op) (hb : b < wr.heap.size) (hv : ∀ k, v.ownBlock = some k → k < wr.heap.size) : Clr (wr.alloc obj) b v wr.heap.size := by
 have := h.low
 exact ⟨by omega, fun e => by have := hv _ e; omega, by rw [World.size_alloc]; omega⟩
set_option maxRecDepth 100000 in
set_option maxHeartbeats 4000000 in
theorem wrow_any (N : Nat) (IH : TermC N) (l : List Tm) (hN : ∀ (j : Nat) (u : Tm), l[j]? = some u → szT u ≤ N ∧ mayT u = true) (base : Nat) (w : World) (b : Nat) (v : Value) (F : List UInt8) (o : OpsV) (op : Value) (A : Option Addr) (c : Nat) (h : WrSt base w b v F o op) (he : EnvIn w b v) (ht : TmsIn (Clr w b v) w l A c) (hl : F.length + 400 * szL l ≤ 800000000)
  (hlen : ∀ j, (rwT o (l.take j)).length + min j l.length ≤ 400 * szL (l.take j)) :
  Calls Tryz.prog 122 #[.pointer (some ⟨b, 0, none⟩), .slice A l.length c] w fun e w' => e = .returned (.tuple #[]) ∧ WrPost base w b v F (rwT o l) o op w' := by
 have H := Lib.hid h
 have HE := Lib.hid he
 have HT := Lib.hid ht
 have hll := len_szL l
 clear h he ht
 go_enter Tryz.func122, Tryz.ntmps122
 go_upto_region 1 with fail
 go_loopw [8] (fun i wr => ∃ (j : Nat) (v1 : Value), j ≤ l.length ∧ i = .int .i64 j ∧ Hid (WrSt base wr b v1 (F ++ rwT o (l.take j)) o op) ∧ Hid (WStep b v w v1 wr)) (fun i _ => l.length - (intOf i).toNat)
 case atStart => exact ⟨0, v, Nat.zero_le _, rfl, by simpa [rwT] using H, WStep.refl _ _ _⟩
 case round =>
  obtain ⟨j, v1, hj, rfl, HW, HS⟩ := hrel
  by_cases hlt : j < l.length
  ·have ho : l[j]? = some l[j] := List.getElem?_eq_getElem hlt
   obtain ⟨hsu, hmu⟩ := hN j _ ho
   generalize l[j] = u at ho hsu hmu
   have hrt := Lib.hid (rwT_take o ho)
   have hst := szL_take ho
   have hs1 := szL_take_le l (j + 1)
   have hle := hlen j
   obtain ⟨bb, off, A', c', rfl, _, hu, q0, q1, q2, q3⟩ := (HS.out.tm HT.out).child ho
   have HU := Lib.hid (WStep.tm (WStep.ext (ext_box wr (.cells #[.int .i64 u.k, .int .i64 u.n, .string u.s, .slice A' u.l.length c'] 32))) hu)
   have HE1 := Lib.hid (HE.out.step HS.out)
   have HE2 := Lib.hid (HE1.out.step (WStep.ext (ext_box wr (.cells #[.int .i64 u.k, .int .i64 u.n, .string u.s, .slice A' u.l.length c'] 32))))
   have HW2 := Lib.hid (HW.out.go (ext_box wr (.cells #[.int .i64 u.k, .int .i64 u.n, .string u.s, .slice A' u.l.length c'] 32)))
   have HS2 := Lib.hid (HS.out.trans (WStep.ext (b := b) (v := v1) (ext_box wr (.cells #[.int .i64 u.k, .int .i64 u.n, .string u.s, .slice A' u.l.length c'] 32))))
   clear ho hu
   have hbl : b < wr.heap.size := (HW.out.bld.choose_spec).blk.lt
   have hvl : ∀ k, v1.ownBlock = some k → k < wr.heap.size := fun k e => ((HW.out.bld.choose_spec).own.lt k e).2
   clear HE1 HW HS
   by_cases hj0 : j = 0
   ·have hjc : ¬ (0 : Int) < (j : Int) := by omega
    rw [if_pos hj0, List.append_nil] at hrt
    clear hj0
    go_upto_region 5 with fail
    go_wp2_with (go_at_call 78; refine (IH u hsu hmu base _ b v1 _ o op 999 A' c' HW2.out HE2.out HU.out (by simp only [List.length_append]; omega) (by omega) (by omega)).mono ?_; rintro e w3 ⟨rfl, v3, h3, s3⟩; have H3 := Lib.hid h3; have S3 := Lib.hid (HS2.out.trans s3); clear h3 s3)
    go_roundw
    case rel =>
     refine ⟨j + 1, v3, hlt, by go_num, ?_, S3.out⟩
     rw [hrt.out, ← List.append_assoc]
     exact H3.out
    case measure => simp [intOf]; omega
   ·have hjc : (0 : Int) < (j : Int) := by omega
    rw [if_neg hj0] at hrt
    clear hj0
    go_upto_region 5 with (go_at_call 123; refine (wrByte HW2.out 44 (by simp only [List.length_append]; omega)).mono ?_; rintro e w2 ⟨rfl, v2, h2, s2⟩; have H2 := Lib.hid h2; have S2 := Lib.hid (HS2.out.trans s2); have HE3 := Lib.hid (HE2.out.step s2); have HU3 := Lib.hid (s2.tm HU.out); have xb := s2.mods.heap (k := wr.heap.size) (Blk.new wr 32 #[.int .i64 u.k, .int .i64 u.n, .string u.s, .slice A' u.l.length c']) (box_clr HW2.out hbl hvl).no; have HXB := Lib.hid (show Blk w2 wr.heap.size 32 #[.int .i64 u.k, .int .i64 u.n, .string u.s, .slice A' u.l.length c'] from xb); clear h2 s2 xb)
    have x0 : w2.cell? ⟨wr.heap.size, 0, none⟩ = some (.int .i64 u.k) := HXB.out.cell 0
    have x1 : w2.cell? ⟨wr.heap.size, 1, none⟩ = some (.int .i64 u.n) := HXB.out.cell 1
    have x2 : w2.cell? ⟨wr.heap.size, 2, none⟩ = some (.string u.s) := HXB.out.cell 2
    have x3 : w2.cell? ⟨wr.heap.size, 3, none⟩ = some (.slice A' u.l.length c') := HXB.out.cell 3
    go_wp2_with (go_at_call 78; refine (IH u hsu hmu base _ b v2 _ o op 999 A' c' H2.out HE3.out HU3.out (by simp only [List.length_append, List.length_cons, List.length_nil]; omega) (by omega) (by omega)).mono ?_; rintro e w3 ⟨rfl, v3, h3, s3⟩; have H3 := Lib.hid h3; have S3 := Lib.hid (S2.out.trans s3); clear h3 s3)
    go_roundw
    case rel =>
     refine ⟨j + 1, v3, hlt, by go_num, ?_, S3.out⟩
     rw [hrt.out, ← List.append_assoc, ← List.append_assoc]
     exact H3.out
    case measure => simp [intOf]; omega
  ·obtain rfl : j = l.length := by omega
   rw [List.take_length] at HW
   go_wp2_with fail
   go_end0
   exact ⟨rfl, v1, HW.out, HS.out⟩
end Go.Proofs.YtgcdhffeacdegaaGreatDoor

/- Layer 11, plain: how long a term's text is. -/
namespace Go.El
theorem hexL_le (c : UInt8) : (hexL c).length ≤ 2 := by
 unfold hexL
 split <;> simp
theorem sgnF_le (c : UInt8) : (sgnF c).length ≤ 5 := by
 have h1 := hexL_le c
 unfold sgnF
 split
 ·simp only [List.length_append, List.length_cons, List.length_nil]; omega
 ·unfold sgnS
  split
  ·decide
  ·split
   ·decide
   ·split <;> simp
theorem sgnW_le : ∀ l : List UInt8, (sgnW l).length ≤ 5 * l.length
 | [] => Nat.le_refl _
 | c :: l => by
  have := sgnW_le l
  have := sgnF_le c
  simp only [sgnW, List.flatMap_cons, List.length_append, List.length_cons] at *
  omega
theorem quoF_le (l : List UInt8) : (quoF l).length ≤ 5 * l.length + 2 := by
 have := sgnW_le l
 unfold quoF
 split
 ·omega
 ·simp only [List.length_append, List.length_cons, List.length_nil]; omega
theorem decDigits_le : ∀ (k u : Nat), u < 10 ^ (k + 1) → (Lib.decDigits u).length ≤ k + 1
 | 0, u, h => by
  rw [Lib.decDigits, dif_pos (by simpa using h)]
  simp
 | k + 1, u, h => by
  rw [Lib.decDigits]
  split
  ·simp
  ·have := decDigits_le k (u / 10) (by rw [Nat.pow_succ] at h; omega)
   simp only [List.length_append, List.length_cons, List.length_nil]
   omega
theorem itoa_le {n : Int} (h1 : -9007199254740991 ≤ n) (h2 : n ≤ 9007199254740991) : (Lib.itoa n).length ≤ 17 := by
 unfold Lib.itoa
 split
 ·have := decDigits_le 15 n.natAbs (by omega)
  simp only [List.length_cons]
  omega
 ·have := decDigits_le 15 n.toNat (by omega)
  omega
theorem brk_le (b : Bool) (x : List UInt8) : (brk b x).length ≤ x.length + 2 := by
 unfold brk
 split
 ·simp
 ·omega
theorem part_bd {k n : Int} {s : ByteArray} {m : Nat} (h : partK k n s m = true) : -9007199254740991 ≤ n ∧ n ≤ 9007199254740991 ∧ s.size ≤ 64 := by
 unfold partK at h
 split at h
 ·have := of_decide_eq_true h; omega
 ·split at h
  ·have := of_decide_eq_true h; omega
  ·split at h
   ·have := of_decide_eq_true h; omega
   ·split at h
    ·have := of_decide_eq_true h; omega
    ·cases h
theorem midF_le {s : ByteArray} (h : s.size ≤ 64) : (midF s).length ≤ 324 := by
 have := quoF_le s.data.toList
 have e : s.data.toList.length = s.size := by simp
 unfold midF
 split
 ·simp
 ·simp only [List.length_append, List.length_cons, List.length_nil]; omega
theorem operF_le {I Q : List OpV} {k : Int} {s : ByteArray} {l : List Tm} {most : Int} {a0 a1 : Int → List UInt8} {R : Nat} (hs : s.size ≤ 64) (ha : ∀ m m', (a0 m).length + (a1 m').length ≤ R) {x : List UInt8} (h : operF I Q k s l most a0 a1 = some x) : x.length ≤ 340 + R := by
 have hq := quoF_le s.data.toList
 have e : s.data.toList.length = s.size := by simp
 have hm := midF_le hs
 unfold operF at h
 split at h
 ·injection h with h
  subst h
  have := ha 1200 0
  simp only [List.length_append, List.length_cons, List.length_nil]
  omega
 ·split at h
  ·cases h
  ·rename_i p _
   split at h
   ·injection h with h
    subst h
    have h1 := ha (leftF I Q p l) (rightI p.p p.t)
    have b0 := brk_le ((l.head?.map (bareT (some (I, Q)))).getD false) (a0 (leftF I Q p l))
    have b1 := brk_le ((l.tail.head?.map (bareT (some (I, Q)))).getD false) (a1 (rightI p.p p.t))
    refine Nat.le_trans (brk_le _ _) ?_
    simp only [List.length_append, besF]
    omega
   ·injection h with h
    subst h
    have h1 := ha (rightI p.p p.t) 0
    have b0 := brk_le ((l.head?.map (bareT (some (I, Q)))).getD false) (a0 (rightI p.p p.t))
    refine Nat.le_trans (brk_le _ _) ?_
    simp only [List.length_append, besF, List.length_cons, List.length_nil]
    omega
theorem hdF_le {o : OpsV} {k n : Int} {s : ByteArray} {l : List Tm} {m : Nat} {most : Int} {row : List UInt8} {a0 a1 : Int → List UInt8} {R : Nat} (hp : partK k n s m = true) (hr : row.length ≤ R) (ha : ∀ m m', (a0 m).length + (a1 m').length ≤ R) : (hdF o k n s l most row a0 a1).length ≤ 340 + R := by
 obtain ⟨h1, h2, hs⟩ := part_bd hp
 have hi := itoa_le h1 h2
 have hq := quoF_le s.data.toList
 have e : s.data.toList.length = s.size := by simp
 unfold hdF
 split
 ·simp only [List.length_append, List.length_cons, List.length_nil]; omega
 ·split
  ·omega
  ·split
   ·omega
   ·split
    ·rename_i x hx
     cases o with
     | none => cases hx
     | some q =>
      obtain ⟨I, Q⟩ := q
      exact operF_le hs ha hx
    ·simp only [List.length_append, List.length_cons, List.length_nil]; omega
mutual
theorem txT_le (o : OpsV) : ∀ (t : Tm) (most : Int), okT t = true → (txT o t most).length + 2 ≤ 400 * szT t
 | .mk k n s l, most, h => by
  simp only [okT, Bool.and_eq_true] at h
  have h1 := lsT_le o l h.2
  have h2 := rwT_le o l h.2
  have h3 := aT_le o l h.2
  simp only [txT, szT]
  split
  ·simp only [List.length_append, List.length_cons, List.length_nil]; omega
  ·have := hdF_le (o := o) (l := l) (most := most) h.1 (show (rwT o l).length ≤ 400 * szL l by omega) h3
   omega
theorem lsT_le (o : OpsV) : ∀ (l : List Tm), okL l = true → (lsT o l).length ≤ 400 * szL l
 | [], _ => by simp [lsT]
 | a :: r, h => by
  simp only [okL, Bool.and_eq_true] at h
  have h1 := txT_le o a 999 h.1
  have h2 := lrT_le o r h.2
  simp only [lsT, szL, List.length_append]
  omega
theorem lrT_le (o : OpsV) : ∀ (l : List Tm), okL l = true → (lrT o l).length ≤ 400 * szL l
 | [], _ => by simp [lrT]
 | b :: r, h => by
  simp only [okL, Bool.and_eq_true] at h
  have h1 := endT_le o b h.1
  simp only [lrT, szL]
  omega
theorem endT_le (o : OpsV) : ∀ (t : Tm), okT t = true → (endT o t).length + 2 ≤ 400 * szT t
 | .mk k n s l, h => by
  simp only [okT, Bool.and_eq_true] at h
  have h1 := lsT_le o l h.2
  have h2 := rwT_le o l h.2
  have h3 := aT_le o l h.2
  simp only [endT, szT]
  split
  ·simp only [List.length_append, List.length_cons, List.length_nil]; omega
  ·split
   ·simp only [List.length_cons, List.length_nil]; omega
   ·have := hdF_le (o := o) (l := l) (most := 999) h.1 (show (rwT o l).length ≤ 400 * szL l by omega) h3
    simp only [List.length_append, List.length_cons, List.length_nil]
    omega
theorem rwT_le (o : OpsV) : ∀ (l : List Tm), okL l = true → (rwT o l).length + l.length ≤ 400 * szL l
 | [], _ => by simp [rwT]
 | a :: r, h => by
  simp only [okL, Bool.and_eq_true] at h
  have h1 := txT_le o a 999 h.1
  have h2 := rrT_le o r h.2
  simp only [rwT, szL, List.length_append, List.length_cons]
  omega
theorem rrT_le (o : OpsV) : ∀ (l : List Tm), okL l = true → (rrT o l).length + l.length ≤ 400 * szL l
 | [], _ => by simp [rrT]
 | a :: r, h => by
  simp only [okL, Bool.and_eq_true] at h
  have h1 := txT_le o a 999 h.1
  have h2 := rrT_le o r h.2
  simp only [rrT, szL, List.length_append, List.length_cons, List.length_nil]
  omega
theorem aT_le (o : OpsV) : ∀ (l : List Tm), okL l = true → ∀ m m', (a0T o l m).length + (a1T o l m').length ≤ 400 * szL l
 | [], _, m, m' => by simp [a0T, a1T]
 | a :: r, h, m, m' => by
  simp only [okL, Bool.and_eq_true] at h
  have h1 := txT_le o a m h.1
  have h2 := aT_le o r h.2 m' 0
  simp only [a0T, a1T, szL]
  omega
end
theorem rwT_take_le (o : OpsV) (l : List Tm) (h : okL l = true) (j : Nat) : (rwT o (l.take j)).length + min j l.length ≤ 400 * szL (l.take j) := by
 have hk : ∀ (l : List Tm) (j : Nat), okL l = true → okL (l.take j) = true := by
  intro l
  induction l with
  | nil => intro j _; simp [okL]
  | cons a r ih =>
   intro j h
   cases j with
   | zero => simp [okL]
   | succ j =>
    simp only [okL, Bool.and_eq_true] at h
    simp only [List.take_succ_cons, okL, Bool.and_eq_true]
    exact ⟨h.1, ih j h.2⟩
 have := rwT_le o (l.take j) (hk l j h)
 rw [List.length_take] at this
 exact this
end Go.El
/- Layers 6 and 11, plain: a list's items and its text. -/
namespace Go.El
theorem ls_split {t : Tm} (h : isLs t.k t.s t.l.length = true) : ∃ a b, t.l = [a, b] ∧ itT t = a :: itT b ∧ tlT t = tlT b := by
 have hd := of_decide_eq_true h
 cases t with
 | mk k n s l =>
  simp only [Tm.k, Tm.s, Tm.l] at h hd ⊢
  obtain ⟨_, _, h3⟩ := hd
  match l, h3 with
  | [a, b], _ =>
   refine ⟨a, b, rfl, ?_, ?_⟩
   ·simp only [itT]
    rw [if_pos h]
    rfl
   ·simp only [tlT]
    rw [if_pos h]
    rfl
theorem ls_none {t : Tm} (h : isLs t.k t.s t.l.length = false) : itT t = [] ∧ tlT t = t := by
 cases t with
 | mk k n s l =>
  simp only [Tm.k, Tm.s, Tm.l] at h
  simp only [itT, tlT, h]
  exact ⟨rfl, rfl⟩
theorem it_size : ∀ (N : Nat) (t : Tm), szT t ≤ N → szL (itT t) + szT (tlT t) ≤ szT t ∧ (mayT t = true → (∀ u ∈ itT t, mayT u = true) ∧ mayT (tlT t) = true)
 | 0, t, h => by have := szT_pos t; omega
 | N + 1, t, h => by
  cases hl : isLs t.k t.s t.l.length
  ·obtain ⟨h1, h2⟩ := ls_none hl
   rw [h1, h2]
   exact ⟨by simp [szL], fun hm => ⟨fun u hu => by simp at hu, hm⟩⟩
  ·obtain ⟨a, b, hab, h1, h2⟩ := ls_split hl
   have hsz : szT t = 1 + (szT a + szT b) := by
    cases t with
    | mk k n s l =>
     simp only [Tm.l] at hab
     subst hab
     simp [szT, szL]
   obtain ⟨i1, i2⟩ := it_size N b (by omega)
   rw [h1, h2]
   refine ⟨by simp only [szL]; omega, fun hm => ?_⟩
   have ha : mayT a = true := mayT_get hm (j := 0) (by rw [hab]; rfl)
   have hb : mayT b = true := mayT_get hm (j := 1) (by rw [hab]; rfl)
   refine ⟨fun u hu => ?_, (i2 hb).2⟩
   rcases List.mem_cons.1 hu with e | e
   ·exact e ▸ ha
   ·exact (i2 hb).1 u e
theorem it_lt {t : Tm} (h : isLs t.k t.s t.l.length = true) : szL (itT t) + szT (tlT t) + 1 ≤ szT t := by
 obtain ⟨a, b, hab, h1, h2⟩ := ls_split h
 have := (it_size (szT b) b (Nat.le_refl _)).1
 rw [h1, h2]
 cases t with
 | mk k n s l =>
  simp only [Tm.l] at hab
  subst hab
  simp only [szT, szL]
  omega
theorem okL_of : ∀ {l : List Tm}, (∀ u ∈ l, mayT u = true) → okL l = true
 | [], _ => rfl
 | t :: r, h => by
  simp only [okL, Bool.and_eq_true]
  exact ⟨(mayT_iff.1 (h t (by simp))).1, okL_of (fun u hu => h u (by simp [hu]))⟩
def tailF (o : OpsV) (u : Tm) : List UInt8 := if u.k = 3 ∧ u.s.data.toList = [91, 93] then [93] else [124] ++ txT o u 999 ++ [93]
theorem end_items (o : OpsV) : ∀ (N : Nat) (b : Tm), szT b ≤ N → endT o b = rrT o (itT b) ++ tailF o (tlT b)
 | 0, t, h => by have := szT_pos t; omega
 | N + 1, t, h => by
  cases hl : isLs t.k t.s t.l.length
  ·obtain ⟨h1, h2⟩ := ls_none hl
   rw [h1, h2]
   cases t with
   | mk k n s l =>
    simp only [Tm.k, Tm.s, Tm.l] at hl
    simp only [endT, hl, tailF, txT, Tm.k, Tm.s, rrT]
    simp
  ·obtain ⟨a, b, hab, h1, h2⟩ := ls_split hl
   rw [h1, h2]
   cases t with
   | mk k n s l =>
    simp only [Tm.k, Tm.s, Tm.l] at hl hab
    subst hab
    have ih := end_items o N b (by simp only [szT, szL] at h; omega)
    simp only [endT, hl, if_true, lsT, lrT, rrT]
    rw [ih]
    simp
theorem txT_list (o : OpsV) (most : Int) {t : Tm} (h : isLs t.k t.s t.l.length = true) : txT o t most = [91] ++ rwT o (itT t) ++ tailF o (tlT t) := by
 obtain ⟨a, b, hab, h1, h2⟩ := ls_split h
 rw [h1, h2]
 cases t with
 | mk k n s l =>
  simp only [Tm.k, Tm.s, Tm.l] at h hab
  subst hab
  simp only [txT, h, if_true, lsT, lrT, rwT]
  rw [end_items o (szT b) b (Nat.le_refl _)]
  simp
end Go.El

/- Layer 11, the program: the walk of list. -/
namespace Go.Proofs.YtgcdhffeacdegaaGreatDoor
open Go.RowKit Go.El
theorem WrSt.lt {base : Nat} {w : World} {b : Nat} {v : Value} {F : List UInt8} {o : OpsV} {op : Value} (h : WrSt base w b v F o op) : b < w.heap.size := by
 obtain ⟨⟨p, hb⟩, _, _, _⟩ := h
 exact hb.blk.lt
theorem WrSt.olt {base : Nat} {w : World} {b : Nat} {v : Value} {F : List UInt8} {o : OpsV} {op : Value} (h : WrSt base w b v F o op) : ∀ k, v.ownBlock = some k → k < w.heap.size := by
 obtain ⟨⟨p, hb⟩, _, _, _⟩ := h
 exact fun k e => (hb.own.lt k e).2
theorem new_clr {base : Nat} {w W : World} {b : Nat} {v : Value} {F : List UInt8} {o : OpsV} {op : Value} (h : WrSt base w b v F o op) {k : Nat} (h1 : w.heap.size ≤ k) (h2 : k < W.heap.size) : Clr W b v k :=
 ⟨by have := h.lt; omega, fun e => by have := h.olt k e; omega, h2⟩
set_option maxRecDepth 100000 in
set_option maxHeartbeats 8000000 in
theorem list_any (N : Nat) (IH : TermC N) (t : Tm) (hN : szT t ≤ N + 1) (hm : mayT t = true) (hls : isLs t.k t.s t.l.length = true) (base : Nat) (w : World) (b : Nat) (v : Value) (F : List UInt8) (o : OpsV) (op : Value) (most : Int) (A : Option Addr) (c : Nat) (h : WrSt base w b v F o op) (he : EnvIn w b v) (ht : TmIn (Clr w b v) w t A c) (hl : F.length + 400 * szT t ≤ 800000000) :
  Calls Tryz.prog 120 #[.pointer (some ⟨b, 0, none⟩), tmVal t A c] w fun e w' => e = .returned (.tuple #[]) ∧ WrPost base w b v F (txT o t most) o op w' := by
 have HI := fun W (x : Ext w W) => Lib.hid (items_any t hm A c W _ (ht.ext x))
 have hsz := it_lt hls
 obtain ⟨_, hmay⟩ := it_size (szT t) t (Nat.le_refl _)
 obtain ⟨hmi, hmt⟩ := hmay hm
 have HX := Lib.hid (txT_list o most hls)
 have hw := h.lt
 have ho := h.olt
 have H := Lib.hid h
 have HE := Lib.hid he
 have hup := szT_pos (tlT t)
 clear h he ht hls hm
 unfold tmVal at HI ⊢
 go_enter Tryz.func120, Tryz.ntmps120
 go_upto_region 2 with (go_at_call 155; refine (HI _ (ext_box w _)).out.mono ?_; rintro e W1 ⟨lo, vi, M, A2, c2, rfl, hr, hM, ht2⟩; have HR := Lib.hid hr; have HM := Lib.hid hM; have HT := Lib.hid ht2; clear hr hM ht2)
 generalize tlT t = u at *
 refine wp_abs (fun V => Hid (Blk V W1.heap.size 32 #[.int .i64 u.k, .int .i64 u.n, .string u.s, .slice A2 u.l.length c2]) ∧ Hid (Ext W1 V)) ⟨Blk.new W1 _ _, ext_box _ _⟩ ?_
 rintro V ⟨HB, HV⟩
 have hwV : Ext w V := ((ext_box w _).trans HR.out.ext).trans HV.out
 have hlo : w.heap.size ≤ lo := by have := HR.out.xlo; rw [World.size_alloc] at this; omega
 obtain ⟨Ai, ci, rfl, htm⟩ := HR.out.done 0 0 ⟨#[]⟩
 rw [HM.out] at htm
 have hMl : M.length = (itT t).length := by rw [← HM.out]; simp
 rw [hMl]
 generalize itT t = l at *
 have hVs := HV.out.size
 have hbl := HB.out.lt
 have HTm := Lib.hid ((show TmsIn _ W1 l Ai ci from htm).ext HV.out |>.mono (D' := Clr V b v) (fun k hk => new_clr H.out (by omega) (by omega)))
 have HTu := Lib.hid ((HT.out.ext HV.out).mono (D' := Clr V b v) (fun k hk => new_clr H.out (by omega) (by omega)))
 have hcb : Clr V b v W1.heap.size := new_clr H.out (by have := HR.out.low; omega) hbl
 have HW := Lib.hid (H.out.go hwV)
 have HEV := Lib.hid (HE.out.step (WStep.ext (b := b) (v := v) hwV))
 have HS0 := Lib.hid (WStep.ext (b := b) (v := v) hwV)
 clear htm hMl HM HT HR hwV
 go_upto_region 3 with (go_at_call 123; refine (wrByte HW.out 91 (by omega)).mono ?_; rintro e w2 ⟨rfl, v2, h2, s2⟩; have H2 := Lib.hid h2; have S2 := Lib.hid (HS0.out.trans s2); have HE2 := Lib.hid (HEV.out.step s2); have HTm2 := Lib.hid (s2.tm HTm.out); have HTu2 := Lib.hid (s2.tm HTu.out); have hcb2 := s2.clr hcb; have HB2 := Lib.hid (HB.out.mods s2.mods hcb.no); clear h2 s2)
 go_upto_region 4 with (go_at_call 122; refine (wrow_any N IH l (fun j q hq => ⟨by have := szL_get hq; omega, hmi q (List.mem_of_getElem? hq)⟩) base _ b v2 _ o op Ai ci H2.out HE2.out HTm2.out (by simp only [List.length_append, List.length_cons, List.length_nil]; omega) (rwT_take_le o l (okL_of hmi))).mono ?_; rintro e w3 ⟨rfl, v3, h3, s3⟩; have H3 := Lib.hid h3; have S3 := Lib.hid (S2.out.trans s3); have HE3 := Lib.hid (HE2.out.step s3); have HTu3 := Lib.hid (s3.tm HTu2.out); have hcb3 := s3.clr hcb2; have HB3 := Lib.hid (HB2.out.mods s3.mods hcb2.no); clear h3 s3)
 have x0 : w3.cell? ⟨W1.heap.size, 0, none⟩ = some (.int .i64 u.k) := HB3.out.cell 0
 have x1 : w3.cell? ⟨W1.heap.size, 1, none⟩ = some (.int .i64 u.n) := HB3.out.cell 1
 have x2 : w3.cell? ⟨W1.heap.size, 2, none⟩ = some (.string u.s) := HB3.out.cell 2
 have x3 : w3.cell? ⟨W1.heap.size, 3, none⟩ = some (.slice A2 u.l.length c2) := HB3.out.cell 3
 have hrl := rwT_le o l (okL_of hmi)
 have hul := txT_le o u 999 (mayT_iff.1 hmt).1
 clear H H2 S2 HE2 HTu2 HTm2 HB2 HW HEV HS0 HTm HTu HV HB HI HE hcb hcb2
 by_cases hk : u.k = 3
 ·have k2 : (u.k == 3) = true := by simpa using hk
  have kT : (u.k = 3) = True := eq_true hk
  by_cases hs : u.s.data.toList = [91, 93]
  ·have s2 : (u.s.toList == [91, 93]) = true := by rw [ByteArray.toList_eq]; simpa using hs
   have HTF := Lib.hid (show tailF o u = [93] from by unfold tailF; rw [if_pos ⟨hk, hs⟩])
   clear hk hs
   go_wp2_with (go_at_call 123; refine (wrByte H3.out 93 (by simp only [List.length_append, List.length_cons, List.length_nil]; omega)).mono ?_; rintro e w4 ⟨rfl, v4, h4, s4⟩; have H4 := Lib.hid h4; have S4 := Lib.hid (S3.out.trans s4); clear h4 s4)
   go_end0
   refine ⟨rfl, v4, ?_, S4.out⟩
   have h4 := H4.out
   rw [HX.out, HTF.out]
   simpa using h4
  ·have s2 := lit_ne hs
   have HTF := Lib.hid (show tailF o u = [124] ++ txT o u 999 ++ [93] from by unfold tailF; rw [if_neg (fun e => hs e.2)])
   clear hk hs
   go_upto_region 6 with (go_at_call 123; refine (wrByte H3.out 124 (by simp only [List.length_append, List.length_cons, List.length_nil]; omega)).mono ?_; rintro e w4 ⟨rfl, v4, h4, s4⟩; have H4 := Lib.hid h4; have S4 := Lib.hid (S3.out.trans s4); have HE4 := Lib.hid (HE3.out.step s4); have HTu4 := Lib.hid (s4.tm HTu3.out); have HB4 := Lib.hid (HB3.out.mods s4.mods hcb3.no); clear h4 s4)
   have y0 : w4.cell? ⟨W1.heap.size, 0, none⟩ = some (.int .i64 u.k) := HB4.out.cell 0
   have y1 : w4.cell? ⟨W1.heap.size, 1, none⟩ = some (.int .i64 u.n) := HB4.out.cell 1
   have y2 : w4.cell? ⟨W1.heap.size, 2, none⟩ = some (.string u.s) := HB4.out.cell 2
   have y3 : w4.cell? ⟨W1.heap.size, 3, none⟩ = some (.slice A2 u.l.length c2) := HB4.out.cell 3
   go_upto_region 7 with (go_at_call 78; refine (IH u (by omega) hmt base _ b v4 _ o op 999 A2 c2 H4.out HE4.out HTu4.out (by simp only [List.length_append, List.length_cons, List.length_nil]; omega) (by omega) (by omega)).mono ?_; rintro e w5 ⟨rfl, v5, h5, s5⟩; have H5 := Lib.hid h5; have S5 := Lib.hid (S4.out.trans s5); clear h5 s5)
   go_wp2_with (go_at_call 123; refine (wrByte H5.out 93 (by simp only [List.length_append, List.length_cons, List.length_nil]; omega)).mono ?_; rintro e w6 ⟨rfl, v6, h6, s6⟩; have H6 := Lib.hid h6; have S6 := Lib.hid (S5.out.trans s6); clear h6 s6)
   go_end0
   refine ⟨rfl, v6, ?_, S6.out⟩
   have h6 := H6.out
   rw [HX.out, HTF.out]
   simpa using h6
 ·have k2 : (u.k == 3) = false := by simpa using hk
  have kF : (u.k = 3) = False := eq_false hk
  have HTF := Lib.hid (show tailF o u = [124] ++ txT o u 999 ++ [93] from by unfold tailF; rw [if_neg (fun e => hk e.1)])
  clear hk
  go_upto_region 6 with (go_at_call 123; refine (wrByte H3.out 124 (by simp only [List.length_append, List.length_cons, List.length_nil]; omega)).mono ?_; rintro e w4 ⟨rfl, v4, h4, s4⟩; have H4 := Lib.hid h4; have S4 := Lib.hid (S3.out.trans s4); have HE4 := Lib.hid (HE3.out.step s4); have HTu4 := Lib.hid (s4.tm HTu3.out); have HB4 := Lib.hid (HB3.out.mods s4.mods hcb3.no); clear h4 s4)
  have y0 : w4.cell? ⟨W1.heap.size, 0, none⟩ = some (.int .i64 u.k) := HB4.out.cell 0
  have y1 : w4.cell? ⟨W1.heap.size, 1, none⟩ = some (.int .i64 u.n) := HB4.out.cell 1
  have y2 : w4.cell? ⟨W1.heap.size, 2, none⟩ = some (.string u.s) := HB4.out.cell 2
  have y3 : w4.cell? ⟨W1.heap.size, 3, none⟩ = some (.slice A2 u.l.length c2) := HB4.out.cell 3
  go_upto_region 7 with (go_at_call 78; refine (IH u (by omega) hmt base _ b v4 _ o op 999 A2 c2 H4.out HE4.out HTu4.out (by simp only [List.length_append, List.length_cons, List.length_nil]; omega) (by omega) (by omega)).mono ?_; rintro e w5 ⟨rfl, v5, h5, s5⟩; have H5 := Lib.hid h5; have S5 := Lib.hid (S4.out.trans s5); clear h5 s5)
  go_wp2_with (go_at_call 123; refine (wrByte H5.out 93 (by simp only [List.length_append, List.length_cons, List.length_nil]; omega)).mono ?_; rintro e w6 ⟨rfl, v6, h6, s6⟩; have H6 := Lib.hid h6; have S6 := Lib.hid (S5.out.trans s6); clear h6 s6)
  go_end0
  refine ⟨rfl, v6, ?_, S6.out⟩
  have h6 := H6.out
  rw [HX.out, HTF.out]
  simpa using h6
end Go.Proofs.YtgcdhffeacdegaaGreatDoor

/- Layer 11, the program: the walk of beside, with its closure. -/
namespace Go.Proofs.YtgcdhffeacdegaaGreatDoor
open Go.RowKit Go.El
set_option maxRecDepth 100000 in
set_option maxHeartbeats 2000000 in
theorem besideFn_any (N : Nat) (IH : TermC N) (t : Tm) (hN : szT t ≤ N) (hm : mayT t = true) (base : Nat) (w : World) (b : Nat) (v : Value) (F : List UInt8) (o : OpsV) (op : Value) (most : Int) (A : Option Addr) (c g3 g4 g5 : Nat) (h : WrSt base w b v F o op) (he : EnvIn w b v) (ht : TmIn (Clr w b v) w t A c) (hl : F.length + 400 * szT t ≤ 800000000) (hm1 : -9000000000000000000 ≤ most) (hm2 : most ≤ 9000000000000000000)
  (b3 : w.cell? ⟨g3, 0, none⟩ = some (.pointer (some ⟨b, 0, none⟩))) (c0 : w.cell? ⟨g4, 0, none⟩ = some (.int .i64 t.k)) (c1 : w.cell? ⟨g4, 1, none⟩ = some (.int .i64 t.n)) (c2 : w.cell? ⟨g4, 2, none⟩ = some (.string t.s)) (c3 : w.cell? ⟨g4, 3, none⟩ = some (.slice A t.l.length c)) (b5 : w.cell? ⟨g5, 0, none⟩ = some (.int .i64 most)) :
  Calls Tryz.prog 195 #[.pointer (some ⟨g3, 0, none⟩), .pointer (some ⟨g4, 0, none⟩), .pointer (some ⟨g5, 0, none⟩)] w fun e w' => e = .returned (.tuple #[]) ∧ WrPost base w b v F (txT o t most) o op w' := by
 have HT := Lib.hid (IH t hN hm base w b v F o op most A c h he ht hl hm1 hm2)
 unfold tmVal at HT
 clear h he ht
 go_enter Tryz.func195, Tryz.ntmps195
 go_wp2_with (go_at_call 78; refine HT.out.mono ?_; rintro e w1 ⟨rfl, h1⟩; have H1 := Lib.hid h1; clear h1)
 go_end0
 exact ⟨rfl, H1.out⟩
theorem blk3b {w : World} {t1 t2 t3 : TypeId} {cs cs2 cs3 : Array Value} : Blk (((w.alloc (.cells cs t1)).alloc (.cells cs2 t2)).alloc (.cells cs3 t3)) (w.heap.size + 1 + 1) t3 cs3 := by
 have := Blk.new ((w.alloc (.cells cs t1)).alloc (.cells cs2 t2)) t3 cs3
 rw [World.size_alloc, World.size_alloc] at this
 exact this
theorem blk2c {w : World} {t1 t2 : TypeId} {o : Obj} {cs cs2 : Array Value} : Blk (((w.alloc (.cells cs t1)).alloc (.cells cs2 t2)).alloc o) (w.heap.size + 1) t2 cs2 := by
 have := (Blk.new (w.alloc (.cells cs t1)) t2 cs2).alloc o
 rw [World.size_alloc] at this
 exact this
set_option maxRecDepth 100000 in
set_option maxHeartbeats 8000000 in
theorem beside_any (N : Nat) (IH : TermC N) (t : Tm) (hN : szT t ≤ N) (hm : mayT t = true) (base : Nat) (w : World) (b : Nat) (v : Value) (F : List UInt8) (o : OpsV) (op : Value) (most : Int) (A : Option Addr) (c : Nat) (h : WrSt base w b v F o op) (he : EnvIn w b v) (ht : TmIn (Clr w b v) w t A c) (hl : F.length + 400 * szT t + 2 ≤ 800000000) (hm1 : -9000000000000000000 ≤ most) (hm2 : most ≤ 9000000000000000000) :
  Calls Tryz.prog 178 #[.pointer (some ⟨b, 0, none⟩), tmVal t A c, .int .i64 most] w fun e w' => e = .returned (.tuple #[]) ∧ WrPost base w b v F (brk (bareT o t) (txT o t most)) o op w' := by
 have hlx := txT_le o t most (mayT_iff.1 hm).1
 have hf : ∀ args W, (callFunc 195 args).run Tryz.prog W = .ok (.enter 195 args) W := enters_of Tryz.func195 (by kernel_rfl) rfl
 have HW := fun (W : World) (x : Ext w W) (br : Bool) (h3 : Blk W w.heap.size 117 #[.pointer (some ⟨b, 0, none⟩)]) (h4 : Blk W (w.heap.size + 1) 32 #[.int .i64 t.k, .int .i64 t.n, .string t.s, .slice A t.l.length c]) (h5 : Blk W (w.heap.size + 1 + 1) 3 #[.int .i64 most]) => Lib.hid (within_any (h.go x) br 195 #[.pointer (some ⟨w.heap.size, 0, none⟩), .pointer (some ⟨w.heap.size + 1, 0, none⟩), .pointer (some ⟨w.heap.size + 1 + 1, 0, none⟩)] (txT o t most) (by omega) hf (fun w1 v1 F1 k1 k2 k3 => by
  have g3 := h3.mods k2.mods (new_clr h (Nat.le_refl _) h3.lt).no
  have g4 := h4.mods k2.mods (new_clr h (by omega) h4.lt).no
  have g5 := h5.mods k2.mods (new_clr h (by omega) h5.lt).no
  exact besideFn_any N IH t hN hm base w1 b v1 F1 o op most A c _ _ _ k1 ((he.step (WStep.ext x)).step k2) (k2.tm ((WStep.ext x).tm ht)) (by omega) hm1 hm2 (g3.cell 0) (g4.cell 0) (g4.cell 1) (g4.cell 2) (g4.cell 3) (g5.cell 0)))
 have HI := fun (W : World) (x : Ext w W) => Lib.hid (wis_any (h.go x) t.s)
 have hbare : bareT o t = ((t.k == 3 && isOp o t.s) || (t.k == 2 && decide (t.n < 0))) := rfl
 rw [hbare]
 have hS := fun (W : World) (x : Ext w W) => Lib.hid (WStep.ext (b := b) (v := v) x)
 unfold tmVal
 clear h he ht hbare
 generalize t.k = k at *
 generalize t.n = n at *
 generalize t.s = s at *
 generalize t.l.length = m at *
 generalize txT o t most = X at *
 generalize isOp o s = io at *
 generalize hbv : ((k == 3 && io) || (k == 2 && decide (n < 0))) = bb
 go_enter Tryz.func178, Tryz.ntmps178
 go_upto_region 1 with fail
 refine wp_abs (fun V => Hid (Blk V (w.heap.size + 1 + 1) 3 #[.int .i64 most]) ∧ Hid (Blk V (w.heap.size + 1) 32 #[.int .i64 k, .int .i64 n, .string s, .slice A m c]) ∧ Hid (Blk V w.heap.size 117 #[.pointer (some ⟨b, 0, none⟩)]) ∧ Hid (Ext w V)) ⟨blk3b, blk2c, ((Blk.new w _ _).alloc _).alloc _, (((Ext.refl w).alloc _).alloc _).alloc _⟩ ?_
 rintro V ⟨H5, H4, H3, HV⟩
 have z3 : V.cell? ⟨w.heap.size, 0, none⟩ = some (.pointer (some ⟨b, 0, none⟩)) := H3.out.cell 0
 have z0 : V.cell? ⟨w.heap.size + 1, 0, none⟩ = some (.int .i64 k) := H4.out.cell 0
 have z1 : V.cell? ⟨w.heap.size + 1, 1, none⟩ = some (.int .i64 n) := H4.out.cell 1
 have z2 : V.cell? ⟨w.heap.size + 1, 2, none⟩ = some (.string s) := H4.out.cell 2
 by_cases hk3 : k = 3
 ·subst hk3
  cases io
  ·obtain rfl : bb = false := by rw [← hbv]; simp
   clear hbv
   go_wp2_with (first | (go_at_call 194; refine (HI V HV.out).out.mono ?_; rintro e V2 ⟨rfl, hx⟩; have HV2 := Lib.hid (HV.out.trans hx); have H32 := Lib.hid (H3.out.ext hx); have H42 := Lib.hid (H4.out.ext hx); have H52 := Lib.hid (H5.out.ext hx); have y3 := hx.cell z3; have y0 := hx.cell z0; have y1 := hx.cell z1; clear hx) | (go_at_call 157; refine (HW _ HV2.out false H32.out H42.out H52.out).out.mono ?_; rintro e w4 ⟨rfl, v4, h4, s4⟩; have R4 := Lib.hid h4; have S4 := Lib.hid ((hS _ HV2.out).out.trans s4); clear h4 s4))
   go_end0
   exact ⟨rfl, v4, R4.out, S4.out⟩
  ·obtain rfl : bb = true := by rw [← hbv]; simp
   clear hbv
   go_wp2_with (first | (go_at_call 194; refine (HI V HV.out).out.mono ?_; rintro e V2 ⟨rfl, hx⟩; have HV2 := Lib.hid (HV.out.trans hx); have H32 := Lib.hid (H3.out.ext hx); have H42 := Lib.hid (H4.out.ext hx); have H52 := Lib.hid (H5.out.ext hx); have y3 := hx.cell z3; have y0 := hx.cell z0; have y1 := hx.cell z1; clear hx) | (go_at_call 157; refine (HW _ HV2.out true H32.out H42.out H52.out).out.mono ?_; rintro e w4 ⟨rfl, v4, h4, s4⟩; have R4 := Lib.hid h4; have S4 := Lib.hid ((hS _ HV2.out).out.trans s4); clear h4 s4))
   go_end0
   exact ⟨rfl, v4, R4.out, S4.out⟩
 ·have k3 : (k == 3) = false := by simpa using hk3
  have kF : (k = 3) = False := eq_false hk3
  clear hk3
  by_cases hk2 : k = 2
  ·subst hk2
   by_cases hn : n < 0
   ·obtain rfl : bb = true := by rw [← hbv]; simp [hn]
    clear hbv
    go_wp2_with (go_at_call 157; refine (HW _ HV.out true H3.out H4.out H5.out).out.mono ?_; rintro e w4 ⟨rfl, v4, h4, s4⟩; have R4 := Lib.hid h4; have S4 := Lib.hid ((hS _ HV.out).out.trans s4); clear h4 s4)
    go_end0
    exact ⟨rfl, v4, R4.out, S4.out⟩
   ·obtain rfl : bb = false := by rw [← hbv]; simp [hn]
    clear hbv
    go_wp2_with (go_at_call 157; refine (HW _ HV.out false H3.out H4.out H5.out).out.mono ?_; rintro e w4 ⟨rfl, v4, h4, s4⟩; have R4 := Lib.hid h4; have S4 := Lib.hid ((hS _ HV.out).out.trans s4); clear h4 s4)
    go_end0
    exact ⟨rfl, v4, R4.out, S4.out⟩
  ·have k2 : (k == 2) = false := by simpa using hk2
   have kF2 : (k = 2) = False := eq_false hk2
   clear hk2
   obtain rfl : bb = false := by rw [← hbv]; simp [k2, k3]
   clear hbv
   go_wp2_with (go_at_call 157; refine (HW _ HV.out false H3.out H4.out H5.out).out.mono ?_; rintro e w4 ⟨rfl, v4, h4, s4⟩; have R4 := Lib.hid h4; have S4 := Lib.hid ((hS _ HV.out).out.trans s4); clear h4 s4)
   go_end0
   exact ⟨rfl, v4, R4.out, S4.out⟩
end Go.Proofs.YtgcdhffeacdegaaGreatDoor
