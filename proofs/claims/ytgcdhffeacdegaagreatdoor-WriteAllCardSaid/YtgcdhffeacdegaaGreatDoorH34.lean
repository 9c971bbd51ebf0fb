/- Layer 8, the program: the walk of ends. -/
import Derived.Test.YtgcdhffeacdegaaGreatDoorH33
import Derived.Lib.QuietBelow
namespace Go.Proofs.YtgcdhffeacdegaaGreatDoor
open Go.RowKit Go.El Go.Sort
theorem blank37_has (c : UInt8) : hasB ⟨#[32, 9, 10, 13, 37]⟩ c = (isBlank c || c == 37) := all_bytes (p := fun c => hasB ⟨#[32, 9, 10, 13, 37]⟩ c = (isBlank c || c == 37)) (by decide +kernel) c
theorem in8_grown (c : UInt8) (s : ByteArray) (w : World) (d : Nat) (os : Array Obj) :
  Calls Tryz.prog 85 #[.int .u8 (c.toNat : Int), .string s] (grow (redrawn w d) os) fun e w'' => e = .returned (.bool (hasB s c)) ∧ ∃ p : Regrown, w'' = grow (redrawn w p.d) p.os :=
 Calls.regrown_of ((in8_any c s _).mono (by rintro e w' ⟨rfl, rfl⟩; exact ⟨rfl, Below.refl _ _⟩))
theorem starts_grown {w : World} {sb b off cap : Nat} {B : List UInt8} {i : Nat} (h : ScAt w sb b off cap B i) (l : List UInt8) (v : Bool) (hv : l.isPrefixOf (B.drop i) = v) (d : Nat) (os : Array Obj) :
  Calls Tryz.prog 129 #[.pointer (some ⟨sb, 0, none⟩), .string ⟨l.toArray⟩] (grow (redrawn w d) os) fun e w'' => e = .returned (.bool v) ∧ ∃ p : Regrown, w'' = grow (redrawn w p.d) p.os :=
 Calls.regrown_of (starts_is (h.ext (below_regrown w d os)) l v hv)
set_option maxRecDepth 100000 in
set_option maxHeartbeats 4000000 in
theorem ends_any (sb b off cap : Nat) (B : List UInt8) (i : Nat) (c : UInt8) (w : World) (h : ScAt w sb b off cap B i) (ho : B[i]? = some c) :
  Calls Tryz.prog 131 #[.pointer (some ⟨sb, 0, none⟩)] w fun e w' => e = .returned (.bool (endsS B i c)) ∧ Ext w w' := by
 have hlt : i < B.length := (List.getElem?_eq_some_iff.1 ho).1
 have hcp := h.cap
 have hlen := h.len
 have g0 := cell_regrown h.c0
 have g1 := cell_regrown h.c1
 have hpre := pre1 (B := B) (k := i) 46
 rw [ho] at hpre
 by_cases h46 : c = 46
 ·subst h46
  rw [decide_eq_true rfl] at hpre
  have cS := starts_grown h [46] true hpre
  by_cases h1 : i + 1 < B.length
  ·have hd : B[i + 1]? = some B[i + 1] := List.getElem?_eq_getElem h1
   generalize B[i + 1] = d at hd
   have g2 := cell_regrown (h.cells hd)
   have HN := Lib.hid (show endsS B i 46 = hasB ⟨#[32, 9, 10, 13, 37]⟩ d from by rw [blank37_has]; unfold endsS; rw [hd]; rfl)
   have hil : ((i : Int) + 1 == (B.length : Int)) = false := by simp; omega
   have hck : ¬ cap = i := by omega
   clear hd ho hpre h
   go_enter Tryz.func131, Tryz.ntmps131
   go_upto_region 1 with fail
   refine wp_region_quiet_below (by kernel_rfl) (by kernel_rfl) ?_
   repeat (go_big_quiet_step (first | exact cS _ _ | exact in8_grown _ _ _ _ _))
   refine wpQuiet_nil ?_
   intro _ hw'
   obtain ⟨⟨dq, osq⟩, hw''⟩ := hw'
   subst hw''
   go_wp2_with fail
   go_ret
   exact ⟨ret_bool HN.out.symm, below_regrown w dq osq⟩
  ·have HN := Lib.hid (show endsS B i 46 = true from by unfold endsS; rw [List.getElem?_eq_none (l := B) (i := i + 1) (by omega)]; rfl)
   have hil : ((i : Int) + 1 == (B.length : Int)) = true := by simp; omega
   clear ho hpre h
   go_enter Tryz.func131, Tryz.ntmps131
   go_upto_region 1 with fail
   refine wp_region_quiet_below (by kernel_rfl) (by kernel_rfl) ?_
   repeat (go_big_quiet_step (first | exact cS _ _ | exact in8_grown _ _ _ _ _))
   refine wpQuiet_nil ?_
   intro _ hw'
   obtain ⟨⟨dq, osq⟩, hw''⟩ := hw'
   subst hw''
   go_wp2_with fail
   go_ret
   exact ⟨ret_bool HN.out.symm, below_regrown w dq osq⟩
 ·have HN := Lib.hid (ends_no (B := B) (i := i) h46)
  rw [decide_eq_false (fun e => h46 (by injection e))] at hpre
  have cS := starts_grown h [46] false hpre
  clear ho hpre h
  go_enter Tryz.func131, Tryz.ntmps131
  go_upto_region 1 with fail
  refine wp_region_quiet_below (by kernel_rfl) (by kernel_rfl) ?_
  repeat (go_big_quiet_step (first | exact cS _ _ | exact in8_grown _ _ _ _ _))
  refine wpQuiet_nil ?_
  intro _ hw'
  obtain ⟨⟨dq, osq⟩, hw''⟩ := hw'
  subst hw''
  go_wp2_with fail
  go_ret
  exact ⟨ret_bool HN.out.symm, below_regrown w dq osq⟩
end Go.Proofs.YtgcdhffeacdegaaGreatDoor

/- Layer 8, the program: the walk of integer. -/
namespace Go.Proofs.YtgcdhffeacdegaaGreatDoor
open Go.RowKit Go.El
theorem parseM_digits (M : Nat) (hM : M = 18446744073709551615) : ∀ (l : List UInt8) (acc : Nat), acc ≤ M → (∀ c ∈ l, isDigit c = true) →
  Lib.parseUintM M acc l = if l.foldl (fun n c => 10 * n + (c.toNat - 48)) acc ≤ M then .ok (l.foldl (fun n c => 10 * n + (c.toNat - 48)) acc) else .range
 | [], acc, ha, _ => by simp [Lib.parseUintM, ha]
 | c :: l, acc, ha, hd => by
  have h1 : 48 ≤ c.toNat ∧ c.toNat ≤ 57 := by
   have h2 := isDigit_nat c
   rw [hd c (by simp)] at h2
   simpa using h2
  have hge := numV_ge (10 * acc + (c.toNat - 48)) l
  unfold Lib.parseUintM
  rw [if_pos h1, List.foldl_cons]
  split
  ·rw [if_neg (by omega)]
  ·split
   ·rw [if_neg (by omega)]
   ·have e : acc * 10 + (c.toNat - 48) = 10 * acc + (c.toNat - 48) := by omega
    rw [e]
    exact parseM_digits M hM l _ (by omega) (fun d hdm => hd d (by simp [hdm]))
theorem parse_digits {l : List UInt8} (h0 : l ≠ []) (hd : ∀ c ∈ l, isDigit c = true) : Lib.parseIntB 64 l = if numV l < 9223372036854775808 then .ok (numV l : Int) else .range := by
 rcases l with _ | ⟨c, l⟩
 ·exact absurd rfl h0
 ·have h1 : 48 ≤ c.toNat ∧ c.toNat ≤ 57 := by
   have h2 := isDigit_nat c
   rw [hd c (by simp)] at h2
   simpa using h2
  have hp := parseM_digits (2 ^ 64 - 1) (by decide) (c :: l) 0 (Nat.zero_le _) hd
  unfold Lib.parseIntB Lib.parseUintB
  simp only
  have hsig : ¬ (c.toNat = 43 ∨ c.toNat = 45) := by omega
  rw [if_neg hsig, if_neg (List.cons_ne_nil c l), hp]
  have e : (c :: l).foldl (fun n c => 10 * n + (c.toNat - 48)) 0 = numV (c :: l) := rfl
  rw [e]
  have h45 : ¬ c.toNat = 45 := by omega
  by_cases hb : numV (c :: l) ≤ 2 ^ 64 - 1
  ·rw [if_pos hb]
   simp only [h45]
   by_cases hb2 : numV (c :: l) < 9223372036854775808
   ·rw [if_pos hb2]
    simp
    omega
   ·rw [if_neg hb2]
    simp
    omega
  ·rw [if_neg hb, if_neg (by omega)]
theorem parseInt_range {l : List UInt8} (h : Lib.parseIntB 64 l = .range) (hl : l.length ≤ 65536) (w : World) (g : Glob w) :
  Calls Tryz.prog 166 #[.string (strB l), .int .i64 10, .int .i64 64] w fun e w' => ∃ m N, e = .returned (.tuple #[.int .i64 m, .iface 213 (.pointer (some ⟨N, 0, none⟩))]) ∧ Ext w w' := by
 obtain ⟨te, pe, he⟩ := g.err
 have := Any.strconv_ParseInt_10_at64_range Tryz.laysC174 (strB l) (by rw [strB_size]; omega) (by rw [strB_toList]; exact h) (.iface te pe) w he (.inr ⟨te, pe, rfl⟩)
 refine this.mono ?_
 rintro e w' ⟨N, rfl, _, _, hb⟩
 exact ⟨_, N, rfl, hb⟩
theorem parseInt_ok {l : List UInt8} {v : Int} (h : Lib.parseIntB 64 l = .ok v) (hl : l.length ≤ 65536) (w : World) :
  Calls Tryz.prog 166 #[.string (strB l), .int .i64 10, .int .i64 64] w fun e w' => e = .returned (.tuple #[.int .i64 v, .nilIface]) ∧ Ext w w' := by
 have := Tryz.strconv_ParseInt_10_at64_ok (strB l) (by rw [strB_size]; omega) v (by rw [strB_toList]; exact h) w
 refine this.mono ?_
 rintro e w' ⟨rfl, hw⟩
 refine ⟨rfl, ?_⟩
 rcases hw with rfl | ⟨t, rfl⟩
 ·exact Ext.refl _
 ·exact ext_bytes _ _ _
abbrev digS : ByteArray := ⟨#[48, 49, 50, 51, 52, 53, 54, 55, 56, 57]⟩
theorem dig_has (c : UInt8) : hasB digS c = isDigit c := all_bytes (p := fun c => hasB digS c = isDigit c) (by decide +kernel) c
def intPV (l : List UInt8) : Value := if numV l ≤ 9007199254740991 then .tuple #[.agg #[.int .i64 4, .string ⟨#[]⟩, .int .i64 (numV l : Int), .int .i64 0, .bool false], .int .i64 0] else .tuple #[.agg #[.int .i64 0, .string ⟨#[]⟩, .int .i64 0, .int .i64 0, .bool false], .int .i64 81]
set_option maxRecDepth 100000 in
set_option maxHeartbeats 4000000 in
theorem integer_any (sb b off cap : Nat) (B : List UInt8) (i : Nat) (c : UInt8) (w : World) (h : ScAt w sb b off cap B i) (o : Old w sb b) (ho : B[i]? = some c) (hc : isDigit c = true) :
  Calls Tryz.prog 134 #[.pointer (some ⟨sb, 0, none⟩)] w fun e w' => e = .returned (intPV (sub B i (rowTo isDigit B i))) ∧ ScIn w w' sb b off cap B (rowTo isDigit B i) := by
 have hle : rowTo isDigit B i ≤ B.length := rowTo_le h.at_
 have hgt := rowTo_gt ho hc
 have hlen := h.len
 have hsl := sub_length (l := B) (i := i) hle
 have hpd := parse_digits (l := sub B i (rowTo isDigit B i)) (fun e => by rw [e] at hsl; simp at hsl; omega) (sub_row_all isDigit B i)
 have HR := Lib.hid (row_any sb b off cap B i digS isDigit dig_has (w.alloc (.cells #[.int .i64 0, .string ⟨#[]⟩, .int .i64 0, .int .i64 0, .bool false] 55)) (h.ext (ext_box _ _)))
 have H0 := Lib.hid ((ScIn.start h).go (ext_box w (.cells #[.int .i64 0, .string ⟨#[]⟩, .int .i64 0, .int .i64 0, .bool false] 55)))
 have HO := Lib.hid o
 have hls : (sub B i (rowTo isDigit B i)).length ≤ 65536 := by omega
 clear h o ho hgt
 generalize hl : sub B i (rowTo isDigit B i) = l at *
 generalize rowTo isDigit B i = e at *
 clear hl hsl
 by_cases h63 : numV l < 9223372036854775808
 ·rw [if_pos h63] at hpd
  have HP := fun W => Lib.hid (parseInt_ok hpd hls W)
  by_cases hbig : numV l ≤ 9007199254740991
  ·have HN := Lib.hid (show intPV l = _ from if_pos hbig)
   generalize hgs : strB l = s at HR HP
   generalize numV l = n at *
   have hcmp : ¬ (9007199254740991 : Int) < (n : Int) := by omega
   clear hpd hgs hls h63 hbig
   go_enter Tryz.func134, Tryz.ntmps134
   go_wp2_with (first | (go_at_call 133; refine HR.out.mono ?_; rintro e1 w1 ⟨rfl, hy⟩; have kz := zero_in HO.out.ls hy.mods; have HY := Lib.hid (H0.out.then hy); clear hy) | (go_at_call 166; refine (HP _).out.mono ?_; rintro e1 w2 ⟨rfl, hx⟩; have kb := kz.ext hx; have kac := kb.cell; have kaf := kb.frozen; have HX := Lib.hid (HY.out.go hx); have KA := Lib.hid kb; clear hx kb kz))
   have kb := blk_set5 KA.out (.int .i64 4) (.string ⟨#[]⟩) (.int .i64 n) (.int .i64 0) (.bool false)
   have kc := kb.cell
   refine bodyPost_ret (v := intPV l) ?_ rfl ⟨rfl, HX.out.set5 HO.out (Nat.le_refl _) _ _ _ _ _⟩
   rw [HN.out]
   simp [results, Tryz.results134, go_sem, kc]
  ·have HN := Lib.hid (show intPV l = _ from if_neg hbig)
   generalize hgs : strB l = s at HR HP
   generalize numV l = n at *
   have hcmp : (9007199254740991 : Int) < (n : Int) := by omega
   clear hpd hgs hls h63 hbig
   go_enter Tryz.func134, Tryz.ntmps134
   go_wp2_with (first | (go_at_call 133; refine HR.out.mono ?_; rintro e1 w1 ⟨rfl, hy⟩; have kz := zero_in HO.out.ls hy.mods; have HY := Lib.hid (H0.out.then hy); clear hy) | (go_at_call 166; refine (HP _).out.mono ?_; rintro e1 w2 ⟨rfl, hx⟩; have kb := kz.ext hx; have kac := kb.cell; have kaf := kb.frozen; have HX := Lib.hid (HY.out.go hx); have KA := Lib.hid kb; clear hx kb kz))
   have kb := blk_set5 KA.out (.int .i64 0) (.string ⟨#[]⟩) (.int .i64 0) (.int .i64 0) (.bool false)
   have kc := kb.cell
   refine bodyPost_ret (v := intPV l) ?_ rfl ⟨rfl, HX.out.set5 HO.out (Nat.le_refl _) _ _ _ _ _⟩
   rw [HN.out]
   simp [results, Tryz.results134, go_sem, kc]
 ·rw [if_neg h63] at hpd
  have HP := fun W g => Lib.hid (parseInt_range hpd hls W g)
  have HN := Lib.hid (show intPV l = _ from if_neg (by omega))
  generalize hgs : strB l = s at HR HP
  clear hpd hgs hls h63
  go_enter Tryz.func134, Tryz.ntmps134
  go_wp2_with (first | (go_at_call 133; refine HR.out.mono ?_; rintro e1 w1 ⟨rfl, hy⟩; have kz := zero_in HO.out.ls hy.mods; have HY := Lib.hid (H0.out.then hy); clear hy) | (go_at_call 166; refine (HP _ HY.out.sc.glob).out.mono ?_; rintro e1 w2 ⟨m, N, rfl, hx⟩; have kb := kz.ext hx; have kac := kb.cell; have kaf := kb.frozen; have HX := Lib.hid (HY.out.go hx); have KA := Lib.hid kb; clear hx kb kz))
  have kb := blk_set5 KA.out (.int .i64 0) (.string ⟨#[]⟩) (.int .i64 0) (.int .i64 0) (.bool false)
  have kc := kb.cell
  refine bodyPost_ret (v := intPV l) ?_ rfl ⟨rfl, HX.out.set5 HO.out (Nat.le_refl _) _ _ _ _ _⟩
  rw [HN.out]
  simp [results, Tryz.results134, go_sem, kc]
end Go.Proofs.YtgcdhffeacdegaaGreatDoor

/- Layer 8, the program: the walk of one, kind by kind of its first byte. -/
namespace Go.Proofs.YtgcdhffeacdegaaGreatDoor
open Go.RowKit Go.El
structure PoAt (w wr : World) (sb b off cap : Nat) (B : List UInt8) (k tb : Nat) : Prop where
 sc : ScIn w wr sb b off cap B k
 bz : Blk wr w.heap.size 55 #[.int .i64 0, .string ⟨#[]⟩, .int .i64 0, .int .i64 0, .bool false]
 bt : Blk wr tb 55 #[.int .i64 1, .string ⟨#[]⟩, .int .i64 0, .int .i64 0, .bool false]
 ht : w.heap.size < tb
 o : Old w sb b
theorem PoAt.go {w wr V : World} {sb b off cap : Nat} {B : List UInt8} {k tb : Nat} (h : PoAt w wr sb b off cap B k tb) (x : Ext wr V) : PoAt w V sb b off cap B k tb := ⟨h.sc.go x, h.bz.ext x, h.bt.ext x, h.ht, h.o⟩
theorem PoAt.in_ {w wr V : World} {sb b off cap : Nat} {B : List UInt8} {k j tb : Nat} (h : PoAt w wr sb b off cap B k tb) (g : ScIn wr V sb b off cap B j) : PoAt w V sb b off cap B j tb :=
 ⟨h.sc.then g, h.bz.mods g.mods (by have := h.o.ls; simp; omega), h.bt.mods g.mods (by have := h.o.ls; have := h.ht; simp; omega), h.ht, h.o⟩
theorem PoAt.ne {w wr : World} {sb b off cap : Nat} {B : List UInt8} {k tb : Nat} (h : PoAt w wr sb b off cap B k tb) : ¬ tb = w.heap.size ∧ ¬ w.heap.size = tb := by have := h.ht; omega
theorem PoAt.new {w V : World} {sb b off cap : Nat} {B : List UInt8} {k : Nat} (h : ScIn w V sb b off cap B k) (hz : Blk V w.heap.size 55 #[.int .i64 0, .string ⟨#[]⟩, .int .i64 0, .int .i64 0, .bool false]) (o : Old w sb b) : PoAt w (V.alloc (.cells #[.int .i64 1, .string ⟨#[]⟩, .int .i64 0, .int .i64 0, .bool false] 55)) sb b off cap B k V.heap.size :=
 ⟨h.go (ext_box _ _), hz.ext (ext_box _ _), Blk.new _ _ _, hz.lt, o⟩
theorem Old.up {w V : World} {sb b : Nat} (o : Old w sb b) {S : List Nat} (h : Mods S w V) : Old V sb b := by
 have := h.size
 exact ⟨Nat.lt_of_lt_of_le o.ls this, Nat.lt_of_lt_of_le o.lb this, Nat.lt_of_lt_of_le o.lm this, Nat.lt_of_lt_of_le o.le this⟩
def onePV : Except Int (Int × List UInt8 × Int × Nat) → Value
 | .error e => .tuple #[.agg #[.int .i64 0, .string ⟨#[]⟩, .int .i64 0, .int .i64 0, .bool false], .int .i64 e]
 | .ok (k, s, n, _) => .tuple #[.agg #[.int .i64 k, .string (strB s), .int .i64 n, .int .i64 0, .bool false], .int .i64 0]
def OneIn (w w' : World) (sb b off cap : Nat) (B : List UInt8) : Except Int (Int × List UInt8 × Int × Nat) → Prop
 | .error _ => ∃ k, ScIn w w' sb b off cap B k
 | .ok (_, _, _, e) => ScIn w w' sb b off cap B e
theorem in8_is {c : UInt8} {s : ByteArray} {v : Bool} (h : hasB s c = v) (w : World) :
  Calls Tryz.prog 85 #[.int .u8 (c.toNat : Int), .string s] w fun e w' => e = .returned (.bool v) ∧ w = w' := by
 have := in8_any c s w
 rw [h] at this
 exact this
abbrev soloS : ByteArray := ⟨#[33, 59]⟩
abbrev punctS : ByteArray := ⟨#[40, 41, 91, 93, 123, 125, 44, 124]⟩
theorem solo_has (c : UInt8) : hasB soloS c = (c == 33 || c == 59) := all_bytes (p := fun c => hasB soloS c = (c == 33 || c == 59)) (by decide +kernel) c
theorem punct_has (c : UInt8) : hasB punctS c = isPunct c := all_bytes (p := fun c => hasB punctS c = isPunct c) (by decide +kernel) c
theorem sign_has (c : UInt8) : hasB signS c = isSign c := rfl
theorem ends_is {w : World} {sb b off cap : Nat} {B : List UInt8} {i : Nat} {c : UInt8} {v : Bool} (h : ScAt w sb b off cap B i) (ho : B[i]? = some c) (hv : endsS B i c = v) :
  Calls Tryz.prog 131 #[.pointer (some ⟨sb, 0, none⟩)] w fun e w' => e = .returned (.bool v) ∧ Ext w w' := by
 have := ends_any sb b off cap B i c w h ho
 rw [hv] at this
 exact this
theorem po_set {w : World} {z tb : Nat} {t : TypeId} {a b c d e : Value} (h : Blk w z t #[a, b, c, d, e]) (hne : ¬ tb = z) (j : Nat) (v : Value) : Blk (w.setCell ⟨tb, j, none⟩ v) z t #[a, b, c, d, e] := h.far (p := ⟨tb, j, none⟩) (fun e => hne e.symm) v
set_option maxRecDepth 100000 in
set_option maxHeartbeats 4000000 in
theorem pOne_small (sb b off cap : Nat) (B : List UInt8) (i : Nat) (c : UInt8) (w : World) (h : ScAt w sb b off cap B i) (o : Old w sb b) (ho : B[i]? = some c) (hk : isSmall c = true) :
  Calls Tryz.prog 92 #[.pointer (some ⟨sb, 0, none⟩)] w fun e w' => e = .returned (onePV (oneS B i c)) ∧ OneIn w w' sb b off cap B (oneS B i c) := by
 have hlt : i < B.length := (List.getElem?_eq_some_iff.1 ho).1
 have hcp := h.cap
 have hlen := h.len
 have hck : ¬ cap = i := by omega
 have d1 : ∀ x, (w.alloc x).cell? ⟨sb, 0, none⟩ = _ := fun x => (ext_box w x).cell h.c0
 have d2 : ∀ x, (w.alloc x).cell? ⟨sb, 1, none⟩ = _ := fun x => (ext_box w x).cell h.c1
 have d0 : ∀ x, (w.alloc x).cell? ⟨b, off + i, none⟩ = _ := fun x => (ext_box w x).cell (h.cells ho)
 have HH := Lib.hid h
 have HO := Lib.hid ho
 have HB := Lib.hid o
 clear h ho o
 have HE := Lib.hid (ends_no (B := B) (i := i) (c := c) (by rintro rfl; revert hk; decide))
 have FA := Lib.hid (show hasB smallS c = true from by rw [hasB_small]; exact hk)
 have hle : rowTo isWord B i ≤ B.length := rowTo_le (by omega)
 have hsl := sub_length (l := B) (i := i) hle
 have hsz := strB_size (sub B i (rowTo isWord B i))
 rw [hsl] at hsz
 have HS := Lib.hid (oneS_small (B := B) (i := i) hk)
 have hN1 : 64 < (sub B i (rowTo isWord B i)).length → oneS B i c = .error 3 := fun g => HS.out.trans (nameS_long g)
 have hN2 : ¬ 64 < (sub B i (rowTo isWord B i)).length → oneS B i c = .ok (1, sub B i (rowTo isWord B i), 0, rowTo isWord B i) := fun g => HS.out.trans (nameS_ok g)
 have HR := fun W hW => Lib.hid (row_any sb b off cap B i wordS isWord hasB_word W hW)
 rw [hsl] at hN1 hN2
 generalize hgs : strB (sub B i (rowTo isWord B i)) = s at hsz HR
 have HGS := Lib.hid hgs
 generalize rowTo isWord B i = e at *
 clear hgs hsl hle hk HS
 by_cases hlong : 64 < e - i
 ·have HN := Lib.hid (hN1 hlong)
  clear hN1 hN2
  go_enter Tryz.func92, Tryz.ntmps92
  go_upto_region 1 with fail
  go_quiet (fail)
  go_upto_region 2 with fail
  refine wp_abs (fun V => ScIn w V sb b off cap B i ∧ Blk V w.heap.size 55 #[.int .i64 0, .string ⟨#[]⟩, .int .i64 0, .int .i64 0, .bool false]) ⟨((ScIn.start HH.out).go (ext_box _ _)).drewN _, (Blk.new _ _ _).ext ((Ext.refl _).drewN _)⟩ ?_
  clear d0 d1 d2
  rintro V ⟨hV, hz⟩
  have HQ := Lib.hid (PoAt.new hV hz HB.out)
  clear hV hz
  go_wp2_with (first | (go_at_call 131; refine (ends_is HQ.out.sc.sc HO.out HE.out).mono ?_; rintro e1 w1 ⟨rfl, hx⟩; have HQ1 := Lib.hid (HQ.out.go hx); clear hx) | (go_at_call 85; refine (in8_is (s := smallS) FA.out _).mono ?_; clear FA; rintro e1 w9 ⟨rfl, rfl⟩) | (go_at_call 133; refine (HR _ HQ1.out.sc.sc).out.mono ?_; rintro e1 w2 ⟨rfl, hy⟩; have HQ2 := Lib.hid (HQ1.out.in_ hy); clear hy; have kzc := HQ2.out.bz.cell; have kzf := HQ2.out.bz.frozen; have ktc := HQ2.out.bt.cell; have ktf := HQ2.out.bt.frozen; have hne1 := HQ2.out.ne.1; have hne2 := HQ2.out.ne.2))
  have kb := blk_set5 (po_set HQ2.out.bz hne1 1 (.string s)) (.int .i64 0) (.string ⟨#[]⟩) (.int .i64 0) (.int .i64 0) (.bool false)
  have kc := kb.cell
  refine bodyPost_ret (v := onePV (oneS B i c)) ?_ rfl ⟨rfl, ?_⟩
  ·rw [HN.out]
   simp [results, Tryz.results92, go_sem, onePV, kc]
  ·rw [HN.out]
   exact ⟨_, ((HQ2.out.sc.set HB.out (p := ⟨V.heap.size, 1, none⟩) (Nat.le_of_lt HQ2.out.ht) (.string s)).set5 HB.out (Nat.le_refl _) _ _ _ _ _)⟩
 ·have HN := Lib.hid (hN2 hlong)
  clear hN1 hN2
  go_enter Tryz.func92, Tryz.ntmps92
  go_upto_region 1 with fail
  go_quiet (fail)
  go_upto_region 2 with fail
  refine wp_abs (fun V => ScIn w V sb b off cap B i ∧ Blk V w.heap.size 55 #[.int .i64 0, .string ⟨#[]⟩, .int .i64 0, .int .i64 0, .bool false]) ⟨((ScIn.start HH.out).go (ext_box _ _)).drewN _, (Blk.new _ _ _).ext ((Ext.refl _).drewN _)⟩ ?_
  clear d0 d1 d2
  rintro V ⟨hV, hz⟩
  have HQ := Lib.hid (PoAt.new hV hz HB.out)
  clear hV hz
  go_wp2_with (first | (go_at_call 131; refine (ends_is HQ.out.sc.sc HO.out HE.out).mono ?_; rintro e1 w1 ⟨rfl, hx⟩; have HQ1 := Lib.hid (HQ.out.go hx); clear hx) | (go_at_call 85; refine (in8_is (s := smallS) FA.out _).mono ?_; clear FA; rintro e1 w9 ⟨rfl, rfl⟩) | (go_at_call 133; refine (HR _ HQ1.out.sc.sc).out.mono ?_; rintro e1 w2 ⟨rfl, hy⟩; have HQ2 := Lib.hid (HQ1.out.in_ hy); clear hy; have kzc := HQ2.out.bz.cell; have kzf := HQ2.out.bz.frozen; have ktc := HQ2.out.bt.cell; have ktf := HQ2.out.bt.frozen; have hne1 := HQ2.out.ne.1; have hne2 := HQ2.out.ne.2))
  have kb := blk_set5 (po_set HQ2.out.bz hne1 1 (.string s)) (.int .i64 1) (.string s) (.int .i64 0) (.int .i64 0) (.bool false)
  have kc := kb.cell
  refine bodyPost_ret (v := onePV (oneS B i c)) ?_ rfl ⟨rfl, ?_⟩
  ·rw [HN.out]
   simp [results, Tryz.results92, go_sem, onePV, HGS.out, kc]
  ·rw [HN.out]
   exact ((HQ2.out.sc.set HB.out (p := ⟨V.heap.size, 1, none⟩) (Nat.le_of_lt HQ2.out.ht) (.string s)).set5 HB.out (Nat.le_refl _) _ _ _ _ _)
end Go.Proofs.YtgcdhffeacdegaaGreatDoor
