/- Layer 8, the program: the walk of Quote at any name, with a builder of its own. -/
import Derived.Test.YtgcdhffeacdegaaGreatDoorH12
import Derived.Test.YtgcdhffeacdegaaGreatDoorH14
import Derived.Test.YtgcdhffeacdegaaGreatDoorH10
namespace Go.Proofs.YtgcdhffeacdegaaGreatDoor
open Go.RowKit Go.El
theorem WStep.after {w0 : World} {b : Nat} {v v' : Value} {w w' : World} (hx : Ext w0 w) (h : WStep b v w v' w') (hb : w0.heap.size ≤ b) (hv : ∀ k, v.ownBlock = some k → w0.heap.size ≤ k) : Ext w0 w' :=
 ext_mods hx h.mods (fun k hk => by
  rcases List.mem_cons.1 hk with e | e
  ·exact e ▸ hb
  ·exact hv k (by simpa [ownL] using e))
def sgnS (c : UInt8) : List UInt8 := if c = 10 then [92, 110] else if c = 9 then [92, 116] else if c = 39 ∨ c = 92 then [92, c] else [c]
def isCtl (c : UInt8) : Bool := (c < 32 && c != 10 && c != 9) || c == 127
set_option maxRecDepth 100000 in
set_option maxHeartbeats 2000000 in
theorem sgn_any (c : UInt8) (w : World) (hc : isCtl c = false) :
  Calls Tryz.prog 154 #[.int .u8 (c.toNat : Int)] w fun e w' => e = .returned (.string (strB (sgnS c))) ∧ Ext w w' := by
 have hcl := c.toNat_lt
 by_cases h10 : c = 10
 ·subst h10
  go_enter Tryz.func154, Tryz.ntmps154
  go_wp2_with fail
  go_ret
  exact ⟨rfl, Ext.refl _⟩
 by_cases h9 : c = 9
 ·subst h9
  go_enter Tryz.func154, Tryz.ntmps154
  go_wp2_with fail
  go_ret
  exact ⟨rfl, Ext.refl _⟩
 have q10 := u8_ne' (c := c) (n := 10) (z := 10) rfl (by omega) h10
 have q9 := u8_ne' (c := c) (n := 9) (z := 9) rfl (by omega) h9
 have hb1 : BytesAt (w.alloc (.cells #[.int .u8 (c.toNat : Int)] 5)) (some ⟨w.heap.size, 0, none⟩) [c] := El.Src.new w #[.int .u8 (c.toNat : Int)] 5 1 1 rfl
 have hcv : (convert 23 9 (.slice (some ⟨w.heap.size, 0, none⟩) 1 1)).run Tryz.prog (w.alloc (.cells #[.int .u8 (c.toNat : Int)] 5)) = .ok (.string (strB [c])) _ := conv_str 1 hb1
 clear hb1
 by_cases hq : c = 39 ∨ c = 92
 ·have HN := Lib.hid (show sgnS c = [92] ++ [c] from by unfold sgnS; rw [if_neg h10, if_neg h9, if_pos hq]; rfl)
  have hd : ((c.toNat : Int) == (39 : Int)) = true ∨ (((c.toNat : Int) == (39 : Int)) = false ∧ ((c.toNat : Int) == (92 : Int)) = true) := by
   rcases hq with rfl | rfl
   ·exact .inl rfl
   ·exact .inr ⟨rfl, rfl⟩
  have happ := str_app [92] [c]
  generalize hgs : strB [c] = s at hcv happ
  have hsz : s.size = 1 := by rw [← hgs]; exact strB_size [c]
  have HA := Lib.hid happ
  clear hq h10 h9 hc hgs happ
  rcases hd with h | ⟨h1, h2⟩
  all_goals
   go_enter Tryz.func154, Tryz.ntmps154
   go_wp2_with fail
   go_ret
   refine ⟨?_, ext_box _ _⟩
   rw [HN.out, ← HA.out]
   rfl
 ·have HN := Lib.hid (show sgnS c = [c] from by unfold sgnS; rw [if_neg h10, if_neg h9, if_neg hq])
  have q39 := u8_ne' (c := c) (n := 39) (z := 39) rfl (by omega) (fun e => hq (.inl e))
  have q92 := u8_ne' (c := c) (n := 92) (z := 92) rfl (by omega) (fun e => hq (.inr e))
  have g1 : 32 ≤ c.toNat ∧ c ≠ 127 := by
   have := all_bytes (p := fun c => (isCtl c || c == 10 || c == 9 || (decide (32 ≤ c.toNat) && c != 127)) = true) (by decide +kernel) c
   rw [hc] at this
   simpa [h10, h9] using this
  obtain ⟨g1, g2⟩ := g1
  have q127 := u8_ne' (c := c) (n := 127) (z := 127) rfl (by omega) g2
  generalize hgs : strB [c] = s at hcv
  have HGS := Lib.hid hgs
  clear hq h10 h9 hc hgs g2
  go_enter Tryz.func154, Tryz.ntmps154
  go_wp2_with fail
  go_ret
  refine ⟨?_, ext_box _ _⟩
  rw [HN.out, HGS.out]
  rfl
theorem sgnS_len (c : UInt8) : (sgnS c).length ≤ 2 := by
 unfold sgnS
 split
 ·decide
 ·split
  ·decide
  ·split <;> simp
theorem TzAt.ext {w w' : World} (h : TzAt w) (x : Ext w w') : TzAt w' := x.cell h
theorem hexL_len (c : UInt8) : (hexL c).length ≤ 2 := by
 unfold hexL
 split <;> simp
theorem sgnF_len (c : UInt8) : (sgnF c).length ≤ 5 := by
 have h1 := hexL_len c
 have h2 : (El.sgnS c).length ≤ 2 := sgnS_len c
 unfold sgnF
 split
 ·simp only [List.length_append, List.length_cons, List.length_nil]; omega
 ·omega
theorem sgnW_len : ∀ l : List UInt8, (sgnW l).length ≤ 5 * l.length
 | [] => Nat.le_refl _
 | c :: l => by
  have := sgnW_len l
  have := sgnF_len c
  simp only [sgnW, List.flatMap_cons, List.length_append, List.length_cons] at *
  omega
theorem sgnW_step (l : List UInt8) (k : Nat) (c : UInt8) (h : l[k]? = some c) : sgnW (l.take (k + 1)) = sgnW (l.take k) ++ sgnF c := by
 rw [List.take_add_one, h]
 simp [sgnW]
set_option maxRecDepth 100000 in
set_option maxHeartbeats 2000000 in
theorem sgnF_any (c : UInt8) (w : World) (h0 : TzAt w) :
  Calls Tryz.prog 154 #[.int .u8 (c.toNat : Int)] w fun e w' => e = .returned (.string (strB (sgnF c))) ∧ Ext w w' := by
 cases hc : El.isCtl c
 ·have hs := sgn_any c w hc
  have e : sgnF c = sgnS c := by unfold sgnF; rw [hc]; rfl
  rw [e]
  exact hs
 ·have hcl := c.toNat_lt
  have e : sgnF c = [92, 120] ++ hexL c ++ [92] := by unfold sgnF; rw [hc]; rfl
  have g : c ≠ 10 ∧ c ≠ 9 ∧ c ≠ 39 ∧ c ≠ 92 ∧ (c.toNat < 32 ∨ c = 127) := by
   have := all_bytes (p := fun c => (!El.isCtl c || (c != 10 && c != 9 && c != 39 && c != 92 && (decide (c.toNat < 32) || c == 127))) = true) (by decide +kernel) c
   rw [hc] at this
   simpa [and_assoc] using this
  obtain ⟨g10, g9, g39, g92, g0⟩ := g
  have q10 := u8_ne' (c := c) (n := 10) (z := 10) rfl (by omega) g10
  have q9 := u8_ne' (c := c) (n := 9) (z := 9) rfl (by omega) g9
  have q39 := u8_ne' (c := c) (n := 39) (z := 39) rfl (by omega) g39
  have q92 := u8_ne' (c := c) (n := 92) (z := 92) rfl (by omega) g92
  have HF := Lib.hid (fmt_any c.toNat hcl w h0)
  have hh : (if c.toNat < 16 then [hexD c.toNat] else [hexD (c.toNat / 16), hexD (c.toNat % 16)]) = hexL c := rfl
  rw [hh] at HF
  have hl := hexL_len c
  have hsz := strB_size (hexL c)
  have happ : strB [92, 120] ++ strB (hexL c) ++ strB [92] = strB (sgnF c) := by rw [e, str_app, str_app]
  generalize hgs : strB (hexL c) = s at hsz happ HF
  have HA := Lib.hid happ
  have hd : ((c.toNat : Int) < 32) ∨ (¬ ((c.toNat : Int) < 32) ∧ ((c.toNat : Int) == (127 : Int)) = true) := by
   rcases g0 with h | rfl
   ·exact .inl (by omega)
   ·exact .inr ⟨by decide, rfl⟩
  clear hc g10 g9 g39 g92 g0 hgs happ e hh
  rcases hd with h | ⟨h1, h2⟩
  all_goals
   go_enter Tryz.func154, Tryz.ntmps154
   go_wp2_with (go_at_call 174; refine HF.out.mono ?_; rintro e w' ⟨rfl, hx⟩; have HX := Lib.hid hx; clear hx)
   go_ret
   refine ⟨?_, HX.out⟩
   rw [← HA.out]
   rfl
set_option maxRecDepth 100000 in
set_option maxHeartbeats 4000000 in
theorem quoteF_any (l : List UInt8) (w : World) (hl : l.length ≤ 1000) (h0 : TzAt w) :
  Calls Tryz.prog 119 #[.string (strB l)] w fun e w' => e = .returned (.string (strB (quoF l))) ∧ Ext w w' := by
 have hpl : plainB (strB l) = plainL l := by unfold plainB; rw [strB_toList]
 have hP := plain_any (strB l) w
 rw [hpl] at hP
 cases hp : plainL l
 ·rw [hp] at hP
  have HN := Lib.hid (show quoF l = [39] ++ sgnW l ++ [39] from by unfold quoF; rw [hp]; rfl)
  have HTZ := Lib.hid h0
  have hsz := strB_size l
  have hcv := fun W : World => Lib.run_convert_string_bytes (P := Tryz.prog) W 9 23 5 (strB l) Tryz.underlying9 Tryz.underlying23 Tryz.underlying5
  have hcells : ∀ (W : World) k c, l[k]? = some c → (Lib.bytesWorld W 5 (strB l)).cell? ⟨W.heap.size, k, none⟩ = some (.int .u8 (c.toNat : Int)) := fun W k c hk => by
   have hlt := (List.getElem?_eq_some_iff.1 hk).1
   rw [Lib.bytesWorld_cell W _ _ k (by rw [hsz]; exact hlt), strB_toList]
   simp [List.getD, hk]
  generalize hgs : strB l = s at *
  have HL := Lib.hid hcells
  have HP := Lib.hid hP
  clear hcells hP hgs h0 hp hpl
  go_enter Tryz.func119, Tryz.ntmps119
  go_upto_region 3 with (go_at_call 58; refine HP.out.mono ?_; rintro e w1 ⟨rfl, hx⟩; have HX := Lib.hid (show Ext w w1 from hx); clear hx)
  have HB0 := Lib.hid (BldAt.new 120 [] w1)
  go_upto_region 5 with (go_at_call 123; refine (bldByte_any _ [] _ _ _ _ [] 39 _ bldT0 HB0.out (by simp) (by simp)).mono ?_; rintro e w2 ⟨rfl, v0, hb, hx⟩; have HB := Lib.hid hb; have HY := Lib.hid (WStep.after (ext_box w1 _) hx (Nat.le_refl _) (fun k hk => by simp [Value.ownBlock] at hk)); clear hb hx)
  have hcv2 := hcv w2
  have HCL := Lib.hid (HL.out w2)
  have HB1 := Lib.hid (HB.out.ext (ext_bytes w2 5 s))
  have HX1 := Lib.hid (Ext.trans HX.out (Ext.trans HY.out (ext_bytes w2 5 s)))
  have hww : w.heap.size ≤ w1.heap.size := HX.out.size
  have hbs := Lib.bytesWorld_size w2 5 s
  have hlt2 : w1.heap.size < w2.heap.size := HB.out.blk.lt
  have HC0 : Hid (Clr (Lib.bytesWorld w2 5 s) w1.heap.size v0 w2.heap.size) := ⟨by omega, fun e => by have := (HB.out.own.lt _ e).2; omega, by omega⟩
  clear hcv HL HB
  go_wp2_with fail
  go_loopw [13] (fun i wr => ∃ k : Nat, ∃ v : Value, k ≤ l.length ∧ i = .int .i64 k ∧ Hid (BldAt 120 [] w1.heap.size wr w1.heap.size (.pointer (some ⟨w1.heap.size, 0, none⟩)) v ([39] ++ sgnW (l.take k))) ∧ Hid (Ext w wr) ∧ Hid (wr.heap[w2.heap.size]? = (Lib.bytesWorld w2 5 s).heap[w2.heap.size]?) ∧ Hid (Clr wr w1.heap.size v w2.heap.size)) (fun i _ => l.length - (intOf i).toNat)
  case atStart => exact ⟨0, v0, Nat.zero_le _, rfl, HB1.out, HX1.out, rfl, HC0.out⟩
  case round =>
   obtain ⟨k, v, hk, rfl, HV, HW, HK, HC⟩ := hrel
   have hwr : w1.heap.size ≤ wr.heap.size := by have := HC.out.2.2; omega
   by_cases hlt : k < l.length
   ·have ho : l[k]? = some l[k] := List.getElem?_eq_getElem hlt
    generalize l[k] = c at ho
    have d0 : wr.cell? ⟨w2.heap.size, k, none⟩ = some (.int .u8 (c.toNat : Int)) := (World.cell?_of_block (a := ⟨w2.heap.size, k, none⟩) HK.out).trans (HCL.out k c ho)
    have HST := Lib.hid (sgnW_step l k c ho)
    have HSG := Lib.hid (sgnF_any c wr (TzAt.ext HTZ.out HW.out))
    have hs2 := sgnF_len c
    have hs3 := sgnW_len (l.take k)
    have hs4 : (l.take k).length ≤ 1000 := by rw [List.length_take]; omega
    have hs6 : ([39] ++ sgnW (l.take k)).length ≤ 5001 := by simp; omega
    have HS5 := Lib.hid (strB_size (sgnF c))
    clear ho
    go_wp2_with (first | (go_at_call 154; refine HSG.out.mono ?_; rintro e w3 ⟨rfl, hx⟩; have HV3 := Lib.hid (HV.out.ext hx); have HW3 := Lib.hid (HW.out.trans hx); have HK3 := Lib.hid ((hx.block _ HC.out.2.2).trans HK.out); have HC3 := Lib.hid ((WStep.ext (b := w1.heap.size) (v := v) hx).clr HC.out); have hw3 := hx.size; clear hx) | (go_at_call 77; refine (bldString_any _ [] _ _ _ v _ _ _ bldT0 HV3.out (by omega) (by rw [HS5.out]; omega)).mono ?_; rintro e w4 ⟨rfl, v4, h4, hm4⟩; have HV4 := Lib.hid h4; have HM4 := Lib.hid hm4; clear h4 hm4))
    go_roundw
    case rel =>
     refine ⟨k + 1, v4, hlt, by go_num, ?_, WStep.after HW3.out HM4.out hww (fun x hx => Nat.le_trans hww (HV3.out.far x hx)), (HM4.out.mods.block _ HC3.out.2.2 HC3.out.no).trans HK3.out, HM4.out.clr HC3.out⟩
     have h4 := HV4.out
     rw [strB_toList] at h4
     rw [HST.out, ← List.append_assoc]
     exact h4
    case measure => simp [intOf]; omega
   ·obtain rfl : k = l.length := by omega
    rw [List.take_length] at HV
    have hlen := sgnW_len l
    have hfl : ([39] ++ sgnW l).length ≤ 5001 := by simp; omega
    go_wp2_with (first | (go_at_call 123; refine (bldByte_any _ [] _ _ _ v _ 39 _ bldT0 HV.out hwr (by omega)).mono ?_; rintro e w5 ⟨rfl, v5, hb, hx⟩; have HB5 := Lib.hid hb; have HX5 := Lib.hid (WStep.after HW.out hx hww (fun x hx => Nat.le_trans hww (HV.out.far x hx))); clear hb hx) | (go_at_call 125; refine (bldText_any _ [] _ _ _ _ _ _ HB5.out (by simp)).mono ?_; rintro e w6 ⟨rfl, hx⟩; have HX6 := Lib.hid hx; clear hx))
    go_ret
    refine ⟨by rw [HN.out]; rfl, ?_⟩
    exact Below.trans HX5.out (Below.mono HX6.out hww)
 ·rw [hp] at hP
  have HN := Lib.hid (show quoF l = l from by unfold quoF; rw [hp]; rfl)
  generalize hgs : strB l = s at *
  have HGS := Lib.hid hgs
  have HP := Lib.hid hP
  clear hP hgs hp hpl
  go_enter Tryz.func119, Tryz.ntmps119
  go_wp2_with (go_at_call 58; refine HP.out.mono ?_; rintro e w1 ⟨rfl, hx⟩; have HX := Lib.hid (show Ext w w1 from hx); clear hx)
  go_ret
  exact ⟨by rw [HN.out, HGS.out]; rfl, HX.out⟩
end Go.Proofs.YtgcdhffeacdegaaGreatDoor

/- Layer 11, the program: the writer's state; the walks of is, minus, within. -/
namespace Go.Proofs.YtgcdhffeacdegaaGreatDoor
open Go.RowKit Go.El
def OpsIn (w : World) (b : Nat) (v : Value) : OpsV → Value → Prop
 | none, op => op = .pointer none
 | some (I, Q), op => ∃ tb m1 m2, op = .pointer (some ⟨tb, 0, none⟩) ∧ TabAt w tb m1 m2 I Q ∧ Clr w b v tb ∧ Clr w b v m1 ∧ Clr w b v m2 ∧ (∀ p : OpV, p ∈ I ∨ p ∈ Q → -1000000 ≤ p.p ∧ p.p ≤ 1000000)
structure WrSt (base : Nat) (w : World) (b : Nat) (v : Value) (F : List UInt8) (o : OpsV) (op : Value) : Prop where
 bld : ∃ p, BldAt 122 [op] base w b p v F
 ops : OpsIn w b v o op
 low : base ≤ w.heap.size
 lim : F.length ≤ 900000000
theorem OpsIn.step {w w' : World} {b : Nat} {v v' op : Value} {o : OpsV} (h : OpsIn w b v o op) (s : WStep b v w v' w') : OpsIn w' b v' o op := by
 cases o with
 | none => exact h
 | some q =>
  obtain ⟨I, Q⟩ := q
  obtain ⟨tb, m1, m2, e, ht, h1, h2, h3⟩ := h
  exact ⟨tb, m1, m2, e, ht.mods s.mods h1.no h2.no h3.1.no, s.clr h1, s.clr h2, s.clr h3.1, h3.2⟩
theorem WrSt.go {base : Nat} {w w' : World} {b : Nat} {v : Value} {F : List UInt8} {o : OpsV} {op : Value} (h : WrSt base w b v F o op) (x : Ext w w') : WrSt base w' b v F o op := by
 obtain ⟨⟨p, hb⟩, ho, hl, hm⟩ := h
 exact ⟨⟨p, hb.ext x⟩, ho.step (WStep.ext x), Nat.le_trans hl x.size, hm⟩
def WrPost (base : Nat) (w : World) (b : Nat) (v : Value) (F X : List UInt8) (o : OpsV) (op : Value) (w' : World) : Prop := ∃ v', WrSt base w' b v' (F ++ X) o op ∧ WStep b v w v' w'
theorem wrByte {base : Nat} {w : World} {b : Nat} {v : Value} {F : List UInt8} {o : OpsV} {op : Value} (h : WrSt base w b v F o op) (c : UInt8) (hl : F.length + 1 ≤ 900000000) :
  Calls Tryz.prog 123 #[.pointer (some ⟨b, 0, none⟩), .int .u8 (c.toNat : Int)] w fun e w' => e = .returned .nilIface ∧ WrPost base w b v F [c] o op w' := by
 obtain ⟨⟨p, hb⟩, ho, hlo, hm⟩ := h
 refine (bldByte_any _ [op] base b p v F c w bldT1 hb hlo (by omega)).mono ?_
 rintro e w' ⟨rfl, v', h1, h2⟩
 exact ⟨rfl, v', ⟨⟨_, h1⟩, ho.step h2, Nat.le_trans hlo h2.mods.size, by simpa using hl⟩, h2⟩
theorem wrString {base : Nat} {w : World} {b : Nat} {v : Value} {F : List UInt8} {o : OpsV} {op : Value} (h : WrSt base w b v F o op) (s : ByteArray) (hl : F.length + s.size ≤ 900000000) :
  Calls Tryz.prog 77 #[.pointer (some ⟨b, 0, none⟩), .string s] w fun e w' => e = .returned (.tuple #[.int .i64 s.size, .nilIface]) ∧ WrPost base w b v F s.data.toList o op w' := by
 obtain ⟨⟨p, hb⟩, ho, hlo, hm⟩ := h
 refine (bldString_any _ [op] base b p v F s w bldT1 hb hlo (by omega)).mono ?_
 rintro e w' ⟨rfl, v', h1, h2⟩
 exact ⟨rfl, v', ⟨⟨_, h1⟩, ho.step h2, Nat.le_trans hlo h2.mods.size, by simpa using hl⟩, h2⟩
set_option maxRecDepth 100000 in
set_option maxHeartbeats 1000000 in
theorem wis_any {base : Nat} {w : World} {b : Nat} {v : Value} {F : List UInt8} {o : OpsV} {op : Value} (h : WrSt base w b v F o op) (s : ByteArray) :
  Calls Tryz.prog 194 #[.pointer (some ⟨b, 0, none⟩), .string s] w fun e w' => e = .returned (.bool (isOp o s)) ∧ Ext w w' := by
 obtain ⟨⟨p, hb⟩, ho, _, _⟩ := h
 have d2 : w.cell? ⟨b, 2, none⟩ = some op := hb.blk.cell 2
 clear hb
 cases o with
 | none =>
  have ho : op = .pointer none := ho
  subst ho
  go_enter Tryz.func194, Tryz.ntmps194
  go_wp2_with fail
  go_ret
  exact ⟨rfl, Ext.refl _⟩
 | some q =>
  obtain ⟨I, Q⟩ := q
  obtain ⟨tb, m1, m2, rfl, ht, _, _, _⟩ := ho
  have HI := Lib.hid (is_any tb m1 m2 I Q s w ht)
  clear ht
  go_enter Tryz.func194, Tryz.ntmps194
  go_wp2_with (go_at_call 209; refine HI.out.mono ?_; rintro e w1 ⟨rfl, hx⟩; have HX := Lib.hid hx; clear hx)
  go_ret
  exact ⟨rfl, HX.out⟩
theorem head_k : ∀ (l : List Tm) (h : 0 < l.length), l.head?.map Tm.k = some (l[0]'h).k
 | [], h => by simp at h
 | _ :: _, _ => rfl
set_option maxRecDepth 100000 in
set_option maxHeartbeats 1000000 in
theorem minus_any (t : Tm) (A : Option Addr) (c : Nat) (w : World) (D : Nat → Prop) (ht : TmIn D w t A c) (hl : 0 < t.l.length) :
  Calls Tryz.prog 177 #[tmVal t A c] w fun e w' => e = .returned (.bool (isMinus t.s t.l)) ∧ Ext w w' := by
 obtain ⟨bb, off, A', c', rfl, _, _, q0, _, _, _⟩ := ht.child (j := 0) (List.getElem?_eq_getElem hl)
 rw [Nat.zero_mul, Nat.add_zero] at q0
 have hh := head_k t.l hl
 have hm : isMinus t.s t.l = (t.s.data.toList == [45] && ((t.l[0]).k == 2)) := by
  unfold isMinus
  rw [hh]
  cases h : ((t.l[0]).k == 2) <;> simp_all
 rw [hm]
 clear hm hh
 generalize hk0 : (t.l[0]'hl).k = k0 at q0 ⊢
 clear hk0
 have q1 := (ext_box w (.cells #[.int .i64 t.k, .int .i64 t.n, .string t.s, .slice (some ⟨bb, off, none⟩) t.l.length c] 32)).cell q0
 have hl2 : (0 : Int) < (t.l.length : Int) := by omega
 unfold tmVal
 clear ht
 by_cases hs : t.s.data.toList = [45]
 ·have hs2 : (t.s.toList == [45]) = true := by rw [ByteArray.toList_eq]; simpa using hs
  have hs3 : (t.s.data.toList == [45]) = true := by simpa using hs
  rw [hs3, Bool.true_and]
  clear hs hs3
  go_enter Tryz.func177, Tryz.ntmps177
  go_wp2_with fail
  go_ret
  exact ⟨rfl, ext_box _ _⟩
 ·have hs2 := lit_ne hs
  have hs3 : (t.s.data.toList == [45]) = false := by simpa using hs
  rw [hs3, Bool.false_and]
  clear hs hs3
  go_enter Tryz.func177, Tryz.ntmps177
  go_wp2_with fail
  go_ret
  exact ⟨rfl, ext_box _ _⟩
end Go.Proofs.YtgcdhffeacdegaaGreatDoor
