/- Layer 11, the program: the walk of prefix. -/
import Derived.Test.YtgcdhffeacdegaaGreatDoorH17
import Derived.Deep.RegionLaw
namespace Go.Proofs.YtgcdhffeacdegaaGreatDoor
open Go.RowKit Go.El
theorem right_bd (p t : Int) (hp : -1000000 ≤ p ∧ p ≤ 1000000) : -9000000000000000000 ≤ rightI p t ∧ rightI p t ≤ 9000000000000000000 := by
 unfold rightI
 split
 ·omega
 ·split <;> omega
theorem app_list (a b : ByteArray) : (a ++ b).data.toList = a.data.toList ++ b.data.toList := by
 rw [ByteArray.data_append, Array.toList_append]
set_option maxRecDepth 100000 in
set_option maxHeartbeats 8000000 in
theorem prefix_wr (N : Nat) (IH : TermC N) (t a : Tm) (hN : szT t ≤ N + 1) (hm : mayT t = true) (hla : t.l = [a]) (base : Nat) (w : World) (b : Nat) (v : Value) (F : List UInt8) (I Q : List OpV) (op : Value) (p : OpV) (A : Option Addr) (c : Nat) (h : WrSt base w b v F (some (I, Q)) op) (he : EnvIn w b v) (ht : TmIn (Clr w b v) w t A c) (hl : F.length + 400 * szT t ≤ 800000010) (hpp : -1000000 ≤ p.p ∧ p.p ≤ 1000000) :
  Calls Tryz.prog 161 #[.pointer (some ⟨b, 0, none⟩), tmVal t A c, .agg #[.int .i64 p.p, .int .i64 p.t, .string p.s]] w fun e w' => e = .returned (.tuple #[]) ∧ WrPost base w b v F (quoF t.s.data.toList ++ [32] ++ brk (bareT (some (I, Q)) a) (txT (some (I, Q)) a (rightI p.p p.t))) (some (I, Q)) op w' := by
 have hma : mayT a = true := mayT_get hm (j := 0) (by rw [hla]; rfl)
 have hsa : szT a ≤ N ∧ szT a + 1 ≤ szT t := by have := szT_lt (t := t) (j := 0) (u := a) (by rw [hla]; rfl); omega
 have hs64 : t.s.size ≤ 64 := by
  have := (mayT_iff.1 hm).1
  cases t with
  | mk k n s l =>
   simp only [okT, Bool.and_eq_true] at this
   exact (part_bd this.1).2.2
 have hq := quoF_le t.s.data.toList
 have hqe : t.s.data.toList.length = t.s.size := by simp
 have HQ := fun W (x : Ext w W) => Lib.hid (quoteF_any t.s.data.toList W (by omega) (TzAt.ext he.env.tz x))
 rw [strB_mk] at HQ
 have hqs := strB_size (quoF t.s.data.toList)
 have hqd := strB_toList (quoF t.s.data.toList)
 have hlen1 : t.l.length = 1 := by rw [hla]; rfl
 have hrb : -9000000000000000000 ≤ rightI p.p p.t ∧ rightI p.p p.t ≤ 9000000000000000000 := right_bd p.p p.t hpp
 have HX := Lib.hid ht
 have H := Lib.hid h
 have HE := Lib.hid he
 have hlx := txT_le (some (I, Q)) a (rightI p.p p.t) (mayT_iff.1 hma).1
 have ho : t.l[0]? = some a := by rw [hla]; rfl
 unfold tmVal
 obtain ⟨bb, off, A', c', rfl, hD, ha, q0, q1, q2, q3⟩ := ht.child ho
 have HA := Lib.hid ha
 rw [Nat.zero_mul, Nat.add_zero] at q0 q1 q2 q3
 rw [hlen1]
 generalize strB (quoF t.s.data.toList) = qs at *
 generalize hQL : quoF t.s.data.toList = QL at *
 generalize t.s = s at *
 clear h he ht hla ho hQL ha
 have hbig : ¬ 9223372036854775807 < QL.length + 1 := by omega
 have hT := fun W (x : Ext w W) => Lib.hid (pRight_any p.p p.t p.s W (HE.out.env.ext x).ty)
 go_enter Tryz.func161, Tryz.ntmps161
 go_upto_region 1 with fail
 refine wp_abs (fun V => Hid (Blk V (w.heap.size + 1) 70 #[.int .i64 p.p, .int .i64 p.t, .string p.s]) ∧ Hid (Blk V w.heap.size 32 #[.int .i64 t.k, .int .i64 t.n, .string s, .slice (some ⟨bb, off, none⟩) 1 c]) ∧ Hid (Ext w V)) ⟨blk2b, (Blk.new w _ _).alloc _, ((Ext.refl w).alloc _).alloc _⟩ ?_
 rintro V ⟨H5, H4, HV⟩
 have z2 : V.cell? ⟨w.heap.size, 2, none⟩ = some (.string s) := H4.out.cell 2
 go_region_law ((first | (go_simp; go_at_call 119; refine (HQ _ (HV.out.drew)).out.mono ?_; rintro e V2 ⟨rfl, hx⟩; have HV2 := Lib.hid (HV.out.drew.trans hx); have H42 := Lib.hid ((H4.out.drewN 1).ext hx); have H52 := Lib.hid ((H5.out.drewN 1).ext hx); clear hx) | (go_simp; go_at_call 77; refine (wrString (H.out.go HV2.out) _ (by rw [ByteArray.size_append, show (⟨#[32]⟩ : ByteArray).size = 1 from rfl]; omega)).mono ?_; rintro e V3 ⟨rfl, v3, h3, s3⟩; have H3 := Lib.hid h3; have S3 := Lib.hid ((WStep.ext (b := b) (v := v) HV2.out).trans s3); have H43 := Lib.hid (H42.out.mods s3.mods (new_clr H.out (Nat.le_refl _) H42.out.lt).no); have H53 := Lib.hid (H52.out.mods s3.mods (new_clr H.out (by omega) H52.out.lt).no); clear h3 s3)))
 all_goals
  have x3 : V3.cell? ⟨w.heap.size, 3, none⟩ = some (.slice (some ⟨bb, off, none⟩) 1 c) := H43.out.cell 3
  have y0 : V3.cell? ⟨w.heap.size + 1, 0, none⟩ = some (.int .i64 p.p) := H53.out.cell 0
  have y1 : V3.cell? ⟨w.heap.size + 1, 1, none⟩ = some (.int .i64 p.t) := H53.out.cell 1
  have y2 : V3.cell? ⟨w.heap.size + 1, 2, none⟩ = some (.string p.s) := H53.out.cell 2
  have p0 := S3.out.mods.cell q0 hD.no
  have p1 := S3.out.mods.cell q1 hD.no
  have p2 := S3.out.mods.cell q2 hD.no
  have p3 := S3.out.mods.cell q3 hD.no
  have HA3 := Lib.hid (S3.out.tm HA.out)
  have HE3 := Lib.hid (HE.out.step S3.out)
  have HR := fun W (x : Ext V3 W) => Lib.hid (pRight_any p.p p.t p.s W (HE3.out.env.ext x).ty)
  have HBS := fun W (x : Ext V3 W) => Lib.hid (beside_any N IH a hsa.1 hma base W b v3 _ (some (I, Q)) op (rightI p.p p.t) A' c' (H3.out.go x) (HE3.out.step (WStep.ext x)) ((WStep.ext x).tm HA3.out) (by rw [List.length_append, app_list]; simp; omega) hrb.1 hrb.2)
  unfold tmVal at HBS
  clear q0 q1 q2 q3 z2 HQ hT
  go_upto_region 2 with fail
  go_region_law ((first | (go_simp; go_at_call 68; refine (HR _ ((Ext.refl V3).drew)).out.mono ?_; rintro e V4 ⟨rfl, hx⟩; have HV4 := Lib.hid (((Ext.refl V3).drew).trans hx); have p0 := HV4.out.cell p0; have p1 := HV4.out.cell p1; have p2 := HV4.out.cell p2; have p3 := HV4.out.cell p3; have x3 := HV4.out.cell x3; clear hx) | (go_simp; go_at_call 178; refine (HBS _ HV4.out).out.mono ?_; rintro e V5 ⟨rfl, v5, h5, s5⟩; have H5 := Lib.hid h5; have S5 := Lib.hid ((S3.out.trans (WStep.ext HV4.out)).trans s5); clear h5 s5)))
  all_goals
   go_wp2_with fail
   go_end0
   refine ⟨rfl, v5, ?_, S5.out⟩
   have := H5.out
   rw [app_list, hqd] at this
   simpa using this
end Go.Proofs.YtgcdhffeacdegaaGreatDoor

/- Layer 11, the program: the walk of infix. -/
namespace Go.Proofs.YtgcdhffeacdegaaGreatDoor
open Go.RowKit Go.El
theorem left_bd (p t : Int) (hp : -1000000 ≤ p ∧ p ≤ 1000000) : -9000000000000000000 ≤ leftI p t ∧ leftI p t ≤ 9000000000000000000 := by
 unfold leftI
 split
 ·omega
 ·split <;> omega
set_option maxRecDepth 100000 in
set_option maxHeartbeats 16000000 in
theorem infix_wr (N : Nat) (IH : TermC N) (t a d : Tm) (hN : szT t ≤ N + 1) (hm : mayT t = true) (hla : t.l = [a, d]) (base : Nat) (w : World) (b : Nat) (v : Value) (F : List UInt8) (I Q : List OpV) (op : Value) (p : OpV) (A : Option Addr) (c : Nat) (h : WrSt base w b v F (some (I, Q)) op) (he : EnvIn w b v) (ht : TmIn (Clr w b v) w t A c) (hl : F.length + 400 * szT t ≤ 800000010) (hpp : -1000000 ≤ p.p ∧ p.p ≤ 1000000) :
  Calls Tryz.prog 159 #[.pointer (some ⟨b, 0, none⟩), tmVal t A c, .agg #[.int .i64 p.p, .int .i64 p.t, .string p.s]] w fun e w' => e = .returned (.tuple #[]) ∧ WrPost base w b v F (brk (bareT (some (I, Q)) a) (txT (some (I, Q)) a (leftF I Q p t.l)) ++ midF t.s ++ brk (bareT (some (I, Q)) d) (txT (some (I, Q)) d (rightI p.p p.t))) (some (I, Q)) op w' := by
 have hma : mayT a = true := mayT_get hm (j := 0) (by rw [hla]; rfl)
 have hmd : mayT d = true := mayT_get hm (j := 1) (by rw [hla]; rfl)
 have hsz : szT t = 1 + (szT a + szT d) := by
  cases t with
  | mk k n s l =>
   simp only [Tm.l] at hla
   subst hla
   simp [szT, szL]
 have hpa := szT_pos a
 have hpd := szT_pos d
 have hs64 : t.s.size ≤ 64 := by
  have := (mayT_iff.1 hm).1
  cases t with
  | mk k n s l =>
   simp only [okT, Bool.and_eq_true] at this
   exact (part_bd this.1).2.2
 have hq := quoF_le t.s.data.toList
 have hqe : t.s.data.toList.length = t.s.size := by simp
 have HQ := fun W (x : Ext w W) => Lib.hid (quoteF_any t.s.data.toList W (by omega) (TzAt.ext he.env.tz x))
 have HQ2 := fun W (hz : TzAt W) => Lib.hid (quoteF_any t.s.data.toList W (by omega) hz)
 clear HQ
 rw [strB_mk] at HQ2
 have hqs := strB_size (quoF t.s.data.toList)
 have hqd := strB_toList (quoF t.s.data.toList)
 have hlen2 : t.l.length = 2 := by rw [hla]; rfl
 have hrb := right_bd p.p p.t hpp
 have hlb := left_bd p.p p.t hpp
 have hlf : leftF I Q p t.l = (match oprT I Q a with | none => leftI p.p p.t | some x => if p.p ≤ rightI x.p x.t then 0 else leftI p.p p.t) := by rw [hla]; rfl
 generalize hlv : leftF I Q p t.l = lf at hlf ⊢
 have hmid : midF t.s = (if t.s.data.toList = [44] then [44, 32] else [32] ++ quoF t.s.data.toList ++ [32]) := rfl
 generalize hmv : midF t.s = md at hmid ⊢
 have H := Lib.hid h
 have HE := Lib.hid he
 have hlx := txT_le (some (I, Q)) d (rightI p.p p.t) (mayT_iff.1 hmd).1
 have hla2 := fun m => txT_le (some (I, Q)) a m (mayT_iff.1 hma).1
 unfold tmVal
 obtain ⟨bb, off, A', c', rfl, hD, ha, q0, q1, q2, q3⟩ := ht.child (j := 0) (u := a) (by rw [hla]; rfl)
 obtain ⟨bb', off', A2, c2, e0, _, hd, r0, r1, r2, r3⟩ := ht.child (j := 1) (u := d) (by rw [hla]; rfl)
 injection e0 with e0
 injection e0 with e1 e2
 subst e1 e2
 rw [Nat.zero_mul, Nat.add_zero] at q0 q1 q2 q3
 rw [Nat.one_mul] at r0 r1 r2 r3
 have HA := Lib.hid ha
 have HDD := Lib.hid hd
 have HOP := fun W (x : Ext w W) => Lib.hid (operator_any (h.go x) a A' c' _ (ha.ext x))
 unfold tmVal at HOP
 rw [hlen2]
 generalize strB (quoF t.s.data.toList) = qs at *
 generalize quoF t.s.data.toList = QL at *
 generalize t.s = s at *
 have hbig : ¬ 9223372036854775807 < 1 + QL.length := by omega
 have hbig2 : ¬ 9223372036854775807 < 1 + QL.length + 1 := by omega
 have HLf := fun W (x : Ext w W) => Lib.hid (pLeft_any p.p p.t p.s W (he.env.ext x).ty)
 clear h he ht hla ha hd hm hlv hmv
 cases hr : oprT I Q a with
 | none =>
  rw [hr] at HOP hlf
  obtain rfl : lf = leftI p.p p.t := hlf
  go_enter Tryz.func159, Tryz.ntmps159
  go_upto_region 1 with fail
  refine wp_abs (fun V => Hid (Blk V (w.heap.size + 1) 70 #[.int .i64 p.p, .int .i64 p.t, .string p.s]) ∧ Hid (Blk V w.heap.size 32 #[.int .i64 t.k, .int .i64 t.n, .string s, .slice (some ⟨bb, off, none⟩) 2 c]) ∧ Hid (Ext w V)) ⟨blk2b, (Blk.new w _ _).alloc _, ((Ext.refl w).alloc _).alloc _⟩ ?_
  rintro V ⟨H5, H4, HV⟩
  have y0 : V.cell? ⟨w.heap.size + 1, 0, none⟩ = some (.int .i64 p.p) := H5.out.cell 0
  have y1 : V.cell? ⟨w.heap.size + 1, 1, none⟩ = some (.int .i64 p.t) := H5.out.cell 1
  have y2 : V.cell? ⟨w.heap.size + 1, 2, none⟩ = some (.string p.s) := H5.out.cell 2
  go_upto_region 2 with (go_at_call 66; refine (HLf _ HV.out).out.mono ?_; rintro e V2 ⟨rfl, hx⟩; have HV2 := Lib.hid (HV.out.trans hx); have H42 := Lib.hid (H4.out.ext hx); have H52 := Lib.hid (H5.out.ext hx); clear hx)
  have z3 : V2.cell? ⟨w.heap.size, 3, none⟩ = some (.slice (some ⟨bb, off, none⟩) 2 c) := H42.out.cell 3
  have p0 := HV2.out.cell q0
  have p1 := HV2.out.cell q1
  have p2 := HV2.out.cell q2
  have p3 := HV2.out.cell q3
  go_upto_region 3 with (go_at_call 156; refine (HOP _ HV2.out).out.mono ?_; simp only [Option.getD, Option.isSome, opVal_eq, zeroO]; rintro e V3 ⟨rfl, hx⟩; have HV3 := Lib.hid (HV2.out.trans hx); have H43 := Lib.hid (H42.out.ext hx); have H53 := Lib.hid (H52.out.ext hx); clear hx)
  refine wp_abs (fun V4 => Hid (Blk V4 V3.heap.size 70 #[.int .i64 0, .int .i64 0, .string ⟨#[]⟩]) ∧ Hid (Blk V4 (w.heap.size + 1) 70 #[.int .i64 p.p, .int .i64 p.t, .string p.s]) ∧ Hid (Blk V4 w.heap.size 32 #[.int .i64 t.k, .int .i64 t.n, .string s, .slice (some ⟨bb, off, none⟩) 2 c]) ∧ Hid (Ext w V4)) ⟨Blk.new V3 _ _, H53.out.alloc _, H43.out.alloc _, HV3.out.alloc _⟩ ?_
  rintro V4 ⟨H7, H54, H44, HV4⟩
  clear p0 p1 p2 p3 y0 y1 y2 z3 HV HV2 HV3 H4 H5 H42 H52 H43 H53 HOP HLf
  go_quiet (fail)
  have HVR := Lib.hid (HV4.out.drewN nq)
  have H4R := Lib.hid (H44.out.drewN nq)
  have H5R := Lib.hid (H54.out.drewN nq)
  have p0 := HVR.out.cell q0
  have p1 := HVR.out.cell q1
  have p2 := HVR.out.cell q2
  have p3 := HVR.out.cell q3
  have z3 : (V4.drewN nq).cell? ⟨w.heap.size, 3, none⟩ = some (.slice (some ⟨bb, off, none⟩) 2 c) := H4R.out.cell 3
  have HB5 := Lib.hid (beside_any N IH a (by omega) hma base (V4.drewN nq) b v F (some (I, Q)) op (leftI p.p p.t) A' c' (H.out.go HVR.out) (HE.out.step (WStep.ext HVR.out)) ((WStep.ext HVR.out).tm HA.out) (by omega) (by omega) (by omega))
  have hlr := hla2 (leftI p.p p.t)
  have hbr := brk_le (bareT (some (I, Q)) a) (txT (some (I, Q)) a (leftI p.p p.t))
  unfold tmVal at HB5
  go_upto_region 6 with (go_at_call 178; refine HB5.out.mono ?_; rintro e w5 ⟨rfl, v5, h5, s5⟩; have K5 := Lib.hid h5; have S5 := Lib.hid ((WStep.ext (b := b) (v := v) HVR.out).trans s5); have H45 := Lib.hid (H4R.out.mods s5.mods (new_clr H.out (Nat.le_refl _) H4R.out.lt).no); have H55 := Lib.hid (H5R.out.mods s5.mods (new_clr H.out (by omega) H5R.out.lt).no); have hc4 := s5.clr (new_clr H.out (Nat.le_refl _) H4R.out.lt); have hc5 := s5.clr (new_clr H.out (by omega) H5R.out.lt); clear h5 s5)
  have z2 : w5.cell? ⟨w.heap.size, 2, none⟩ = some (.string s) := H45.out.cell 2
  have HE5 := Lib.hid (HE.out.step S5.out)
  have hXA : (brk (bareT (some (I, Q)) a) (txT (some (I, Q)) a (leftI p.p p.t))).length ≤ 400 * szT a := by omega
  clear hbr
  generalize hxa : brk (bareT (some (I, Q)) a) (txT (some (I, Q)) a (leftI p.p p.t)) = XA at *
  have HXA := Lib.hid hxa
  clear hxa
  clear p0 p1 p2 p3 z3 HB5 hlr H4R H5R
  by_cases hs : s.data.toList = [44]
  ·have hs2 : (s.toList == [44]) = true := by rw [ByteArray.toList_eq]; simpa using hs
   obtain rfl : md = [44, 32] := hmid.trans (if_pos hs)
   clear hs hmid HQ2
   go_upto_region 9 with (go_at_call 77; refine (wrString K5.out _ (by rw [List.length_append, show (⟨#[44, 32]⟩ : ByteArray).size = 2 from rfl]; omega)).mono ?_; rintro e w6 ⟨rfl, v6, h6, s6⟩; have K6 := Lib.hid (show WrSt base w6 b v6 (F ++ XA ++ [44, 32]) (some (I, Q)) op from h6); have S6 := Lib.hid (S5.out.trans s6); have H46 := Lib.hid (H45.out.mods s6.mods hc4.no); have H56 := Lib.hid (H55.out.mods s6.mods hc5.no); clear h6 s6)
   have x3 : w6.cell? ⟨w.heap.size, 3, none⟩ = some (.slice (some ⟨bb, off, none⟩) 2 c) := H46.out.cell 3
   have y0 : w6.cell? ⟨w.heap.size + 1, 0, none⟩ = some (.int .i64 p.p) := H56.out.cell 0
   have y1 : w6.cell? ⟨w.heap.size + 1, 1, none⟩ = some (.int .i64 p.t) := H56.out.cell 1
   have y2 : w6.cell? ⟨w.heap.size + 1, 2, none⟩ = some (.string p.s) := H56.out.cell 2
   have p0 := S6.out.mods.cell r0 hD.no
   have p1 := S6.out.mods.cell r1 hD.no
   have p2 := S6.out.mods.cell r2 hD.no
   have p3 := S6.out.mods.cell r3 hD.no
   have HD6 := Lib.hid (S6.out.tm HDD.out)
   have HE6 := Lib.hid (HE.out.step S6.out)
   have HR := fun W (x : Ext w6 W) => Lib.hid (pRight_any p.p p.t p.s W (HE6.out.env.ext x).ty)
   have HBS := fun W (x : Ext w6 W) => Lib.hid (beside_any N IH d (by omega) hmd base W b v6 _ (some (I, Q)) op (rightI p.p p.t) A2 c2 (K6.out.go x) (HE6.out.step (WStep.ext x)) ((WStep.ext x).tm HD6.out) (by simp only [List.length_append, List.length_cons, List.length_nil]; omega) hrb.1 hrb.2)
   unfold tmVal at HBS
   go_region_law ((first | (go_simp; go_at_call 68; refine (HR _ ((Ext.refl w6).drew)).out.mono ?_; rintro e V7 ⟨rfl, hx⟩; have HV7 := Lib.hid (((Ext.refl w6).drew).trans hx); have p0 := HV7.out.cell p0; have p1 := HV7.out.cell p1; have p2 := HV7.out.cell p2; have p3 := HV7.out.cell p3; have x3 := HV7.out.cell x3; clear hx) | (go_simp; go_at_call 178; refine (HBS _ HV7.out).out.mono ?_; rintro e w8 ⟨rfl, v8, h8, s8⟩; have K8 := Lib.hid h8; have S8 := Lib.hid ((S6.out.trans (WStep.ext HV7.out)).trans s8); clear h8 s8)))
   all_goals
    go_wp2_with fail
    go_end0
    refine ⟨rfl, v8, ?_, S8.out⟩
    have := K8.out
    rw [← HXA.out] at this
    simpa only [List.append_assoc] using this
  ·have hs2 := lit_ne hs
   obtain rfl : md = [32] ++ QL ++ [32] := hmid.trans (if_neg hs)
   clear hs hmid
   go_upto_region 8 with fail
   go_region_law ((first | (go_simp; go_at_call 119; refine (HQ2 _ (HE5.out.env.ext ((Ext.refl w5).drew)).tz).out.mono ?_; rintro e V6 ⟨rfl, hx⟩; have HX6 := Lib.hid (((Ext.refl w5).drew).trans hx); clear hx) | (go_simp; go_at_call 77; refine (wrString (K5.out.go HX6.out) _ (by rw [ByteArray.size_append, ByteArray.size_append, show (⟨#[32]⟩ : ByteArray).size = 1 from rfl, List.length_append]; omega)).mono ?_; rintro e w6 ⟨rfl, v6, h6, s6⟩; have K6 := Lib.hid (show WrSt base w6 b v6 (F ++ XA ++ ([32] ++ QL ++ [32])) (some (I, Q)) op from (by rw [app_list, app_list, hqd] at h6; exact h6)); have S6 := Lib.hid ((S5.out.trans (WStep.ext HX6.out)).trans s6); have H46 := Lib.hid ((H45.out.ext HX6.out).mods s6.mods ((WStep.ext (b := b) (v := v5) HX6.out).clr hc4).no); have H56 := Lib.hid ((H55.out.ext HX6.out).mods s6.mods ((WStep.ext (b := b) (v := v5) HX6.out).clr hc5).no); clear h6 s6)))
   all_goals
    go_upto_region 9 with fail
    have x3 : w6.cell? ⟨w.heap.size, 3, none⟩ = some (.slice (some ⟨bb, off, none⟩) 2 c) := H46.out.cell 3
    have y0 : w6.cell? ⟨w.heap.size + 1, 0, none⟩ = some (.int .i64 p.p) := H56.out.cell 0
    have y1 : w6.cell? ⟨w.heap.size + 1, 1, none⟩ = some (.int .i64 p.t) := H56.out.cell 1
    have y2 : w6.cell? ⟨w.heap.size + 1, 2, none⟩ = some (.string p.s) := H56.out.cell 2
    have p0 := S6.out.mods.cell r0 hD.no
    have p1 := S6.out.mods.cell r1 hD.no
    have p2 := S6.out.mods.cell r2 hD.no
    have p3 := S6.out.mods.cell r3 hD.no
    have HD6 := Lib.hid (S6.out.tm HDD.out)
    have HE6 := Lib.hid (HE.out.step S6.out)
    have HR := fun W (x : Ext w6 W) => Lib.hid (pRight_any p.p p.t p.s W (HE6.out.env.ext x).ty)
    have HBS := fun W (x : Ext w6 W) => Lib.hid (beside_any N IH d (by omega) hmd base W b v6 _ (some (I, Q)) op (rightI p.p p.t) A2 c2 (K6.out.go x) (HE6.out.step (WStep.ext x)) ((WStep.ext x).tm HD6.out) (by simp only [List.length_append, List.length_cons, List.length_nil]; omega) hrb.1 hrb.2)
    unfold tmVal at HBS
    go_region_law ((first | (go_simp; go_at_call 68; refine (HR _ ((Ext.refl w6).drew)).out.mono ?_; rintro e V7 ⟨rfl, hx⟩; have HV7 := Lib.hid (((Ext.refl w6).drew).trans hx); have p0 := HV7.out.cell p0; have p1 := HV7.out.cell p1; have p2 := HV7.out.cell p2; have p3 := HV7.out.cell p3; have x3 := HV7.out.cell x3; clear hx) | (go_simp; go_at_call 178; refine (HBS _ HV7.out).out.mono ?_; rintro e w8 ⟨rfl, v8, h8, s8⟩; have K8 := Lib.hid h8; have S8 := Lib.hid ((S6.out.trans (WStep.ext HV7.out)).trans s8); clear h8 s8)))
    all_goals
     go_wp2_with fail
     go_end0
     refine ⟨rfl, v8, ?_, S8.out⟩
     have := K8.out
     rw [← HXA.out] at this
     simpa only [List.append_assoc] using this
 | some x =>
  rw [hr] at HOP hlf
  simp only at hlf
  by_cases hge : p.p ≤ rightI x.p x.t
  ·rw [if_pos hge] at hlf
   subst hlf
   go_enter Tryz.func159, Tryz.ntmps159
   go_upto_region 1 with fail
   refine wp_abs (fun V => Hid (Blk V (w.heap.size + 1) 70 #[.int .i64 p.p, .int .i64 p.t, .string p.s]) ∧ Hid (Blk V w.heap.size 32 #[.int .i64 t.k, .int .i64 t.n, .string s, .slice (some ⟨bb, off, none⟩) 2 c]) ∧ Hid (Ext w V)) ⟨blk2b, (Blk.new w _ _).alloc _, ((Ext.refl w).alloc _).alloc _⟩ ?_
   rintro V ⟨H5, H4, HV⟩
   have y0 : V.cell? ⟨w.heap.size + 1, 0, none⟩ = some (.int .i64 p.p) := H5.out.cell 0
   have y1 : V.cell? ⟨w.heap.size + 1, 1, none⟩ = some (.int .i64 p.t) := H5.out.cell 1
   have y2 : V.cell? ⟨w.heap.size + 1, 2, none⟩ = some (.string p.s) := H5.out.cell 2
   go_upto_region 2 with (go_at_call 66; refine (HLf _ HV.out).out.mono ?_; rintro e V2 ⟨rfl, hx⟩; have HV2 := Lib.hid (HV.out.trans hx); have H42 := Lib.hid (H4.out.ext hx); have H52 := Lib.hid (H5.out.ext hx); clear hx)
   have z3 : V2.cell? ⟨w.heap.size, 3, none⟩ = some (.slice (some ⟨bb, off, none⟩) 2 c) := H42.out.cell 3
   have p0 := HV2.out.cell q0
   have p1 := HV2.out.cell q1
   have p2 := HV2.out.cell q2
   have p3 := HV2.out.cell q3
   go_upto_region 3 with (go_at_call 156; refine (HOP _ HV2.out).out.mono ?_; simp only [Option.getD, Option.isSome, opVal_eq]; rintro e V3 ⟨rfl, hx⟩; have HV3 := Lib.hid (HV2.out.trans hx); have H43 := Lib.hid (H42.out.ext hx); have H53 := Lib.hid (H52.out.ext hx); clear hx)
   refine wp_abs (fun V4 => Hid (Blk V4 V3.heap.size 70 #[.int .i64 x.p, .int .i64 x.t, .string x.s]) ∧ Hid (Blk V4 (w.heap.size + 1) 70 #[.int .i64 p.p, .int .i64 p.t, .string p.s]) ∧ Hid (Blk V4 w.heap.size 32 #[.int .i64 t.k, .int .i64 t.n, .string s, .slice (some ⟨bb, off, none⟩) 2 c]) ∧ Hid (Ext w V4)) ⟨Blk.new V3 _ _, H53.out.alloc _, H43.out.alloc _, HV3.out.alloc _⟩ ?_
   rintro V4 ⟨H7, H54, H44, HV4⟩
   clear p0 p1 p2 p3 y0 y1 y2 z3 HV HV2 HV3 H4 H5 H42 H52 H43 H53 HOP HLf
   have w0 : V4.cell? ⟨V3.heap.size, 0, none⟩ = some (.int .i64 x.p) := H7.out.cell 0
   have w1 : V4.cell? ⟨V3.heap.size, 1, none⟩ = some (.int .i64 x.t) := H7.out.cell 1
   have w2 : V4.cell? ⟨V3.heap.size, 2, none⟩ = some (.string x.s) := H7.out.cell 2
   have u0 : V4.cell? ⟨w.heap.size + 1, 0, none⟩ = some (.int .i64 p.p) := H54.out.cell 0
   have HRx := fun W (y : Ext w W) => Lib.hid (pRight_any x.p x.t x.s W (HE.out.env.ext y).ty)
   go_region_law ((go_simp; go_at_call 68; refine (HRx _ (HV4.out.drew)).out.mono ?_; rintro e VR ⟨rfl, hx⟩; have HVR := Lib.hid (HV4.out.drew.trans hx); have H4R := Lib.hid ((H44.out.drewN 1).ext hx); have H5R := Lib.hid ((H54.out.drewN 1).ext hx); have u0 := hx.cell (show V4.drew.cell? ⟨w.heap.size + 1, 0, none⟩ = some (.int .i64 p.p) from u0); clear hx))
   all_goals
    have p0 := HVR.out.cell q0
    have p1 := HVR.out.cell q1
    have p2 := HVR.out.cell q2
    have p3 := HVR.out.cell q3
    have z3 : VR.cell? ⟨w.heap.size, 3, none⟩ = some (.slice (some ⟨bb, off, none⟩) 2 c) := H4R.out.cell 3
    have HB5 := Lib.hid (beside_any N IH a (by omega) hma base VR b v F (some (I, Q)) op (0) A' c' (H.out.go HVR.out) (HE.out.step (WStep.ext HVR.out)) ((WStep.ext HVR.out).tm HA.out) (by omega) (by omega) (by omega))
    have hlr := hla2 (0)
    have hbr := brk_le (bareT (some (I, Q)) a) (txT (some (I, Q)) a (0))
    unfold tmVal at HB5
    go_upto_region 6 with (go_at_call 178; refine HB5.out.mono ?_; rintro e w5 ⟨rfl, v5, h5, s5⟩; have K5 := Lib.hid h5; have S5 := Lib.hid ((WStep.ext (b := b) (v := v) HVR.out).trans s5); have H45 := Lib.hid (H4R.out.mods s5.mods (new_clr H.out (Nat.le_refl _) H4R.out.lt).no); have H55 := Lib.hid (H5R.out.mods s5.mods (new_clr H.out (by omega) H5R.out.lt).no); have hc4 := s5.clr (new_clr H.out (Nat.le_refl _) H4R.out.lt); have hc5 := s5.clr (new_clr H.out (by omega) H5R.out.lt); clear h5 s5)
    have z2 : w5.cell? ⟨w.heap.size, 2, none⟩ = some (.string s) := H45.out.cell 2
    have HE5 := Lib.hid (HE.out.step S5.out)
    have hXA : (brk (bareT (some (I, Q)) a) (txT (some (I, Q)) a (0))).length ≤ 400 * szT a := by omega
    clear hbr
    generalize hxa : brk (bareT (some (I, Q)) a) (txT (some (I, Q)) a (0)) = XA at *
    have HXA := Lib.hid hxa
    clear hxa
    clear p0 p1 p2 p3 z3 HB5 hlr H4R H5R
    by_cases hs : s.data.toList = [44]
    ·have hs2 : (s.toList == [44]) = true := by rw [ByteArray.toList_eq]; simpa using hs
     obtain rfl : md = [44, 32] := hmid.trans (if_pos hs)
     clear hs hmid HQ2
     go_upto_region 9 with (go_at_call 77; refine (wrString K5.out _ (by rw [List.length_append, show (⟨#[44, 32]⟩ : ByteArray).size = 2 from rfl]; omega)).mono ?_; rintro e w6 ⟨rfl, v6, h6, s6⟩; have K6 := Lib.hid (show WrSt base w6 b v6 (F ++ XA ++ [44, 32]) (some (I, Q)) op from h6); have S6 := Lib.hid (S5.out.trans s6); have H46 := Lib.hid (H45.out.mods s6.mods hc4.no); have H56 := Lib.hid (H55.out.mods s6.mods hc5.no); clear h6 s6)
     have x3 : w6.cell? ⟨w.heap.size, 3, none⟩ = some (.slice (some ⟨bb, off, none⟩) 2 c) := H46.out.cell 3
     have y0 : w6.cell? ⟨w.heap.size + 1, 0, none⟩ = some (.int .i64 p.p) := H56.out.cell 0
     have y1 : w6.cell? ⟨w.heap.size + 1, 1, none⟩ = some (.int .i64 p.t) := H56.out.cell 1
     have y2 : w6.cell? ⟨w.heap.size + 1, 2, none⟩ = some (.string p.s) := H56.out.cell 2
     have p0 := S6.out.mods.cell r0 hD.no
     have p1 := S6.out.mods.cell r1 hD.no
     have p2 := S6.out.mods.cell r2 hD.no
     have p3 := S6.out.mods.cell r3 hD.no
     have HD6 := Lib.hid (S6.out.tm HDD.out)
     have HE6 := Lib.hid (HE.out.step S6.out)
     have HR := fun W (x : Ext w6 W) => Lib.hid (pRight_any p.p p.t p.s W (HE6.out.env.ext x).ty)
     have HBS := fun W (x : Ext w6 W) => Lib.hid (beside_any N IH d (by omega) hmd base W b v6 _ (some (I, Q)) op (rightI p.p p.t) A2 c2 (K6.out.go x) (HE6.out.step (WStep.ext x)) ((WStep.ext x).tm HD6.out) (by simp only [List.length_append, List.length_cons, List.length_nil]; omega) hrb.1 hrb.2)
     unfold tmVal at HBS
     go_region_law ((first | (go_simp; go_at_call 68; refine (HR _ ((Ext.refl w6).drew)).out.mono ?_; rintro e V7 ⟨rfl, hx⟩; have HV7 := Lib.hid (((Ext.refl w6).drew).trans hx); have p0 := HV7.out.cell p0; have p1 := HV7.out.cell p1; have p2 := HV7.out.cell p2; have p3 := HV7.out.cell p3; have x3 := HV7.out.cell x3; clear hx) | (go_simp; go_at_call 178; refine (HBS _ HV7.out).out.mono ?_; rintro e w8 ⟨rfl, v8, h8, s8⟩; have K8 := Lib.hid h8; have S8 := Lib.hid ((S6.out.trans (WStep.ext HV7.out)).trans s8); clear h8 s8)))
     all_goals
      go_wp2_with fail
      go_end0
      refine ⟨rfl, v8, ?_, S8.out⟩
      have := K8.out
      rw [← HXA.out] at this
      simpa only [List.append_assoc] using this
    ·have hs2 := lit_ne hs
     obtain rfl : md = [32] ++ QL ++ [32] := hmid.trans (if_neg hs)
     clear hs hmid
     go_upto_region 8 with fail
     go_region_law ((first | (go_simp; go_at_call 119; refine (HQ2 _ (HE5.out.env.ext ((Ext.refl w5).drew)).tz).out.mono ?_; rintro e V6 ⟨rfl, hx⟩; have HX6 := Lib.hid (((Ext.refl w5).drew).trans hx); clear hx) | (go_simp; go_at_call 77; refine (wrString (K5.out.go HX6.out) _ (by rw [ByteArray.size_append, ByteArray.size_append, show (⟨#[32]⟩ : ByteArray).size = 1 from rfl, List.length_append]; omega)).mono ?_; rintro e w6 ⟨rfl, v6, h6, s6⟩; have K6 := Lib.hid (show WrSt base w6 b v6 (F ++ XA ++ ([32] ++ QL ++ [32])) (some (I, Q)) op from (by rw [app_list, app_list, hqd] at h6; exact h6)); have S6 := Lib.hid ((S5.out.trans (WStep.ext HX6.out)).trans s6); have H46 := Lib.hid ((H45.out.ext HX6.out).mods s6.mods ((WStep.ext (b := b) (v := v5) HX6.out).clr hc4).no); have H56 := Lib.hid ((H55.out.ext HX6.out).mods s6.mods ((WStep.ext (b := b) (v := v5) HX6.out).clr hc5).no); clear h6 s6)))
     all_goals
      go_upto_region 9 with fail
      have x3 : w6.cell? ⟨w.heap.size, 3, none⟩ = some (.slice (some ⟨bb, off, none⟩) 2 c) := H46.out.cell 3
      have y0 : w6.cell? ⟨w.heap.size + 1, 0, none⟩ = some (.int .i64 p.p) := H56.out.cell 0
      have y1 : w6.cell? ⟨w.heap.size + 1, 1, none⟩ = some (.int .i64 p.t) := H56.out.cell 1
      have y2 : w6.cell? ⟨w.heap.size + 1, 2, none⟩ = some (.string p.s) := H56.out.cell 2
      have p0 := S6.out.mods.cell r0 hD.no
      have p1 := S6.out.mods.cell r1 hD.no
      have p2 := S6.out.mods.cell r2 hD.no
      have p3 := S6.out.mods.cell r3 hD.no
      have HD6 := Lib.hid (S6.out.tm HDD.out)
      have HE6 := Lib.hid (HE.out.step S6.out)
      have HR := fun W (x : Ext w6 W) => Lib.hid (pRight_any p.p p.t p.s W (HE6.out.env.ext x).ty)
      have HBS := fun W (x : Ext w6 W) => Lib.hid (beside_any N IH d (by omega) hmd base W b v6 _ (some (I, Q)) op (rightI p.p p.t) A2 c2 (K6.out.go x) (HE6.out.step (WStep.ext x)) ((WStep.ext x).tm HD6.out) (by simp only [List.length_append, List.length_cons, List.length_nil]; omega) hrb.1 hrb.2)
      unfold tmVal at HBS
      go_region_law ((first | (go_simp; go_at_call 68; refine (HR _ ((Ext.refl w6).drew)).out.mono ?_; rintro e V7 ⟨rfl, hx⟩; have HV7 := Lib.hid (((Ext.refl w6).drew).trans hx); have p0 := HV7.out.cell p0; have p1 := HV7.out.cell p1; have p2 := HV7.out.cell p2; have p3 := HV7.out.cell p3; have x3 := HV7.out.cell x3; clear hx) | (go_simp; go_at_call 178; refine (HBS _ HV7.out).out.mono ?_; rintro e w8 ⟨rfl, v8, h8, s8⟩; have K8 := Lib.hid h8; have S8 := Lib.hid ((S6.out.trans (WStep.ext HV7.out)).trans s8); clear h8 s8)))
      all_goals
       go_wp2_with fail
       go_end0
       refine ⟨rfl, v8, ?_, S8.out⟩
       have := K8.out
       rw [← HXA.out] at this
       simpa only [List.append_assoc] using this
  ·rw [if_neg hge] at hlf
   subst hlf
   go_enter Tryz.func159, Tryz.ntmps159
   go_upto_region 1 with fail
   refine wp_abs (fun V => Hid (Blk V (w.heap.size + 1) 70 #[.int .i64 p.p, .int .i64 p.t, .string p.s]) ∧ Hid (Blk V w.heap.size 32 #[.int .i64 t.k, .int .i64 t.n, .string s, .slice (some ⟨bb, off, none⟩) 2 c]) ∧ Hid (Ext w V)) ⟨blk2b, (Blk.new w _ _).alloc _, ((Ext.refl w).alloc _).alloc _⟩ ?_
   rintro V ⟨H5, H4, HV⟩
   have y0 : V.cell? ⟨w.heap.size + 1, 0, none⟩ = some (.int .i64 p.p) := H5.out.cell 0
   have y1 : V.cell? ⟨w.heap.size + 1, 1, none⟩ = some (.int .i64 p.t) := H5.out.cell 1
   have y2 : V.cell? ⟨w.heap.size + 1, 2, none⟩ = some (.string p.s) := H5.out.cell 2
   go_upto_region 2 with (go_at_call 66; refine (HLf _ HV.out).out.mono ?_; rintro e V2 ⟨rfl, hx⟩; have HV2 := Lib.hid (HV.out.trans hx); have H42 := Lib.hid (H4.out.ext hx); have H52 := Lib.hid (H5.out.ext hx); clear hx)
   have z3 : V2.cell? ⟨w.heap.size, 3, none⟩ = some (.slice (some ⟨bb, off, none⟩) 2 c) := H42.out.cell 3
   have p0 := HV2.out.cell q0
   have p1 := HV2.out.cell q1
   have p2 := HV2.out.cell q2
   have p3 := HV2.out.cell q3
   go_upto_region 3 with (go_at_call 156; refine (HOP _ HV2.out).out.mono ?_; simp only [Option.getD, Option.isSome, opVal_eq]; rintro e V3 ⟨rfl, hx⟩; have HV3 := Lib.hid (HV2.out.trans hx); have H43 := Lib.hid (H42.out.ext hx); have H53 := Lib.hid (H52.out.ext hx); clear hx)
   refine wp_abs (fun V4 => Hid (Blk V4 V3.heap.size 70 #[.int .i64 x.p, .int .i64 x.t, .string x.s]) ∧ Hid (Blk V4 (w.heap.size + 1) 70 #[.int .i64 p.p, .int .i64 p.t, .string p.s]) ∧ Hid (Blk V4 w.heap.size 32 #[.int .i64 t.k, .int .i64 t.n, .string s, .slice (some ⟨bb, off, none⟩) 2 c]) ∧ Hid (Ext w V4)) ⟨Blk.new V3 _ _, H53.out.alloc _, H43.out.alloc _, HV3.out.alloc _⟩ ?_
   rintro V4 ⟨H7, H54, H44, HV4⟩
   clear p0 p1 p2 p3 y0 y1 y2 z3 HV HV2 HV3 H4 H5 H42 H52 H43 H53 HOP HLf
   have w0 : V4.cell? ⟨V3.heap.size, 0, none⟩ = some (.int .i64 x.p) := H7.out.cell 0
   have w1 : V4.cell? ⟨V3.heap.size, 1, none⟩ = some (.int .i64 x.t) := H7.out.cell 1
   have w2 : V4.cell? ⟨V3.heap.size, 2, none⟩ = some (.string x.s) := H7.out.cell 2
   have u0 : V4.cell? ⟨w.heap.size + 1, 0, none⟩ = some (.int .i64 p.p) := H54.out.cell 0
   have HRx := fun W (y : Ext w W) => Lib.hid (pRight_any x.p x.t x.s W (HE.out.env.ext y).ty)
   go_region_law ((go_simp; go_at_call 68; refine (HRx _ (HV4.out.drew)).out.mono ?_; rintro e VR ⟨rfl, hx⟩; have HVR := Lib.hid (HV4.out.drew.trans hx); have H4R := Lib.hid ((H44.out.drewN 1).ext hx); have H5R := Lib.hid ((H54.out.drewN 1).ext hx); have u0 := hx.cell (show V4.drew.cell? ⟨w.heap.size + 1, 0, none⟩ = some (.int .i64 p.p) from u0); clear hx))
   all_goals
    have p0 := HVR.out.cell q0
    have p1 := HVR.out.cell q1
    have p2 := HVR.out.cell q2
    have p3 := HVR.out.cell q3
    have z3 : VR.cell? ⟨w.heap.size, 3, none⟩ = some (.slice (some ⟨bb, off, none⟩) 2 c) := H4R.out.cell 3
    have HB5 := Lib.hid (beside_any N IH a (by omega) hma base VR b v F (some (I, Q)) op (leftI p.p p.t) A' c' (H.out.go HVR.out) (HE.out.step (WStep.ext HVR.out)) ((WStep.ext HVR.out).tm HA.out) (by omega) (by omega) (by omega))
    have hlr := hla2 (leftI p.p p.t)
    have hbr := brk_le (bareT (some (I, Q)) a) (txT (some (I, Q)) a (leftI p.p p.t))
    unfold tmVal at HB5
    go_upto_region 6 with (go_at_call 178; refine HB5.out.mono ?_; rintro e w5 ⟨rfl, v5, h5, s5⟩; have K5 := Lib.hid h5; have S5 := Lib.hid ((WStep.ext (b := b) (v := v) HVR.out).trans s5); have H45 := Lib.hid (H4R.out.mods s5.mods (new_clr H.out (Nat.le_refl _) H4R.out.lt).no); have H55 := Lib.hid (H5R.out.mods s5.mods (new_clr H.out (by omega) H5R.out.lt).no); have hc4 := s5.clr (new_clr H.out (Nat.le_refl _) H4R.out.lt); have hc5 := s5.clr (new_clr H.out (by omega) H5R.out.lt); clear h5 s5)
    have z2 : w5.cell? ⟨w.heap.size, 2, none⟩ = some (.string s) := H45.out.cell 2
    have HE5 := Lib.hid (HE.out.step S5.out)
    have hXA : (brk (bareT (some (I, Q)) a) (txT (some (I, Q)) a (leftI p.p p.t))).length ≤ 400 * szT a := by omega
    clear hbr
    generalize hxa : brk (bareT (some (I, Q)) a) (txT (some (I, Q)) a (leftI p.p p.t)) = XA at *
    have HXA := Lib.hid hxa
    clear hxa
    clear p0 p1 p2 p3 z3 HB5 hlr H4R H5R
    by_cases hs : s.data.toList = [44]
    ·have hs2 : (s.toList == [44]) = true := by rw [ByteArray.toList_eq]; simpa using hs
     obtain rfl : md = [44, 32] := hmid.trans (if_pos hs)
     clear hs hmid HQ2
     go_upto_region 9 with (go_at_call 77; refine (wrString K5.out _ (by rw [List.length_append, show (⟨#[44, 32]⟩ : ByteArray).size = 2 from rfl]; omega)).mono ?_; rintro e w6 ⟨rfl, v6, h6, s6⟩; have K6 := Lib.hid (show WrSt base w6 b v6 (F ++ XA ++ [44, 32]) (some (I, Q)) op from h6); have S6 := Lib.hid (S5.out.trans s6); have H46 := Lib.hid (H45.out.mods s6.mods hc4.no); have H56 := Lib.hid (H55.out.mods s6.mods hc5.no); clear h6 s6)
     have x3 : w6.cell? ⟨w.heap.size, 3, none⟩ = some (.slice (some ⟨bb, off, none⟩) 2 c) := H46.out.cell 3
     have y0 : w6.cell? ⟨w.heap.size + 1, 0, none⟩ = some (.int .i64 p.p) := H56.out.cell 0
     have y1 : w6.cell? ⟨w.heap.size + 1, 1, none⟩ = some (.int .i64 p.t) := H56.out.cell 1
     have y2 : w6.cell? ⟨w.heap.size + 1, 2, none⟩ = some (.string p.s) := H56.out.cell 2
     have p0 := S6.out.mods.cell r0 hD.no
     have p1 := S6.out.mods.cell r1 hD.no
     have p2 := S6.out.mods.cell r2 hD.no
     have p3 := S6.out.mods.cell r3 hD.no
     have HD6 := Lib.hid (S6.out.tm HDD.out)
     have HE6 := Lib.hid (HE.out.step S6.out)
     have HR := fun W (x : Ext w6 W) => Lib.hid (pRight_any p.p p.t p.s W (HE6.out.env.ext x).ty)
     have HBS := fun W (x : Ext w6 W) => Lib.hid (beside_any N IH d (by omega) hmd base W b v6 _ (some (I, Q)) op (rightI p.p p.t) A2 c2 (K6.out.go x) (HE6.out.step (WStep.ext x)) ((WStep.ext x).tm HD6.out) (by simp only [List.length_append, List.length_cons, List.length_nil]; omega) hrb.1 hrb.2)
     unfold tmVal at HBS
     go_region_law ((first | (go_simp; go_at_call 68; refine (HR _ ((Ext.refl w6).drew)).out.mono ?_; rintro e V7 ⟨rfl, hx⟩; have HV7 := Lib.hid (((Ext.refl w6).drew).trans hx); have p0 := HV7.out.cell p0; have p1 := HV7.out.cell p1; have p2 := HV7.out.cell p2; have p3 := HV7.out.cell p3; have x3 := HV7.out.cell x3; clear hx) | (go_simp; go_at_call 178; refine (HBS _ HV7.out).out.mono ?_; rintro e w8 ⟨rfl, v8, h8, s8⟩; have K8 := Lib.hid h8; have S8 := Lib.hid ((S6.out.trans (WStep.ext HV7.out)).trans s8); clear h8 s8)))
     all_goals
      go_wp2_with fail
      go_end0
      refine ⟨rfl, v8, ?_, S8.out⟩
      have := K8.out
      rw [← HXA.out] at this
      simpa only [List.append_assoc] using this
    ·have hs2 := lit_ne hs
     obtain rfl : md = [32] ++ QL ++ [32] := hmid.trans (if_neg hs)
     clear hs hmid
     go_upto_region 8 with fail
     go_region_law ((first | (go_simp; go_at_call 119; refine (HQ2 _ (HE5.out.env.ext ((Ext.refl w5).drew)).tz).out.mono ?_; rintro e V6 ⟨rfl, hx⟩; have HX6 := Lib.hid (((Ext.refl w5).drew).trans hx); clear hx) | (go_simp; go_at_call 77; refine (wrString (K5.out.go HX6.out) _ (by rw [ByteArray.size_append, ByteArray.size_append, show (⟨#[32]⟩ : ByteArray).size = 1 from rfl, List.length_append]; omega)).mono ?_; rintro e w6 ⟨rfl, v6, h6, s6⟩; have K6 := Lib.hid (show WrSt base w6 b v6 (F ++ XA ++ ([32] ++ QL ++ [32])) (some (I, Q)) op from (by rw [app_list, app_list, hqd] at h6; exact h6)); have S6 := Lib.hid ((S5.out.trans (WStep.ext HX6.out)).trans s6); have H46 := Lib.hid ((H45.out.ext HX6.out).mods s6.mods ((WStep.ext (b := b) (v := v5) HX6.out).clr hc4).no); have H56 := Lib.hid ((H55.out.ext HX6.out).mods s6.mods ((WStep.ext (b := b) (v := v5) HX6.out).clr hc5).no); clear h6 s6)))
     all_goals
      go_upto_region 9 with fail
      have x3 : w6.cell? ⟨w.heap.size, 3, none⟩ = some (.slice (some ⟨bb, off, none⟩) 2 c) := H46.out.cell 3
      have y0 : w6.cell? ⟨w.heap.size + 1, 0, none⟩ = some (.int .i64 p.p) := H56.out.cell 0
      have y1 : w6.cell? ⟨w.heap.size + 1, 1, none⟩ = some (.int .i64 p.t) := H56.out.cell 1
      have y2 : w6.cell? ⟨w.heap.size + 1, 2, none⟩ = some (.string p.s) := H56.out.cell 2
      have p0 := S6.out.mods.cell r0 hD.no
      have p1 := S6.out.mods.cell r1 hD.no
      have p2 := S6.out.mods.cell r2 hD.no
      have p3 := S6.out.mods.cell r3 hD.no
      have HD6 := Lib.hid (S6.out.tm HDD.out)
      have HE6 := Lib.hid (HE.out.step S6.out)
      have HR := fun W (x : Ext w6 W) => Lib.hid (pRight_any p.p p.t p.s W (HE6.out.env.ext x).ty)
      have HBS := fun W (x : Ext w6 W) => Lib.hid (beside_any N IH d (by omega) hmd base W b v6 _ (some (I, Q)) op (rightI p.p p.t) A2 c2 (K6.out.go x) (HE6.out.step (WStep.ext x)) ((WStep.ext x).tm HD6.out) (by simp only [List.length_append, List.length_cons, List.length_nil]; omega) hrb.1 hrb.2)
      unfold tmVal at HBS
      go_region_law ((first | (go_simp; go_at_call 68; refine (HR _ ((Ext.refl w6).drew)).out.mono ?_; rintro e V7 ⟨rfl, hx⟩; have HV7 := Lib.hid (((Ext.refl w6).drew).trans hx); have p0 := HV7.out.cell p0; have p1 := HV7.out.cell p1; have p2 := HV7.out.cell p2; have p3 := HV7.out.cell p3; have x3 := HV7.out.cell x3; clear hx) | (go_simp; go_at_call 178; refine (HBS _ HV7.out).out.mono ?_; rintro e w8 ⟨rfl, v8, h8, s8⟩; have K8 := Lib.hid h8; have S8 := Lib.hid ((S6.out.trans (WStep.ext HV7.out)).trans s8); clear h8 s8)))
      all_goals
       go_wp2_with fail
       go_end0
       refine ⟨rfl, v8, ?_, S8.out⟩
       have := K8.out
       rw [← HXA.out] at this
       simpa only [List.append_assoc] using this
end Go.Proofs.YtgcdhffeacdegaaGreatDoor
