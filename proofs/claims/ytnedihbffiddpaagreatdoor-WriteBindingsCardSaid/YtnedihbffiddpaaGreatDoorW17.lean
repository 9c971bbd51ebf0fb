/- Layer 11, the program: the walk of prefix. -/
import Derived.Test.YtnedihbffiddpaaGreatDoorW16
import Derived.Deep.RegionLaw
namespace Go.Proofs.YtnedihbffiddpaaGreatDoor
open Go.RowKit Go.El

theorem right_bd (p t : Int) (hp : -1000000 ≤ p ∧ p ≤ 1000000) : -9000000000000000000 ≤ rightI p t ∧ rightI p t ≤ 9000000000000000000 := by
  unfold rightI
  split
  · omega
  · split <;> omega
theorem app_list (a b : ByteArray) : (a ++ b).data.toList = a.data.toList ++ b.data.toList := by
  rw [ByteArray.data_append, Array.toList_append]

set_option maxRecDepth 100000 in
set_option maxHeartbeats 8000000 in
theorem prefix_wr (N : Nat) (IH : TermC N) (t a : Tm) (hN : szT t ≤ N + 1) (hm : mayT t = true) (hla : t.l = [a]) (base : Nat) (w : World) (b : Nat) (v : Value) (F : List UInt8) (I Q : List OpV) (op : Value) (p : OpV) (A : Option Addr) (c : Nat) (h : WrSt base w b v F (some (I, Q)) op) (he : EnvIn w b v) (ht : TmIn (Clr w b v) w t A c) (hl : F.length + 400 * szT t ≤ 800000010) (hpp : -1000000 ≤ p.p ∧ p.p ≤ 1000000) :
    Calls Tryz.prog 78 #[.pointer (some ⟨b, 0, none⟩), tmVal t A c, .agg #[.int .i64 p.p, .int .i64 p.t, .string p.s]] w fun e w' => e = .returned (.tuple #[]) ∧ WrPost base w b v F (quoF t.s.data.toList ++ [32] ++ brk (bareT (some (I, Q)) a) (txT (some (I, Q)) a (rightI p.p p.t))) (some (I, Q)) op w' := by
  have hma : mayT a = true := mayT_get hm (j := 0) (by rw [hla]; rfl)
  have hsa : szT a ≤ N ∧ szT a + 1 ≤ szT t := by have := szT_lt (t := t) (j := 0) (u := a) (by rw [hla]; rfl); omega
  have hs64 : t.s.size ≤ 64 := by
    have := (mayT_iff.1 hm).1
    cases t with
    | mk k n s l =>
      simp only [okT, Bool.and_eq_true] at this
      exact (part_bd this.1).2.2
  have hq := quoF_le t.s.data.toList
  have hqe : t.s.data.toList.length = t.s.size := by simp
  have HQ := fun W (x : Ext w W) => Lib.hid (quoteF_any t.s.data.toList W (by omega) (TzAt.ext he.env.tz x))
  rw [strB_mk] at HQ
  have hqs := strB_size (quoF t.s.data.toList)
  have hqd := strB_toList (quoF t.s.data.toList)
  have hlen1 : t.l.length = 1 := by rw [hla]; rfl
  have hrb : -9000000000000000000 ≤ rightI p.p p.t ∧ rightI p.p p.t ≤ 9000000000000000000 := right_bd p.p p.t hpp
  have HX := Lib.hid ht
  have H := Lib.hid h
  have HE := Lib.hid he
  have hlx := txT_le (some (I, Q)) a (rightI p.p p.t) (mayT_iff.1 hma).1
  have ho : t.l[0]? = some a := by rw [hla]; rfl
  unfold tmVal
  obtain ⟨bb, off, A', c', rfl, hD, ha, q0, q1, q2, q3⟩ := ht.child ho
  have HA := Lib.hid ha
  rw [Nat.zero_mul, Nat.add_zero] at q0 q1 q2 q3
  rw [hlen1]
  generalize strB (quoF t.s.data.toList) = qs at *
  generalize hQL : quoF t.s.data.toList = QL at *
  generalize t.s = s at *
  clear h he ht hla ho hQL ha
  have hbig : ¬ 9223372036854775807 < QL.length + 1 := by omega
  have hT := fun W (x : Ext w W) => Lib.hid (pRight_any p.p p.t p.s W (HE.out.env.ext x).ty)
  go_enter Tryz.func78, Tryz.ntmps78
  go_upto_region 1 with fail
  refine wp_abs (fun V => Hid (Blk V (w.heap.size + 1) 73 #[.int .i64 p.p, .int .i64 p.t, .string p.s]) ∧ Hid (Blk V w.heap.size 27 #[.int .i64 t.k, .int .i64 t.n, .string s, .slice (some ⟨bb, off, none⟩) 1 c]) ∧ Hid (Ext w V)) ⟨blk2b, (Blk.new w _ _).alloc _, ((Ext.refl w).alloc _).alloc _⟩ ?_
  rintro V ⟨H5, H4, HV⟩
  have z2 : V.cell? ⟨w.heap.size, 2, none⟩ = some (.string s) := H4.out.cell 2
  go_region_law ((first | (go_simp; go_at_call 44; refine (HQ _ (HV.out.drew)).out.mono ?_; rintro e V2 ⟨rfl, hx⟩; have HV2 := Lib.hid (HV.out.drew.trans hx); have H42 := Lib.hid ((H4.out.drewN 1).ext hx); have H52 := Lib.hid ((H5.out.drewN 1).ext hx); clear hx) | (go_simp; go_at_call 25; refine (wrString (H.out.go HV2.out) _ (by rw [ByteArray.size_append, show (⟨#[32]⟩ : ByteArray).size = 1 from rfl]; omega)).mono ?_; rintro e V3 ⟨rfl, v3, h3, s3⟩; have H3 := Lib.hid h3; have S3 := Lib.hid ((WStep.ext (b := b) (v := v) HV2.out).trans s3); have H43 := Lib.hid (H42.out.mods s3.mods (new_clr H.out (Nat.le_refl _) H42.out.lt).no); have H53 := Lib.hid (H52.out.mods s3.mods (new_clr H.out (by omega) H52.out.lt).no); clear h3 s3)))
  all_goals
    have x3 : V3.cell? ⟨w.heap.size, 3, none⟩ = some (.slice (some ⟨bb, off, none⟩) 1 c) := H43.out.cell 3
    have y0 : V3.cell? ⟨w.heap.size + 1, 0, none⟩ = some (.int .i64 p.p) := H53.out.cell 0
    have y1 : V3.cell? ⟨w.heap.size + 1, 1, none⟩ = some (.int .i64 p.t) := H53.out.cell 1
    have y2 : V3.cell? ⟨w.heap.size + 1, 2, none⟩ = some (.string p.s) := H53.out.cell 2
    have p0 := S3.out.mods.cell q0 hD.no
    have p1 := S3.out.mods.cell q1 hD.no
    have p2 := S3.out.mods.cell q2 hD.no
    have p3 := S3.out.mods.cell q3 hD.no
    have HA3 := Lib.hid (S3.out.tm HA.out)
    have HE3 := Lib.hid (HE.out.step S3.out)
    have HR := fun W (x : Ext V3 W) => Lib.hid (pRight_any p.p p.t p.s W (HE3.out.env.ext x).ty)
    have HBS := fun W (x : Ext V3 W) => Lib.hid (beside_any N IH a hsa.1 hma base W b v3 _ (some (I, Q)) op (rightI p.p p.t) A' c' (H3.out.go x) (HE3.out.step (WStep.ext x)) ((WStep.ext x).tm HA3.out) (by rw [List.length_append, app_list]; simp; omega) hrb.1 hrb.2)
    unfold tmVal at HBS
    clear q0 q1 q2 q3 z2 HQ hT
    go_upto_region 2 with fail
    go_region_law ((first | (go_simp; go_at_call 101; refine (HR _ ((Ext.refl V3).drew)).out.mono ?_; rintro e V4 ⟨rfl, hx⟩; have HV4 := Lib.hid (((Ext.refl V3).drew).trans hx); have p0 := HV4.out.cell p0; have p1 := HV4.out.cell p1; have p2 := HV4.out.cell p2; have p3 := HV4.out.cell p3; have x3 := HV4.out.cell x3; clear hx) | (go_simp; go_at_call 102; refine (HBS _ HV4.out).out.mono ?_; rintro e V5 ⟨rfl, v5, h5, s5⟩; have H5 := Lib.hid h5; have S5 := Lib.hid ((S3.out.trans (WStep.ext HV4.out)).trans s5); clear h5 s5)))
    all_goals
      go_wp2_with fail
      go_end0
      refine ⟨rfl, v5, ?_, S5.out⟩
      have := H5.out
      rw [app_list, hqd] at this
      simpa using this

end Go.Proofs.YtnedihbffiddpaaGreatDoor
