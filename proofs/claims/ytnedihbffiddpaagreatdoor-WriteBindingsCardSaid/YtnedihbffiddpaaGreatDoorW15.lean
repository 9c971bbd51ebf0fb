/- Layer 11, the program: the walk of list. -/
import Derived.Test.YtnedihbffiddpaaGreatDoorW12
import Derived.Test.YtnedihbffiddpaaGreatDoorW13
namespace Go.Proofs.YtnedihbffiddpaaGreatDoor
open Go.RowKit Go.El

theorem WrSt.lt {base : Nat} {w : World} {b : Nat} {v : Value} {F : List UInt8} {o : OpsV} {op : Value} (h : WrSt base w b v F o op) : b < w.heap.size := by
  obtain ⟨⟨p, hb⟩, _, _, _⟩ := h
  exact hb.blk.lt
theorem WrSt.olt {base : Nat} {w : World} {b : Nat} {v : Value} {F : List UInt8} {o : OpsV} {op : Value} (h : WrSt base w b v F o op) : ∀ k, v.ownBlock = some k → k < w.heap.size := by
  obtain ⟨⟨p, hb⟩, _, _, _⟩ := h
  exact fun k e => (hb.own.lt k e).2
/-- What is newer than the writer's own is clear of it. -/
theorem new_clr {base : Nat} {w W : World} {b : Nat} {v : Value} {F : List UInt8} {o : OpsV} {op : Value} (h : WrSt base w b v F o op) {k : Nat} (h1 : w.heap.size ≤ k) (h2 : k < W.heap.size) : Clr W b v k :=
  ⟨by have := h.lt; omega, fun e => by have := h.olt k e; omega, h2⟩

set_option maxRecDepth 100000 in
set_option maxHeartbeats 8000000 in
theorem list_any (N : Nat) (IH : TermC N) (t : Tm) (hN : szT t ≤ N + 1) (hm : mayT t = true) (hls : isLs t.k t.s t.l.length = true) (base : Nat) (w : World) (b : Nat) (v : Value) (F : List UInt8) (o : OpsV) (op : Value) (most : Int) (A : Option Addr) (c : Nat) (h : WrSt base w b v F o op) (he : EnvIn w b v) (ht : TmIn (Clr w b v) w t A c) (hl : F.length + 400 * szT t ≤ 800000000) :
    Calls Tryz.prog 45 #[.pointer (some ⟨b, 0, none⟩), tmVal t A c] w fun e w' => e = .returned (.tuple #[]) ∧ WrPost base w b v F (txT o t most) o op w' := by
  have HI := fun W (x : Ext w W) => Lib.hid (items_any t hm A c W _ (ht.ext x))
  have hsz := it_lt hls
  obtain ⟨_, hmay⟩ := it_size (szT t) t (Nat.le_refl _)
  obtain ⟨hmi, hmt⟩ := hmay hm
  have HX := Lib.hid (txT_list o most hls)
  have hw := h.lt
  have ho := h.olt
  have H := Lib.hid h
  have HE := Lib.hid he
  have hup := szT_pos (tlT t)
  clear h he ht hls hm
  unfold tmVal at HI ⊢
  go_enter Tryz.func45, Tryz.ntmps45
  go_upto_region 2 with (go_at_call 72; refine (HI _ (ext_box w _)).out.mono ?_; rintro e W1 ⟨lo, vi, M, A2, c2, rfl, hr, hM, ht2⟩; have HR := Lib.hid hr; have HM := Lib.hid hM; have HT := Lib.hid ht2; clear hr hM ht2)
  generalize tlT t = u at *
  refine wp_abs (fun V => Hid (Blk V W1.heap.size 27 #[.int .i64 u.k, .int .i64 u.n, .string u.s, .slice A2 u.l.length c2]) ∧ Hid (Ext W1 V)) ⟨Blk.new W1 _ _, ext_box _ _⟩ ?_
  rintro V ⟨HB, HV⟩
  have hwV : Ext w V := ((ext_box w _).trans HR.out.ext).trans HV.out
  have hlo : w.heap.size ≤ lo := by have := HR.out.xlo; rw [World.size_alloc] at this; omega
  obtain ⟨Ai, ci, rfl, htm⟩ := HR.out.done 0 0 ⟨#[]⟩
  rw [HM.out] at htm
  have hMl : M.length = (itT t).length := by rw [← HM.out]; simp
  rw [hMl]
  generalize itT t = l at *
  have hVs := HV.out.size
  have hbl := HB.out.lt
  have HTm := Lib.hid ((show TmsIn _ W1 l Ai ci from htm).ext HV.out |>.mono (D' := Clr V b v) (fun k hk => new_clr H.out (by omega) (by omega)))
  have HTu := Lib.hid ((HT.out.ext HV.out).mono (D' := Clr V b v) (fun k hk => new_clr H.out (by omega) (by omega)))
  have hcb : Clr V b v W1.heap.size := new_clr H.out (by have := HR.out.low; omega) hbl
  have HW := Lib.hid (H.out.go hwV)
  have HEV := Lib.hid (HE.out.step (WStep.ext (b := b) (v := v) hwV))
  have HS0 := Lib.hid (WStep.ext (b := b) (v := v) hwV)
  clear htm hMl HM HT HR hwV
  go_upto_region 3 with (go_at_call 48; refine (wrByte HW.out 91 (by omega)).mono ?_; rintro e w2 ⟨rfl, v2, h2, s2⟩; have H2 := Lib.hid h2; have S2 := Lib.hid (HS0.out.trans s2); have HE2 := Lib.hid (HEV.out.step s2); have HTm2 := Lib.hid (s2.tm HTm.out); have HTu2 := Lib.hid (s2.tm HTu.out); have hcb2 := s2.clr hcb; have HB2 := Lib.hid (HB.out.mods s2.mods hcb.no); clear h2 s2)
  go_upto_region 4 with (go_at_call 47; refine (row_any N IH l (fun j q hq => ⟨by have := szL_get hq; omega, hmi q (List.mem_of_getElem? hq)⟩) base _ b v2 _ o op Ai ci H2.out HE2.out HTm2.out (by simp only [List.length_append, List.length_cons, List.length_nil]; omega) (rwT_take_le o l (okL_of hmi))).mono ?_; rintro e w3 ⟨rfl, v3, h3, s3⟩; have H3 := Lib.hid h3; have S3 := Lib.hid (S2.out.trans s3); have HE3 := Lib.hid (HE2.out.step s3); have HTu3 := Lib.hid (s3.tm HTu2.out); have hcb3 := s3.clr hcb2; have HB3 := Lib.hid (HB2.out.mods s3.mods hcb2.no); clear h3 s3)
  have x0 : w3.cell? ⟨W1.heap.size, 0, none⟩ = some (.int .i64 u.k) := HB3.out.cell 0
  have x1 : w3.cell? ⟨W1.heap.size, 1, none⟩ = some (.int .i64 u.n) := HB3.out.cell 1
  have x2 : w3.cell? ⟨W1.heap.size, 2, none⟩ = some (.string u.s) := HB3.out.cell 2
  have x3 : w3.cell? ⟨W1.heap.size, 3, none⟩ = some (.slice A2 u.l.length c2) := HB3.out.cell 3
  have hrl := rwT_le o l (okL_of hmi)
  have hul := txT_le o u 999 (mayT_iff.1 hmt).1
  clear H H2 S2 HE2 HTu2 HTm2 HB2 HW HEV HS0 HTm HTu HV HB HI HE hcb hcb2
  by_cases hk : u.k = 3
  · have k2 : (u.k == 3) = true := by simpa using hk
    have kT : (u.k = 3) = True := eq_true hk
    by_cases hs : u.s.data.toList = [91, 93]
    · have s2 : (u.s.toList == [91, 93]) = true := by rw [ByteArray.toList_eq]; simpa using hs
      have HTF := Lib.hid (show tailF o u = [93] from by unfold tailF; rw [if_pos ⟨hk, hs⟩])
      clear hk hs
      go_wp2_with (go_at_call 48; refine (wrByte H3.out 93 (by simp only [List.length_append, List.length_cons, List.length_nil]; omega)).mono ?_; rintro e w4 ⟨rfl, v4, h4, s4⟩; have H4 := Lib.hid h4; have S4 := Lib.hid (S3.out.trans s4); clear h4 s4)
      go_end0
      refine ⟨rfl, v4, ?_, S4.out⟩
      have h4 := H4.out
      rw [HX.out, HTF.out]
      simpa using h4
    · have s2 := lit_ne hs
      have HTF := Lib.hid (show tailF o u = [124] ++ txT o u 999 ++ [93] from by unfold tailF; rw [if_neg (fun e => hs e.2)])
      clear hk hs
      go_upto_region 6 with (go_at_call 48; refine (wrByte H3.out 124 (by simp only [List.length_append, List.length_cons, List.length_nil]; omega)).mono ?_; rintro e w4 ⟨rfl, v4, h4, s4⟩; have H4 := Lib.hid h4; have S4 := Lib.hid (S3.out.trans s4); have HE4 := Lib.hid (HE3.out.step s4); have HTu4 := Lib.hid (s4.tm HTu3.out); have HB4 := Lib.hid (HB3.out.mods s4.mods hcb3.no); clear h4 s4)
      have y0 : w4.cell? ⟨W1.heap.size, 0, none⟩ = some (.int .i64 u.k) := HB4.out.cell 0
      have y1 : w4.cell? ⟨W1.heap.size, 1, none⟩ = some (.int .i64 u.n) := HB4.out.cell 1
      have y2 : w4.cell? ⟨W1.heap.size, 2, none⟩ = some (.string u.s) := HB4.out.cell 2
      have y3 : w4.cell? ⟨W1.heap.size, 3, none⟩ = some (.slice A2 u.l.length c2) := HB4.out.cell 3
      go_upto_region 7 with (go_at_call 26; refine (IH u (by omega) hmt base _ b v4 _ o op 999 A2 c2 H4.out HE4.out HTu4.out (by simp only [List.length_append, List.length_cons, List.length_nil]; omega) (by omega) (by omega)).mono ?_; rintro e w5 ⟨rfl, v5, h5, s5⟩; have H5 := Lib.hid h5; have S5 := Lib.hid (S4.out.trans s5); clear h5 s5)
      go_wp2_with (go_at_call 48; refine (wrByte H5.out 93 (by simp only [List.length_append, List.length_cons, List.length_nil]; omega)).mono ?_; rintro e w6 ⟨rfl, v6, h6, s6⟩; have H6 := Lib.hid h6; have S6 := Lib.hid (S5.out.trans s6); clear h6 s6)
      go_end0
      refine ⟨rfl, v6, ?_, S6.out⟩
      have h6 := H6.out
      rw [HX.out, HTF.out]
      simpa using h6
  · have k2 : (u.k == 3) = false := by simpa using hk
    have kF : (u.k = 3) = False := eq_false hk
    have HTF := Lib.hid (show tailF o u = [124] ++ txT o u 999 ++ [93] from by unfold tailF; rw [if_neg (fun e => hk e.1)])
    clear hk
    go_upto_region 6 with (go_at_call 48; refine (wrByte H3.out 124 (by simp only [List.length_append, List.length_cons, List.length_nil]; omega)).mono ?_; rintro e w4 ⟨rfl, v4, h4, s4⟩; have H4 := Lib.hid h4; have S4 := Lib.hid (S3.out.trans s4); have HE4 := Lib.hid (HE3.out.step s4); have HTu4 := Lib.hid (s4.tm HTu3.out); have HB4 := Lib.hid (HB3.out.mods s4.mods hcb3.no); clear h4 s4)
    have y0 : w4.cell? ⟨W1.heap.size, 0, none⟩ = some (.int .i64 u.k) := HB4.out.cell 0
    have y1 : w4.cell? ⟨W1.heap.size, 1, none⟩ = some (.int .i64 u.n) := HB4.out.cell 1
    have y2 : w4.cell? ⟨W1.heap.size, 2, none⟩ = some (.string u.s) := HB4.out.cell 2
    have y3 : w4.cell? ⟨W1.heap.size, 3, none⟩ = some (.slice A2 u.l.length c2) := HB4.out.cell 3
    go_upto_region 7 with (go_at_call 26; refine (IH u (by omega) hmt base _ b v4 _ o op 999 A2 c2 H4.out HE4.out HTu4.out (by simp only [List.length_append, List.length_cons, List.length_nil]; omega) (by omega) (by omega)).mono ?_; rintro e w5 ⟨rfl, v5, h5, s5⟩; have H5 := Lib.hid h5; have S5 := Lib.hid (S4.out.trans s5); clear h5 s5)
    go_wp2_with (go_at_call 48; refine (wrByte H5.out 93 (by simp only [List.length_append, List.length_cons, List.length_nil]; omega)).mono ?_; rintro e w6 ⟨rfl, v6, h6, s6⟩; have H6 := Lib.hid h6; have S6 := Lib.hid (S5.out.trans s6); clear h6 s6)
    go_end0
    refine ⟨rfl, v6, ?_, S6.out⟩
    have h6 := H6.out
    rw [HX.out, HTF.out]
    simpa using h6

end Go.Proofs.YtnedihbffiddpaaGreatDoor
