/- Layer 11, the program: the closures of operated. -/
import Derived.Test.YtgcdhffeacdegaaGreatDoorH18
namespace Go.Proofs.YtgcdhffeacdegaaGreatDoor
open Go.RowKit Go.El
set_option maxRecDepth 100000 in
set_option maxHeartbeats 2000000 in
theorem opFn1_any (N : Nat) (IH : TermC N) (t a d : Tm) (hN : szT t ≤ N + 1) (hm : mayT t = true) (hla : t.l = [a, d]) (base : Nat) (w : World) (b : Nat) (v : Value) (F : List UInt8) (I Q : List OpV) (op : Value) (p : OpV) (A : Option Addr) (c g3 g4 g7 : Nat) (h : WrSt base w b v F (some (I, Q)) op) (he : EnvIn w b v) (ht : TmIn (Clr w b v) w t A c) (hl : F.length + 400 * szT t ≤ 800000010) (hpp : -1000000 ≤ p.p ∧ p.p ≤ 1000000)
  (b3 : w.cell? ⟨g3, 0, none⟩ = some (.pointer (some ⟨b, 0, none⟩))) (c0 : w.cell? ⟨g4, 0, none⟩ = some (.int .i64 t.k)) (c1 : w.cell? ⟨g4, 1, none⟩ = some (.int .i64 t.n)) (c2 : w.cell? ⟨g4, 2, none⟩ = some (.string t.s)) (c3 : w.cell? ⟨g4, 3, none⟩ = some (.slice A t.l.length c)) (p0 : w.cell? ⟨g7, 0, none⟩ = some (.int .i64 p.p)) (p1 : w.cell? ⟨g7, 1, none⟩ = some (.int .i64 p.t)) (p2 : w.cell? ⟨g7, 2, none⟩ = some (.string p.s)) :
  Calls Tryz.prog 158 #[.pointer (some ⟨g3, 0, none⟩), .pointer (some ⟨g4, 0, none⟩), .pointer (some ⟨g7, 0, none⟩)] w fun e w' => e = .returned (.tuple #[]) ∧ WrPost base w b v F (brk (bareT (some (I, Q)) a) (txT (some (I, Q)) a (leftF I Q p t.l)) ++ midF t.s ++ brk (bareT (some (I, Q)) d) (txT (some (I, Q)) d (rightI p.p p.t))) (some (I, Q)) op w' := by
 have HT := Lib.hid (infix_wr N IH t a d hN hm hla base w b v F I Q op p A c h he ht hl hpp)
 generalize (brk (bareT (some (I, Q)) a) (txT (some (I, Q)) a (leftF I Q p t.l)) ++ midF t.s ++ brk (bareT (some (I, Q)) d) (txT (some (I, Q)) d (rightI p.p p.t))) = X at HT ⊢
 unfold tmVal at HT
 clear h he ht hla hm hN IH hl hpp
 generalize t.l.length = m at HT c3
 generalize t.k = k at HT c0
 generalize t.n = n at HT c1
 generalize t.s = s at HT c2
 go_enter Tryz.func158, Tryz.ntmps158
 go_wp2_with (go_at_call 159; refine HT.out.mono ?_; rintro e w1 ⟨rfl, h1⟩; have H1 := Lib.hid h1; clear h1)
 go_end0
 exact ⟨rfl, H1.out⟩
set_option maxRecDepth 100000 in
set_option maxHeartbeats 2000000 in
theorem opFn2_any (N : Nat) (IH : TermC N) (t a : Tm) (hN : szT t ≤ N + 1) (hm : mayT t = true) (hla : t.l = [a]) (base : Nat) (w : World) (b : Nat) (v : Value) (F : List UInt8) (I Q : List OpV) (op : Value) (p : OpV) (A : Option Addr) (c g3 g4 g7 : Nat) (h : WrSt base w b v F (some (I, Q)) op) (he : EnvIn w b v) (ht : TmIn (Clr w b v) w t A c) (hl : F.length + 400 * szT t ≤ 800000010) (hpp : -1000000 ≤ p.p ∧ p.p ≤ 1000000)
  (b3 : w.cell? ⟨g3, 0, none⟩ = some (.pointer (some ⟨b, 0, none⟩))) (c0 : w.cell? ⟨g4, 0, none⟩ = some (.int .i64 t.k)) (c1 : w.cell? ⟨g4, 1, none⟩ = some (.int .i64 t.n)) (c2 : w.cell? ⟨g4, 2, none⟩ = some (.string t.s)) (c3 : w.cell? ⟨g4, 3, none⟩ = some (.slice A t.l.length c)) (p0 : w.cell? ⟨g7, 0, none⟩ = some (.int .i64 p.p)) (p1 : w.cell? ⟨g7, 1, none⟩ = some (.int .i64 p.t)) (p2 : w.cell? ⟨g7, 2, none⟩ = some (.string p.s)) :
  Calls Tryz.prog 160 #[.pointer (some ⟨g3, 0, none⟩), .pointer (some ⟨g4, 0, none⟩), .pointer (some ⟨g7, 0, none⟩)] w fun e w' => e = .returned (.tuple #[]) ∧ WrPost base w b v F (quoF t.s.data.toList ++ [32] ++ brk (bareT (some (I, Q)) a) (txT (some (I, Q)) a (rightI p.p p.t))) (some (I, Q)) op w' := by
 have HT := Lib.hid (prefix_wr N IH t a hN hm hla base w b v F I Q op p A c h he ht hl hpp)
 generalize (quoF t.s.data.toList ++ [32] ++ brk (bareT (some (I, Q)) a) (txT (some (I, Q)) a (rightI p.p p.t))) = X at HT ⊢
 unfold tmVal at HT
 clear h he ht hla hm hN IH hl hpp
 generalize t.l.length = m at HT c3
 generalize t.k = k at HT c0
 generalize t.n = n at HT c1
 generalize t.s = s at HT c2
 go_enter Tryz.func160, Tryz.ntmps160
 go_wp2_with (go_at_call 161; refine HT.out.mono ?_; rintro e w1 ⟨rfl, h1⟩; have H1 := Lib.hid h1; clear h1)
 go_end0
 exact ⟨rfl, H1.out⟩
end Go.Proofs.YtgcdhffeacdegaaGreatDoor
/- Layer 11, the program: the walk of operated where there are no operators, or of {}. -/
namespace Go.Proofs.YtgcdhffeacdegaaGreatDoor
open Go.RowKit Go.El
set_option maxRecDepth 100000 in
set_option maxHeartbeats 2000000 in
theorem operated_none (t : Tm) (base : Nat) (w : World) (b : Nat) (v : Value) (F : List UInt8) (op : Value) (most : Int) (A : Option Addr) (c : Nat) (h : WrSt base w b v F none op) :
  Calls Tryz.prog 121 #[.pointer (some ⟨b, 0, none⟩), tmVal t A c, .int .i64 most] w fun e w' => e = .returned (.bool false) ∧ Ext w w' := by
 obtain ⟨⟨p, hb⟩, ho, _, _⟩ := h
 have ho : op = .pointer none := ho
 subst ho
 have d2 : w.cell? ⟨b, 2, none⟩ = some (.pointer none) := hb.blk.cell 2
 have d3 := (ext_box w (.cells #[.pointer (some ⟨b, 0, none⟩)] 117)).cell d2
 have d4 := (ext_box _ (.cells #[.int .i64 t.k, .int .i64 t.n, .string t.s, .slice A t.l.length c] 32)).cell d3
 unfold tmVal
 clear hb
 go_enter Tryz.func121, Tryz.ntmps121
 go_wp2_with fail
 go_ret
 exact ⟨rfl, ((Ext.refl w).alloc _).alloc _⟩
set_option maxRecDepth 100000 in
set_option maxHeartbeats 8000000 in
theorem operated_br (N : Nat) (IH : TermC N) (t a : Tm) (hN : szT t ≤ N + 1) (hm : mayT t = true) (hla : t.l = [a]) (hs : t.s.data.toList = [123, 125]) (base : Nat) (w : World) (b : Nat) (v : Value) (F : List UInt8) (I Q : List OpV) (op : Value) (most : Int) (A : Option Addr) (c : Nat) (h : WrSt base w b v F (some (I, Q)) op) (he : EnvIn w b v) (ht : TmIn (Clr w b v) w t A c) (hl : F.length + 400 * szT t ≤ 800000000) :
  Calls Tryz.prog 121 #[.pointer (some ⟨b, 0, none⟩), tmVal t A c, .int .i64 most] w fun e w' => e = .returned (.bool true) ∧ WrPost base w b v F ([123] ++ txT (some (I, Q)) a 1200 ++ [125]) (some (I, Q)) op w' := by
 have hma : mayT a = true := mayT_get hm (j := 0) (by rw [hla]; rfl)
 have hsa : szT a ≤ N ∧ szT a + 1 ≤ szT t := by have := szT_lt (t := t) (j := 0) (u := a) (by rw [hla]; rfl); omega
 have hlx := txT_le (some (I, Q)) a 1200 (mayT_iff.1 hma).1
 have hs2 : (t.s.toList == [123, 125]) = true := by rw [ByteArray.toList_eq]; simpa using hs
 have hlen1 : t.l.length = 1 := by rw [hla]; rfl
 obtain ⟨bb, off, A', c', rfl, hD, ha, q0, q1, q2, q3⟩ := ht.child (j := 0) (u := a) (by rw [hla]; rfl)
 rw [Nat.zero_mul, Nat.add_zero] at q0 q1 q2 q3
 have HA := Lib.hid ha
 have H := Lib.hid h
 have HE := Lib.hid he
 obtain ⟨_, ⟨tb, m1, m2, rfl, _⟩, _, _⟩ := h
 have d2 : w.cell? ⟨b, 2, none⟩ = some (.pointer (some ⟨tb, 0, none⟩)) := H.out.bld.choose_spec.blk.cell 2
 unfold tmVal
 rw [hlen1]
 generalize hX : txT (some (I, Q)) a 1200 = X at hlx ⊢
 have HXX := Lib.hid hX
 clear he ht hla ha hm hX hs
 generalize t.s = s at *
 go_enter Tryz.func121, Tryz.ntmps121
 go_upto_region 1 with fail
 refine wp_abs (fun V => Hid (Blk V (w.heap.size + 1) 32 #[.int .i64 t.k, .int .i64 t.n, .string s, .slice (some ⟨bb, off, none⟩) 1 c]) ∧ Hid (Blk V w.heap.size 117 #[.pointer (some ⟨b, 0, none⟩)]) ∧ Hid (Ext w V)) ⟨blk2b, (Blk.new w _ _).alloc _, ((Ext.refl w).alloc _).alloc _⟩ ?_
 rintro V ⟨H4, H3, HV⟩
 have z0 : V.cell? ⟨w.heap.size, 0, none⟩ = some (.pointer (some ⟨b, 0, none⟩)) := H3.out.cell 0
 have y2 : V.cell? ⟨w.heap.size + 1, 2, none⟩ = some (.string s) := H4.out.cell 2
 have y3 : V.cell? ⟨w.heap.size + 1, 3, none⟩ = some (.slice (some ⟨bb, off, none⟩) 1 c) := H4.out.cell 3
 have d2 := HV.out.cell d2
 go_upto_region 5 with (go_at_call 123; refine (wrByte (H.out.go HV.out) 123 (by omega)).mono ?_; rintro e w2 ⟨rfl, v2, h2, s2⟩; have K2 := Lib.hid h2; have S2 := Lib.hid ((WStep.ext (b := b) (v := v) HV.out).trans s2); have H42 := Lib.hid (H4.out.mods s2.mods (new_clr H.out (by omega) H4.out.lt).no); have H32 := Lib.hid (H3.out.mods s2.mods (new_clr H.out (Nat.le_refl _) H3.out.lt).no); have hc3 := s2.clr (new_clr H.out (Nat.le_refl _) H3.out.lt); clear h2 s2)
 have z0 : w2.cell? ⟨w.heap.size, 0, none⟩ = some (.pointer (some ⟨b, 0, none⟩)) := H32.out.cell 0
 have y3 : w2.cell? ⟨w.heap.size + 1, 3, none⟩ = some (.slice (some ⟨bb, off, none⟩) 1 c) := H42.out.cell 3
 have p0 := S2.out.mods.cell q0 hD.no
 have p1 := S2.out.mods.cell q1 hD.no
 have p2 := S2.out.mods.cell q2 hD.no
 have p3 := S2.out.mods.cell q3 hD.no
 have HT2 := Lib.hid (IH a hsa.1 hma base _ b v2 _ (some (I, Q)) (.pointer (some ⟨tb, 0, none⟩)) 1200 A' c' (K2.out.go ((Ext.refl w2).drew)) ((HE.out.step S2.out).step (WStep.ext ((Ext.refl w2).drew))) ((WStep.ext ((Ext.refl w2).drew)).tm (S2.out.tm HA.out)) (by simp only [List.length_append, List.length_cons, List.length_nil]; omega) (by omega) (by omega))
 rw [HXX.out] at HT2
 unfold tmVal at HT2
 clear d2
 go_region_law ((go_simp; go_at_call 78; refine HT2.out.mono ?_; rintro e w3 ⟨rfl, v3, h3, s3⟩; have K3 := Lib.hid h3; have S3 := Lib.hid ((S2.out.trans (WStep.ext ((Ext.refl w2).drew))).trans s3); have H33 := Lib.hid ((H32.out.drewN 1).mods s3.mods ((WStep.ext (b := b) (v := v2) ((Ext.refl w2).drew)).clr hc3).no); clear h3 s3))
 all_goals
  have z0 : w3.cell? ⟨w.heap.size, 0, none⟩ = some (.pointer (some ⟨b, 0, none⟩)) := H33.out.cell 0
  go_wp2_with (go_at_call 123; refine (wrByte K3.out 125 (by simp only [List.length_append, List.length_cons, List.length_nil]; omega)).mono ?_; rintro e w4 ⟨rfl, v4, h4, s4⟩; have K4 := Lib.hid h4; have S4 := Lib.hid (S3.out.trans s4); clear h4 s4)
  go_ret
  refine ⟨rfl, v4, ?_, S4.out⟩
  have := K4.out
  simpa using this
end Go.Proofs.YtgcdhffeacdegaaGreatDoor

/- Layer 11, the program: the walk of operated by an operator. -/
namespace Go.Proofs.YtgcdhffeacdegaaGreatDoor
open Go.RowKit Go.El
set_option maxRecDepth 100000 in
set_option maxHeartbeats 8000000 in
theorem operated_no (t : Tm) (hnb : isBraces t.s t.l.length = false) (base : Nat) (w : World) (b : Nat) (v : Value) (F : List UInt8) (I Q : List OpV) (op : Value) (hr : oprT I Q t = none) (most : Int) (A : Option Addr) (c : Nat) (h : WrSt base w b v F (some (I, Q)) op) (ht : TmIn (Clr w b v) w t A c) :
  Calls Tryz.prog 121 #[.pointer (some ⟨b, 0, none⟩), tmVal t A c, .int .i64 most] w fun e w' => e = .returned (.bool false) ∧ Ext w w' := by
 have HOP := fun W (x : Ext w W) => Lib.hid (operator_any (h.go x) t A c _ (ht.ext x))
 rw [hr] at HOP
 obtain ⟨⟨pp, hb⟩, ⟨tb, m1, m2, hop, _⟩, _, _⟩ := id h
 have d2 : w.cell? ⟨b, 2, none⟩ = some (.pointer (some ⟨tb, 0, none⟩)) := by rw [← hop]; exact hb.blk.cell 2
 have hS := fun (W : World) (x : Ext w W) => Lib.hid (WStep.ext (b := b) (v := v) x)
 have hq : ((t.s.toList == [123, 125]) = false) ∨ ((t.s.toList == [123, 125]) = true ∧ ((t.l.length : Int) == 1) = false) := by
  by_cases hs : t.s.data.toList = [123, 125]
  ·right
   refine ⟨by rw [ByteArray.toList_eq]; simpa using hs, ?_⟩
   have := of_decide_eq_false hnb
   simpa using (show ¬ (t.l.length : Int) = 1 from fun e => this ⟨hs, by omega⟩)
  ·exact .inl (lit_ne hs)
 unfold tmVal at HOP ⊢
 generalize t.l.length = m at *
 generalize t.k = k at *
 generalize t.n = n at *
 generalize t.s = s at *
 clear h ht hb hr hnb hop
 rcases hq with s2 | ⟨s2, q1⟩
 ·go_enter Tryz.func121, Tryz.ntmps121
  go_upto_region 1 with fail
  refine wp_abs (fun V => Hid (Blk V (w.heap.size + 1) 32 #[.int .i64 k, .int .i64 n, .string s, .slice A m c]) ∧ Hid (Blk V w.heap.size 117 #[.pointer (some ⟨b, 0, none⟩)]) ∧ Hid (Ext w V)) ⟨blk2b, (Blk.new w _ _).alloc _, ((Ext.refl w).alloc _).alloc _⟩ ?_
  rintro V ⟨H4, H3, HV⟩
  have z0 : V.cell? ⟨w.heap.size, 0, none⟩ = some (.pointer (some ⟨b, 0, none⟩)) := H3.out.cell 0
  have y0 : V.cell? ⟨w.heap.size + 1, 0, none⟩ = some (.int .i64 k) := H4.out.cell 0
  have y1 : V.cell? ⟨w.heap.size + 1, 1, none⟩ = some (.int .i64 n) := H4.out.cell 1
  have y2 : V.cell? ⟨w.heap.size + 1, 2, none⟩ = some (.string s) := H4.out.cell 2
  have y3 : V.cell? ⟨w.heap.size + 1, 3, none⟩ = some (.slice A m c) := H4.out.cell 3
  have d2 := HV.out.cell d2
  go_upto_region 9 with (go_at_call 156; refine (HOP _ HV.out).out.mono ?_; simp only [Option.getD, Option.isSome, opVal_eq, zeroO]; rintro e V3 ⟨rfl, hx⟩; have HV3 := Lib.hid (HV.out.trans hx); have H43 := Lib.hid (H4.out.ext hx); have H33 := Lib.hid (H3.out.ext hx); clear hx)
  refine wp_abs (fun V4 => Hid (Blk V4 V3.heap.size 70 #[.int .i64 0, .int .i64 0, .string ⟨#[]⟩]) ∧ Hid (Blk V4 (w.heap.size + 1) 32 #[.int .i64 k, .int .i64 n, .string s, .slice A m c]) ∧ Hid (Blk V4 w.heap.size 117 #[.pointer (some ⟨b, 0, none⟩)]) ∧ Hid (Ext w V4)) ⟨Blk.new V3 _ _, H43.out.alloc _, H33.out.alloc _, HV3.out.alloc _⟩ ?_
  rintro V4 ⟨H7, H44, H34, HV4⟩
  have hg7 : w.heap.size ≤ V3.heap.size := HV3.out.size
  clear z0 y0 y1 y2 y3 d2 HV HV3 H4 H3 H43 H33 HOP
  have z0 : V4.cell? ⟨w.heap.size, 0, none⟩ = some (.pointer (some ⟨b, 0, none⟩)) := H34.out.cell 0
  have y3 : V4.cell? ⟨w.heap.size + 1, 3, none⟩ = some (.slice A m c) := H44.out.cell 3
  have p0 : V4.cell? ⟨V3.heap.size, 0, none⟩ = some (.int .i64 0) := H7.out.cell 0
  go_wp2_with fail
  go_ret
  exact ⟨rfl, HV4.out⟩
 ·go_enter Tryz.func121, Tryz.ntmps121
  go_upto_region 1 with fail
  refine wp_abs (fun V => Hid (Blk V (w.heap.size + 1) 32 #[.int .i64 k, .int .i64 n, .string s, .slice A m c]) ∧ Hid (Blk V w.heap.size 117 #[.pointer (some ⟨b, 0, none⟩)]) ∧ Hid (Ext w V)) ⟨blk2b, (Blk.new w _ _).alloc _, ((Ext.refl w).alloc _).alloc _⟩ ?_
  rintro V ⟨H4, H3, HV⟩
  have z0 : V.cell? ⟨w.heap.size, 0, none⟩ = some (.pointer (some ⟨b, 0, none⟩)) := H3.out.cell 0
  have y0 : V.cell? ⟨w.heap.size + 1, 0, none⟩ = some (.int .i64 k) := H4.out.cell 0
  have y1 : V.cell? ⟨w.heap.size + 1, 1, none⟩ = some (.int .i64 n) := H4.out.cell 1
  have y2 : V.cell? ⟨w.heap.size + 1, 2, none⟩ = some (.string s) := H4.out.cell 2
  have y3 : V.cell? ⟨w.heap.size + 1, 3, none⟩ = some (.slice A m c) := H4.out.cell 3
  have d2 := HV.out.cell d2
  go_upto_region 9 with (go_at_call 156; refine (HOP _ HV.out).out.mono ?_; simp only [Option.getD, Option.isSome, opVal_eq, zeroO]; rintro e V3 ⟨rfl, hx⟩; have HV3 := Lib.hid (HV.out.trans hx); have H43 := Lib.hid (H4.out.ext hx); have H33 := Lib.hid (H3.out.ext hx); clear hx)
  refine wp_abs (fun V4 => Hid (Blk V4 V3.heap.size 70 #[.int .i64 0, .int .i64 0, .string ⟨#[]⟩]) ∧ Hid (Blk V4 (w.heap.size + 1) 32 #[.int .i64 k, .int .i64 n, .string s, .slice A m c]) ∧ Hid (Blk V4 w.heap.size 117 #[.pointer (some ⟨b, 0, none⟩)]) ∧ Hid (Ext w V4)) ⟨Blk.new V3 _ _, H43.out.alloc _, H33.out.alloc _, HV3.out.alloc _⟩ ?_
  rintro V4 ⟨H7, H44, H34, HV4⟩
  have hg7 : w.heap.size ≤ V3.heap.size := HV3.out.size
  clear z0 y0 y1 y2 y3 d2 HV HV3 H4 H3 H43 H33 HOP
  have z0 : V4.cell? ⟨w.heap.size, 0, none⟩ = some (.pointer (some ⟨b, 0, none⟩)) := H34.out.cell 0
  have y3 : V4.cell? ⟨w.heap.size + 1, 3, none⟩ = some (.slice A m c) := H44.out.cell 3
  have p0 : V4.cell? ⟨V3.heap.size, 0, none⟩ = some (.int .i64 0) := H7.out.cell 0
  go_wp2_with fail
  go_ret
  exact ⟨rfl, HV4.out⟩
set_option maxRecDepth 100000 in
set_option maxHeartbeats 8000000 in
theorem operated_one (N : Nat) (IH : TermC N) (t : Tm) (hN : szT t ≤ N + 1) (hm : mayT t = true) (hnb : isBraces t.s t.l.length = false) (base : Nat) (w : World) (b : Nat) (v : Value) (F : List UInt8) (I Q : List OpV) (op : Value) (p : OpV) (hr : oprT I Q t = some p) (a : Tm) (hla : t.l = [a]) (hpp : -1000000 ≤ p.p ∧ p.p ≤ 1000000) (most : Int) (A : Option Addr) (c : Nat) (h : WrSt base w b v F (some (I, Q)) op) (he : EnvIn w b v) (ht : TmIn (Clr w b v) w t A c) (hl : F.length + 400 * szT t ≤ 800000000) :
  Calls Tryz.prog 121 #[.pointer (some ⟨b, 0, none⟩), tmVal t A c, .int .i64 most] w fun e w' => e = .returned (.bool true) ∧ WrPost base w b v F (brk (decide (most < p.p)) (quoF t.s.data.toList ++ [32] ++ brk (bareT (some (I, Q)) a) (txT (some (I, Q)) a (rightI p.p p.t)))) (some (I, Q)) op w' := by
 have HOP := fun W (x : Ext w W) => Lib.hid (operator_any (h.go x) t A c _ (ht.ext x))
 rw [hr] at HOP
 have hXl : ((quoF t.s.data.toList ++ [32] ++ brk (bareT (some (I, Q)) a) (txT (some (I, Q)) a (rightI p.p p.t)))).length + 50 ≤ 400 * szT t := by
  have hs64 : t.s.size ≤ 64 := by
   have := (mayT_iff.1 hm).1
   cases t with
   | mk k n s l =>
    simp only [okT, Bool.and_eq_true] at this
    exact (part_bd this.1).2.2
  have hsz := szT_lt (t := t) (j := 0) (u := a) (by rw [hla]; rfl)
  have hma : mayT a = true := mayT_get hm (j := 0) (by rw [hla]; rfl)
  have l2 := txT_le (some (I, Q)) a (rightI p.p p.t) (mayT_iff.1 hma).1
  have l3 := quoF_le t.s.data.toList
  have l3e : t.s.data.toList.length = t.s.size := by simp
  have l5 := brk_le (bareT (some (I, Q)) a) (txT (some (I, Q)) a (rightI p.p p.t))
  simp only [List.length_append, List.length_cons, List.length_nil]
  omega
 have hf : ∀ args W, (callFunc 160 args).run Tryz.prog W = .ok (.enter 160 args) W := enters_of Tryz.func160 (by kernel_rfl) rfl
 have HW := fun (W : World) (x : Ext w W) (g7 : Nat) (hg : w.heap.size ≤ g7) (br : Bool) (h3 : Blk W w.heap.size 117 #[.pointer (some ⟨b, 0, none⟩)]) (h4 : Blk W (w.heap.size + 1) 32 #[.int .i64 t.k, .int .i64 t.n, .string t.s, .slice A t.l.length c]) (h5 : Blk W g7 70 #[.int .i64 p.p, .int .i64 p.t, .string p.s]) => Lib.hid (within_any (h.go x) br 160 #[.pointer (some ⟨w.heap.size, 0, none⟩), .pointer (some ⟨w.heap.size + 1, 0, none⟩), .pointer (some ⟨g7, 0, none⟩)] (quoF t.s.data.toList ++ [32] ++ brk (bareT (some (I, Q)) a) (txT (some (I, Q)) a (rightI p.p p.t))) (by omega) hf (fun w1 v1 F1 k1 k2 k3 => by
  have g3 := h3.mods k2.mods (new_clr h (Nat.le_refl _) h3.lt).no
  have g4 := h4.mods k2.mods (new_clr h (by omega) h4.lt).no
  have g5 := h5.mods k2.mods (new_clr h hg h5.lt).no
  exact opFn2_any N IH t a hN hm hla base w1 b v1 F1 I Q op p A c _ _ _ k1 ((he.step (WStep.ext x)).step k2) (k2.tm ((WStep.ext x).tm ht)) (by omega) hpp (g3.cell 0) (g4.cell 0) (g4.cell 1) (g4.cell 2) (g4.cell 3) (g5.cell 0) (g5.cell 1) (g5.cell 2)))
 obtain ⟨⟨pp, hb⟩, ⟨tb, m1, m2, hop, _⟩, _, _⟩ := id h
 have d2 : w.cell? ⟨b, 2, none⟩ = some (.pointer (some ⟨tb, 0, none⟩)) := by rw [← hop]; exact hb.blk.cell 2
 have hS := fun (W : World) (x : Ext w W) => Lib.hid (WStep.ext (b := b) (v := v) x)
 have hq : ((t.s.toList == [123, 125]) = false) ∨ ((t.s.toList == [123, 125]) = true ∧ ((t.l.length : Int) == 1) = false) := by
  by_cases hs : t.s.data.toList = [123, 125]
  ·right
   refine ⟨by rw [ByteArray.toList_eq]; simpa using hs, ?_⟩
   have := of_decide_eq_false hnb
   simpa using (show ¬ (t.l.length : Int) = 1 from fun e => this ⟨hs, by omega⟩)
  ·exact .inl (lit_ne hs)
 have q2 : ((t.l.length : Int) == 2) = false := by rw [hla]; rfl
 unfold tmVal at HOP ⊢
 generalize (quoF t.s.data.toList ++ [32] ++ brk (bareT (some (I, Q)) a) (txT (some (I, Q)) a (rightI p.p p.t))) = X at *
 clear hla
 generalize t.l.length = m at *
 generalize t.k = k at *
 generalize t.n = n at *
 generalize t.s = s at *
 clear h he ht hb hr hm hnb hop hl
 generalize hbr : decide (most < p.p) = br
 rcases hq with s2 | ⟨s2, q1⟩
 ·go_enter Tryz.func121, Tryz.ntmps121
  go_upto_region 1 with fail
  refine wp_abs (fun V => Hid (Blk V (w.heap.size + 1) 32 #[.int .i64 k, .int .i64 n, .string s, .slice A m c]) ∧ Hid (Blk V w.heap.size 117 #[.pointer (some ⟨b, 0, none⟩)]) ∧ Hid (Ext w V)) ⟨blk2b, (Blk.new w _ _).alloc _, ((Ext.refl w).alloc _).alloc _⟩ ?_
  rintro V ⟨H4, H3, HV⟩
  have z0 : V.cell? ⟨w.heap.size, 0, none⟩ = some (.pointer (some ⟨b, 0, none⟩)) := H3.out.cell 0
  have y0 : V.cell? ⟨w.heap.size + 1, 0, none⟩ = some (.int .i64 k) := H4.out.cell 0
  have y1 : V.cell? ⟨w.heap.size + 1, 1, none⟩ = some (.int .i64 n) := H4.out.cell 1
  have y2 : V.cell? ⟨w.heap.size + 1, 2, none⟩ = some (.string s) := H4.out.cell 2
  have y3 : V.cell? ⟨w.heap.size + 1, 3, none⟩ = some (.slice A m c) := H4.out.cell 3
  have d2 := HV.out.cell d2
  go_upto_region 9 with (go_at_call 156; refine (HOP _ HV.out).out.mono ?_; simp only [Option.getD, Option.isSome, opVal_eq]; rintro e V3 ⟨rfl, hx⟩; have HV3 := Lib.hid (HV.out.trans hx); have H43 := Lib.hid (H4.out.ext hx); have H33 := Lib.hid (H3.out.ext hx); clear hx)
  refine wp_abs (fun V4 => Hid (Blk V4 V3.heap.size 70 #[.int .i64 p.p, .int .i64 p.t, .string p.s]) ∧ Hid (Blk V4 (w.heap.size + 1) 32 #[.int .i64 k, .int .i64 n, .string s, .slice A m c]) ∧ Hid (Blk V4 w.heap.size 117 #[.pointer (some ⟨b, 0, none⟩)]) ∧ Hid (Ext w V4)) ⟨Blk.new V3 _ _, H43.out.alloc _, H33.out.alloc _, HV3.out.alloc _⟩ ?_
  rintro V4 ⟨H7, H44, H34, HV4⟩
  have hg7 : w.heap.size ≤ V3.heap.size := HV3.out.size
  clear z0 y0 y1 y2 y3 d2 HV HV3 H4 H3 H43 H33 HOP
  have z0 : V4.cell? ⟨w.heap.size, 0, none⟩ = some (.pointer (some ⟨b, 0, none⟩)) := H34.out.cell 0
  have y3 : V4.cell? ⟨w.heap.size + 1, 3, none⟩ = some (.slice A m c) := H44.out.cell 3
  have p0 : V4.cell? ⟨V3.heap.size, 0, none⟩ = some (.int .i64 p.p) := H7.out.cell 0
  by_cases hmo : most < p.p
  ·obtain rfl : br = true := by rw [← hbr]; exact decide_eq_true hmo
   clear hbr
   go_wp2_with (go_at_call 157; refine (HW _ HV4.out _ hg7 true H34.out H44.out H7.out).out.mono ?_; rintro e w5 ⟨rfl, v5, h5, s5⟩; have K5 := Lib.hid h5; have S5 := Lib.hid ((hS _ HV4.out).out.trans s5); clear h5 s5)
   go_ret
   exact ⟨rfl, v5, K5.out, S5.out⟩
  ·obtain rfl : br = false := by rw [← hbr]; exact decide_eq_false hmo
   clear hbr
   go_wp2_with (go_at_call 157; refine (HW _ HV4.out _ hg7 false H34.out H44.out H7.out).out.mono ?_; rintro e w5 ⟨rfl, v5, h5, s5⟩; have K5 := Lib.hid h5; have S5 := Lib.hid ((hS _ HV4.out).out.trans s5); clear h5 s5)
   go_ret
   exact ⟨rfl, v5, K5.out, S5.out⟩
 ·go_enter Tryz.func121, Tryz.ntmps121
  go_upto_region 1 with fail
  refine wp_abs (fun V => Hid (Blk V (w.heap.size + 1) 32 #[.int .i64 k, .int .i64 n, .string s, .slice A m c]) ∧ Hid (Blk V w.heap.size 117 #[.pointer (some ⟨b, 0, none⟩)]) ∧ Hid (Ext w V)) ⟨blk2b, (Blk.new w _ _).alloc _, ((Ext.refl w).alloc _).alloc _⟩ ?_
  rintro V ⟨H4, H3, HV⟩
  have z0 : V.cell? ⟨w.heap.size, 0, none⟩ = some (.pointer (some ⟨b, 0, none⟩)) := H3.out.cell 0
  have y0 : V.cell? ⟨w.heap.size + 1, 0, none⟩ = some (.int .i64 k) := H4.out.cell 0
  have y1 : V.cell? ⟨w.heap.size + 1, 1, none⟩ = some (.int .i64 n) := H4.out.cell 1
  have y2 : V.cell? ⟨w.heap.size + 1, 2, none⟩ = some (.string s) := H4.out.cell 2
  have y3 : V.cell? ⟨w.heap.size + 1, 3, none⟩ = some (.slice A m c) := H4.out.cell 3
  have d2 := HV.out.cell d2
  go_upto_region 9 with (go_at_call 156; refine (HOP _ HV.out).out.mono ?_; simp only [Option.getD, Option.isSome, opVal_eq]; rintro e V3 ⟨rfl, hx⟩; have HV3 := Lib.hid (HV.out.trans hx); have H43 := Lib.hid (H4.out.ext hx); have H33 := Lib.hid (H3.out.ext hx); clear hx)
  refine wp_abs (fun V4 => Hid (Blk V4 V3.heap.size 70 #[.int .i64 p.p, .int .i64 p.t, .string p.s]) ∧ Hid (Blk V4 (w.heap.size + 1) 32 #[.int .i64 k, .int .i64 n, .string s, .slice A m c]) ∧ Hid (Blk V4 w.heap.size 117 #[.pointer (some ⟨b, 0, none⟩)]) ∧ Hid (Ext w V4)) ⟨Blk.new V3 _ _, H43.out.alloc _, H33.out.alloc _, HV3.out.alloc _⟩ ?_
  rintro V4 ⟨H7, H44, H34, HV4⟩
  have hg7 : w.heap.size ≤ V3.heap.size := HV3.out.size
  clear z0 y0 y1 y2 y3 d2 HV HV3 H4 H3 H43 H33 HOP
  have z0 : V4.cell? ⟨w.heap.size, 0, none⟩ = some (.pointer (some ⟨b, 0, none⟩)) := H34.out.cell 0
  have y3 : V4.cell? ⟨w.heap.size + 1, 3, none⟩ = some (.slice A m c) := H44.out.cell 3
  have p0 : V4.cell? ⟨V3.heap.size, 0, none⟩ = some (.int .i64 p.p) := H7.out.cell 0
  by_cases hmo : most < p.p
  ·obtain rfl : br = true := by rw [← hbr]; exact decide_eq_true hmo
   clear hbr
   go_wp2_with (go_at_call 157; refine (HW _ HV4.out _ hg7 true H34.out H44.out H7.out).out.mono ?_; rintro e w5 ⟨rfl, v5, h5, s5⟩; have K5 := Lib.hid h5; have S5 := Lib.hid ((hS _ HV4.out).out.trans s5); clear h5 s5)
   go_ret
   exact ⟨rfl, v5, K5.out, S5.out⟩
  ·obtain rfl : br = false := by rw [← hbr]; exact decide_eq_false hmo
   clear hbr
   go_wp2_with (go_at_call 157; refine (HW _ HV4.out _ hg7 false H34.out H44.out H7.out).out.mono ?_; rintro e w5 ⟨rfl, v5, h5, s5⟩; have K5 := Lib.hid h5; have S5 := Lib.hid ((hS _ HV4.out).out.trans s5); clear h5 s5)
   go_ret
   exact ⟨rfl, v5, K5.out, S5.out⟩
set_option maxRecDepth 100000 in
set_option maxHeartbeats 8000000 in
theorem operated_two (N : Nat) (IH : TermC N) (t : Tm) (hN : szT t ≤ N + 1) (hm : mayT t = true) (hnb : isBraces t.s t.l.length = false) (base : Nat) (w : World) (b : Nat) (v : Value) (F : List UInt8) (I Q : List OpV) (op : Value) (p : OpV) (hr : oprT I Q t = some p) (a d : Tm) (hla : t.l = [a, d]) (hpp : -1000000 ≤ p.p ∧ p.p ≤ 1000000) (most : Int) (A : Option Addr) (c : Nat) (h : WrSt base w b v F (some (I, Q)) op) (he : EnvIn w b v) (ht : TmIn (Clr w b v) w t A c) (hl : F.length + 400 * szT t ≤ 800000000) :
  Calls Tryz.prog 121 #[.pointer (some ⟨b, 0, none⟩), tmVal t A c, .int .i64 most] w fun e w' => e = .returned (.bool true) ∧ WrPost base w b v F (brk (decide (most < p.p)) (brk (bareT (some (I, Q)) a) (txT (some (I, Q)) a (leftF I Q p t.l)) ++ midF t.s ++ brk (bareT (some (I, Q)) d) (txT (some (I, Q)) d (rightI p.p p.t)))) (some (I, Q)) op w' := by
 have HOP := fun W (x : Ext w W) => Lib.hid (operator_any (h.go x) t A c _ (ht.ext x))
 rw [hr] at HOP
 have hXl : ((brk (bareT (some (I, Q)) a) (txT (some (I, Q)) a (leftF I Q p t.l)) ++ midF t.s ++ brk (bareT (some (I, Q)) d) (txT (some (I, Q)) d (rightI p.p p.t)))).length + 50 ≤ 400 * szT t := by
  have hs64 : t.s.size ≤ 64 := by
   have := (mayT_iff.1 hm).1
   cases t with
   | mk k n s l =>
    simp only [okT, Bool.and_eq_true] at this
    exact (part_bd this.1).2.2
  have hsz : szT t = 1 + (szT a + szT d) := by
   cases t with
   | mk k n s l =>
    simp only [Tm.l] at hla
    subst hla
    simp [szT, szL]
  have hma : mayT a = true := mayT_get hm (j := 0) (by rw [hla]; rfl)
  have hmd : mayT d = true := mayT_get hm (j := 1) (by rw [hla]; rfl)
  have l1 := txT_le (some (I, Q)) a (leftF I Q p t.l) (mayT_iff.1 hma).1
  have l2 := txT_le (some (I, Q)) d (rightI p.p p.t) (mayT_iff.1 hmd).1
  have l3 := midF_le hs64
  have l4 := brk_le (bareT (some (I, Q)) a) (txT (some (I, Q)) a (leftF I Q p t.l))
  have l5 := brk_le (bareT (some (I, Q)) d) (txT (some (I, Q)) d (rightI p.p p.t))
  simp only [List.length_append]
  omega
 have hf : ∀ args W, (callFunc 158 args).run Tryz.prog W = .ok (.enter 158 args) W := enters_of Tryz.func158 (by kernel_rfl) rfl
 have HW := fun (W : World) (x : Ext w W) (g7 : Nat) (hg : w.heap.size ≤ g7) (br : Bool) (h3 : Blk W w.heap.size 117 #[.pointer (some ⟨b, 0, none⟩)]) (h4 : Blk W (w.heap.size + 1) 32 #[.int .i64 t.k, .int .i64 t.n, .string t.s, .slice A t.l.length c]) (h5 : Blk W g7 70 #[.int .i64 p.p, .int .i64 p.t, .string p.s]) => Lib.hid (within_any (h.go x) br 158 #[.pointer (some ⟨w.heap.size, 0, none⟩), .pointer (some ⟨w.heap.size + 1, 0, none⟩), .pointer (some ⟨g7, 0, none⟩)] (brk (bareT (some (I, Q)) a) (txT (some (I, Q)) a (leftF I Q p t.l)) ++ midF t.s ++ brk (bareT (some (I, Q)) d) (txT (some (I, Q)) d (rightI p.p p.t))) (by omega) hf (fun w1 v1 F1 k1 k2 k3 => by
  have g3 := h3.mods k2.mods (new_clr h (Nat.le_refl _) h3.lt).no
  have g4 := h4.mods k2.mods (new_clr h (by omega) h4.lt).no
  have g5 := h5.mods k2.mods (new_clr h hg h5.lt).no
  exact opFn1_any N IH t a d hN hm hla base w1 b v1 F1 I Q op p A c _ _ _ k1 ((he.step (WStep.ext x)).step k2) (k2.tm ((WStep.ext x).tm ht)) (by omega) hpp (g3.cell 0) (g4.cell 0) (g4.cell 1) (g4.cell 2) (g4.cell 3) (g5.cell 0) (g5.cell 1) (g5.cell 2)))
 obtain ⟨⟨pp, hb⟩, ⟨tb, m1, m2, hop, _⟩, _, _⟩ := id h
 have d2 : w.cell? ⟨b, 2, none⟩ = some (.pointer (some ⟨tb, 0, none⟩)) := by rw [← hop]; exact hb.blk.cell 2
 have hS := fun (W : World) (x : Ext w W) => Lib.hid (WStep.ext (b := b) (v := v) x)
 have hq : ((t.s.toList == [123, 125]) = false) ∨ ((t.s.toList == [123, 125]) = true ∧ ((t.l.length : Int) == 1) = false) := by
  by_cases hs : t.s.data.toList = [123, 125]
  ·right
   refine ⟨by rw [ByteArray.toList_eq]; simpa using hs, ?_⟩
   have := of_decide_eq_false hnb
   simpa using (show ¬ (t.l.length : Int) = 1 from fun e => this ⟨hs, by omega⟩)
  ·exact .inl (lit_ne hs)
 have q2 : ((t.l.length : Int) == 2) = true := by rw [hla]; rfl
 unfold tmVal at HOP ⊢
 generalize (brk (bareT (some (I, Q)) a) (txT (some (I, Q)) a (leftF I Q p t.l)) ++ midF t.s ++ brk (bareT (some (I, Q)) d) (txT (some (I, Q)) d (rightI p.p p.t))) = X at *
 clear hla
 generalize t.l.length = m at *
 generalize t.k = k at *
 generalize t.n = n at *
 generalize t.s = s at *
 clear h he ht hb hr hm hnb hop hl
 generalize hbr : decide (most < p.p) = br
 rcases hq with s2 | ⟨s2, q1⟩
 ·go_enter Tryz.func121, Tryz.ntmps121
  go_upto_region 1 with fail
  refine wp_abs (fun V => Hid (Blk V (w.heap.size + 1) 32 #[.int .i64 k, .int .i64 n, .string s, .slice A m c]) ∧ Hid (Blk V w.heap.size 117 #[.pointer (some ⟨b, 0, none⟩)]) ∧ Hid (Ext w V)) ⟨blk2b, (Blk.new w _ _).alloc _, ((Ext.refl w).alloc _).alloc _⟩ ?_
  rintro V ⟨H4, H3, HV⟩
  have z0 : V.cell? ⟨w.heap.size, 0, none⟩ = some (.pointer (some ⟨b, 0, none⟩)) := H3.out.cell 0
  have y0 : V.cell? ⟨w.heap.size + 1, 0, none⟩ = some (.int .i64 k) := H4.out.cell 0
  have y1 : V.cell? ⟨w.heap.size + 1, 1, none⟩ = some (.int .i64 n) := H4.out.cell 1
  have y2 : V.cell? ⟨w.heap.size + 1, 2, none⟩ = some (.string s) := H4.out.cell 2
  have y3 : V.cell? ⟨w.heap.size + 1, 3, none⟩ = some (.slice A m c) := H4.out.cell 3
  have d2 := HV.out.cell d2
  go_upto_region 9 with (go_at_call 156; refine (HOP _ HV.out).out.mono ?_; simp only [Option.getD, Option.isSome, opVal_eq]; rintro e V3 ⟨rfl, hx⟩; have HV3 := Lib.hid (HV.out.trans hx); have H43 := Lib.hid (H4.out.ext hx); have H33 := Lib.hid (H3.out.ext hx); clear hx)
  refine wp_abs (fun V4 => Hid (Blk V4 V3.heap.size 70 #[.int .i64 p.p, .int .i64 p.t, .string p.s]) ∧ Hid (Blk V4 (w.heap.size + 1) 32 #[.int .i64 k, .int .i64 n, .string s, .slice A m c]) ∧ Hid (Blk V4 w.heap.size 117 #[.pointer (some ⟨b, 0, none⟩)]) ∧ Hid (Ext w V4)) ⟨Blk.new V3 _ _, H43.out.alloc _, H33.out.alloc _, HV3.out.alloc _⟩ ?_
  rintro V4 ⟨H7, H44, H34, HV4⟩
  have hg7 : w.heap.size ≤ V3.heap.size := HV3.out.size
  clear z0 y0 y1 y2 y3 d2 HV HV3 H4 H3 H43 H33 HOP
  have z0 : V4.cell? ⟨w.heap.size, 0, none⟩ = some (.pointer (some ⟨b, 0, none⟩)) := H34.out.cell 0
  have y3 : V4.cell? ⟨w.heap.size + 1, 3, none⟩ = some (.slice A m c) := H44.out.cell 3
  have p0 : V4.cell? ⟨V3.heap.size, 0, none⟩ = some (.int .i64 p.p) := H7.out.cell 0
  by_cases hmo : most < p.p
  ·obtain rfl : br = true := by rw [← hbr]; exact decide_eq_true hmo
   clear hbr
   go_wp2_with (go_at_call 157; refine (HW _ HV4.out _ hg7 true H34.out H44.out H7.out).out.mono ?_; rintro e w5 ⟨rfl, v5, h5, s5⟩; have K5 := Lib.hid h5; have S5 := Lib.hid ((hS _ HV4.out).out.trans s5); clear h5 s5)
   go_ret
   exact ⟨rfl, v5, K5.out, S5.out⟩
  ·obtain rfl : br = false := by rw [← hbr]; exact decide_eq_false hmo
   clear hbr
   go_wp2_with (go_at_call 157; refine (HW _ HV4.out _ hg7 false H34.out H44.out H7.out).out.mono ?_; rintro e w5 ⟨rfl, v5, h5, s5⟩; have K5 := Lib.hid h5; have S5 := Lib.hid ((hS _ HV4.out).out.trans s5); clear h5 s5)
   go_ret
   exact ⟨rfl, v5, K5.out, S5.out⟩
 ·go_enter Tryz.func121, Tryz.ntmps121
  go_upto_region 1 with fail
  refine wp_abs (fun V => Hid (Blk V (w.heap.size + 1) 32 #[.int .i64 k, .int .i64 n, .string s, .slice A m c]) ∧ Hid (Blk V w.heap.size 117 #[.pointer (some ⟨b, 0, none⟩)]) ∧ Hid (Ext w V)) ⟨blk2b, (Blk.new w _ _).alloc _, ((Ext.refl w).alloc _).alloc _⟩ ?_
  rintro V ⟨H4, H3, HV⟩
  have z0 : V.cell? ⟨w.heap.size, 0, none⟩ = some (.pointer (some ⟨b, 0, none⟩)) := H3.out.cell 0
  have y0 : V.cell? ⟨w.heap.size + 1, 0, none⟩ = some (.int .i64 k) := H4.out.cell 0
  have y1 : V.cell? ⟨w.heap.size + 1, 1, none⟩ = some (.int .i64 n) := H4.out.cell 1
  have y2 : V.cell? ⟨w.heap.size + 1, 2, none⟩ = some (.string s) := H4.out.cell 2
  have y3 : V.cell? ⟨w.heap.size + 1, 3, none⟩ = some (.slice A m c) := H4.out.cell 3
  have d2 := HV.out.cell d2
  go_upto_region 9 with (go_at_call 156; refine (HOP _ HV.out).out.mono ?_; simp only [Option.getD, Option.isSome, opVal_eq]; rintro e V3 ⟨rfl, hx⟩; have HV3 := Lib.hid (HV.out.trans hx); have H43 := Lib.hid (H4.out.ext hx); have H33 := Lib.hid (H3.out.ext hx); clear hx)
  refine wp_abs (fun V4 => Hid (Blk V4 V3.heap.size 70 #[.int .i64 p.p, .int .i64 p.t, .string p.s]) ∧ Hid (Blk V4 (w.heap.size + 1) 32 #[.int .i64 k, .int .i64 n, .string s, .slice A m c]) ∧ Hid (Blk V4 w.heap.size 117 #[.pointer (some ⟨b, 0, none⟩)]) ∧ Hid (Ext w V4)) ⟨Blk.new V3 _ _, H43.out.alloc _, H33.out.alloc _, HV3.out.alloc _⟩ ?_
  rintro V4 ⟨H7, H44, H34, HV4⟩
  have hg7 : w.heap.size ≤ V3.heap.size := HV3.out.size
  clear z0 y0 y1 y2 y3 d2 HV HV3 H4 H3 H43 H33 HOP
  have z0 : V4.cell? ⟨w.heap.size, 0, none⟩ = some (.pointer (some ⟨b, 0, none⟩)) := H34.out.cell 0
  have y3 : V4.cell? ⟨w.heap.size + 1, 3, none⟩ = some (.slice A m c) := H44.out.cell 3
  have p0 : V4.cell? ⟨V3.heap.size, 0, none⟩ = some (.int .i64 p.p) := H7.out.cell 0
  by_cases hmo : most < p.p
  ·obtain rfl : br = true := by rw [← hbr]; exact decide_eq_true hmo
   clear hbr
   go_wp2_with (go_at_call 157; refine (HW _ HV4.out _ hg7 true H34.out H44.out H7.out).out.mono ?_; rintro e w5 ⟨rfl, v5, h5, s5⟩; have K5 := Lib.hid h5; have S5 := Lib.hid ((hS _ HV4.out).out.trans s5); clear h5 s5)
   go_ret
   exact ⟨rfl, v5, K5.out, S5.out⟩
  ·obtain rfl : br = false := by rw [← hbr]; exact decide_eq_false hmo
   clear hbr
   go_wp2_with (go_at_call 157; refine (HW _ HV4.out _ hg7 false H34.out H44.out H7.out).out.mono ?_; rintro e w5 ⟨rfl, v5, h5, s5⟩; have K5 := Lib.hid h5; have S5 := Lib.hid ((hS _ HV4.out).out.trans s5); clear h5 s5)
   go_ret
   exact ⟨rfl, v5, K5.out, S5.out⟩
end Go.Proofs.YtgcdhffeacdegaaGreatDoor

/- Layer 11, the program: the walk of term: its contract for all terms that may be. -/
namespace Go.Proofs.YtgcdhffeacdegaaGreatDoor
open Go.RowKit Go.El
theorem find_mem {s : ByteArray} : ∀ {l : List OpV} {p : OpV}, findO s l = some p → p ∈ l
 | [], p, h => by simp [findO] at h
 | q :: l, p, h => by
  unfold findO at h
  split at h
  ·injection h with h
   subst h
   simp
  ·exact List.mem_cons_of_mem _ (find_mem h)
theorem opr_mem {I Q : List OpV} {t : Tm} {p : OpV} (h : oprT I Q t = some p) : p ∈ I ∨ p ∈ Q := by
 unfold oprT oprK at h
 split at h
 ·cases h
 ·split at h
  ·exact .inl (find_mem h)
  ·split at h
   ·exact .inr (find_mem h)
   ·cases h
theorem WrSt.bd {base : Nat} {w : World} {b : Nat} {v : Value} {F : List UInt8} {I Q : List OpV} {op : Value} (h : WrSt base w b v F (some (I, Q)) op) {t : Tm} {p : OpV} (hp : oprT I Q t = some p) : -1000000 ≤ p.p ∧ p.p ≤ 1000000 := by
 obtain ⟨_, ⟨_, _, _, _, _, _, _, _, hb⟩, _, _⟩ := h
 exact hb p (opr_mem hp)
theorem operated_all (N : Nat) (IH : TermC N) (t : Tm) (hN : szT t ≤ N + 1) (hm : mayT t = true) (base : Nat) (w : World) (b : Nat) (v : Value) (F : List UInt8) (o : OpsV) (op : Value) (most : Int) (A : Option Addr) (c : Nat) (h : WrSt base w b v F o op) (he : EnvIn w b v) (ht : TmIn (Clr w b v) w t A c) (hl : F.length + 400 * szT t ≤ 800000000) :
  Calls Tryz.prog 121 #[.pointer (some ⟨b, 0, none⟩), tmVal t A c, .int .i64 most] w fun e w' =>
   (∃ X, o.bind (fun q => operF q.1 q.2 t.k t.s t.l most (a0T o t.l) (a1T o t.l)) = some X ∧ e = .returned (.bool true) ∧ WrPost base w b v F X o op w') ∨
   (o.bind (fun q => operF q.1 q.2 t.k t.s t.l most (a0T o t.l) (a1T o t.l)) = none ∧ e = .returned (.bool false) ∧ Ext w w') := by
 cases o with
 | none =>
  refine (operated_none t base w b v F op most A c h).mono ?_
  rintro e w' ⟨rfl, hx⟩
  exact .inr ⟨rfl, rfl, hx⟩
 | some q =>
  obtain ⟨I, Q⟩ := q
  simp only [Option.bind_some]
  cases hb : isBraces t.s t.l.length
  ·cases hr : oprT I Q t with
   | none =>
    refine (operated_no t hb base w b v F I Q op hr most A c h ht).mono ?_
    rintro e w' ⟨rfl, hx⟩
    refine .inr ⟨?_, rfl, hx⟩
    unfold operF
    rw [hb]
    unfold oprT at hr
    simp [hr]
   | some p =>
    have hpp := h.bd hr
    have hr2 : oprK I Q t.k t.s t.l = some p := hr
    have hlen : t.l.length = 2 ∨ t.l.length = 1 := by
     unfold oprK at hr2
     split at hr2
     ·cases hr2
     ·split at hr2
      ·exact .inl ‹_›
      ·split at hr2
       ·rename_i e
        exact .inr e.1
       ·cases hr2
    rcases hlen with h2 | h1
    ·obtain ⟨a, d, hla⟩ : ∃ a d, t.l = [a, d] := by
      match hh : t.l, h2 with
      | [a, d], _ => exact ⟨a, d, rfl⟩
     refine (operated_two N IH t hN hm hb base w b v F I Q op p hr a d hla hpp most A c h he ht hl).mono ?_
     rintro e w' ⟨rfl, hx⟩
     refine .inl ⟨_, ?_, rfl, hx⟩
     unfold operF
     rw [hb, hr2]
     simp only [h2, if_true, Bool.false_eq_true, if_false]
     rw [hla]
     rfl
    ·obtain ⟨a, hla⟩ : ∃ a, t.l = [a] := by
      match hh : t.l, h1 with
      | [a], _ => exact ⟨a, rfl⟩
     refine (operated_one N IH t hN hm hb base w b v F I Q op p hr a hla hpp most A c h he ht hl).mono ?_
     rintro e w' ⟨rfl, hx⟩
     refine .inl ⟨_, ?_, rfl, hx⟩
     unfold operF
     rw [hb, hr2]
     have hn2 : ¬ t.l.length = 2 := by omega
     simp only [hn2, if_false, Bool.false_eq_true]
     rw [hla]
     rfl
  ·have hbb := of_decide_eq_true hb
   obtain ⟨a, hla⟩ : ∃ a, t.l = [a] := by
    match hh : t.l, hbb.2 with
    | [a], _ => exact ⟨a, rfl⟩
   refine (operated_br N IH t a hN hm hla hbb.1 base w b v F I Q op most A c h he ht (by omega)).mono ?_
   rintro e w' ⟨rfl, hx⟩
   refine .inl ⟨_, ?_, rfl, hx⟩
   unfold operF
   rw [hb, hla]
   rfl
end Go.Proofs.YtgcdhffeacdegaaGreatDoor
