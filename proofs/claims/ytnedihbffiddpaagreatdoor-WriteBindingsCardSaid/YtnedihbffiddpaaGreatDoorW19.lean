/- Layer 11, the program: the closures of operated. -/
import Derived.Test.YtnedihbffiddpaaGreatDoorW18
namespace Go.Proofs.YtnedihbffiddpaaGreatDoor
open Go.RowKit Go.El

set_option maxRecDepth 100000 in
set_option maxHeartbeats 2000000 in
theorem opFn1_any (N : Nat) (IH : TermC N) (t a d : Tm) (hN : szT t ≤ N + 1) (hm : mayT t = true) (hla : t.l = [a, d]) (base : Nat) (w : World) (b : Nat) (v : Value) (F : List UInt8) (I Q : List OpV) (op : Value) (p : OpV) (A : Option Addr) (c g3 g4 g7 : Nat) (h : WrSt base w b v F (some (I, Q)) op) (he : EnvIn w b v) (ht : TmIn (Clr w b v) w t A c) (hl : F.length + 400 * szT t ≤ 800000010) (hpp : -1000000 ≤ p.p ∧ p.p ≤ 1000000)
    (b3 : w.cell? ⟨g3, 0, none⟩ = some (.pointer (some ⟨b, 0, none⟩))) (c0 : w.cell? ⟨g4, 0, none⟩ = some (.int .i64 t.k)) (c1 : w.cell? ⟨g4, 1, none⟩ = some (.int .i64 t.n)) (c2 : w.cell? ⟨g4, 2, none⟩ = some (.string t.s)) (c3 : w.cell? ⟨g4, 3, none⟩ = some (.slice A t.l.length c)) (p0 : w.cell? ⟨g7, 0, none⟩ = some (.int .i64 p.p)) (p1 : w.cell? ⟨g7, 1, none⟩ = some (.int .i64 p.t)) (p2 : w.cell? ⟨g7, 2, none⟩ = some (.string p.s)) :
    Calls Tryz.prog 75 #[.pointer (some ⟨g3, 0, none⟩), .pointer (some ⟨g4, 0, none⟩), .pointer (some ⟨g7, 0, none⟩)] w fun e w' => e = .returned (.tuple #[]) ∧ WrPost base w b v F (brk (bareT (some (I, Q)) a) (txT (some (I, Q)) a (leftF I Q p t.l)) ++ midF t.s ++ brk (bareT (some (I, Q)) d) (txT (some (I, Q)) d (rightI p.p p.t))) (some (I, Q)) op w' := by
  have HT := Lib.hid (infix_wr N IH t a d hN hm hla base w b v F I Q op p A c h he ht hl hpp)
  generalize (brk (bareT (some (I, Q)) a) (txT (some (I, Q)) a (leftF I Q p t.l)) ++ midF t.s ++ brk (bareT (some (I, Q)) d) (txT (some (I, Q)) d (rightI p.p p.t))) = X at HT ⊢
  unfold tmVal at HT
  clear h he ht hla hm hN IH hl hpp
  generalize t.l.length = m at HT c3
  generalize t.k = k at HT c0
  generalize t.n = n at HT c1
  generalize t.s = s at HT c2
  go_enter Tryz.func75, Tryz.ntmps75
  go_wp2_with (go_at_call 76; refine HT.out.mono ?_; rintro e w1 ⟨rfl, h1⟩; have H1 := Lib.hid h1; clear h1)
  go_end0
  exact ⟨rfl, H1.out⟩

set_option maxRecDepth 100000 in
set_option maxHeartbeats 2000000 in
theorem opFn2_any (N : Nat) (IH : TermC N) (t a : Tm) (hN : szT t ≤ N + 1) (hm : mayT t = true) (hla : t.l = [a]) (base : Nat) (w : World) (b : Nat) (v : Value) (F : List UInt8) (I Q : List OpV) (op : Value) (p : OpV) (A : Option Addr) (c g3 g4 g7 : Nat) (h : WrSt base w b v F (some (I, Q)) op) (he : EnvIn w b v) (ht : TmIn (Clr w b v) w t A c) (hl : F.length + 400 * szT t ≤ 800000010) (hpp : -1000000 ≤ p.p ∧ p.p ≤ 1000000)
    (b3 : w.cell? ⟨g3, 0, none⟩ = some (.pointer (some ⟨b, 0, none⟩))) (c0 : w.cell? ⟨g4, 0, none⟩ = some (.int .i64 t.k)) (c1 : w.cell? ⟨g4, 1, none⟩ = some (.int .i64 t.n)) (c2 : w.cell? ⟨g4, 2, none⟩ = some (.string t.s)) (c3 : w.cell? ⟨g4, 3, none⟩ = some (.slice A t.l.length c)) (p0 : w.cell? ⟨g7, 0, none⟩ = some (.int .i64 p.p)) (p1 : w.cell? ⟨g7, 1, none⟩ = some (.int .i64 p.t)) (p2 : w.cell? ⟨g7, 2, none⟩ = some (.string p.s)) :
    Calls Tryz.prog 77 #[.pointer (some ⟨g3, 0, none⟩), .pointer (some ⟨g4, 0, none⟩), .pointer (some ⟨g7, 0, none⟩)] w fun e w' => e = .returned (.tuple #[]) ∧ WrPost base w b v F (quoF t.s.data.toList ++ [32] ++ brk (bareT (some (I, Q)) a) (txT (some (I, Q)) a (rightI p.p p.t))) (some (I, Q)) op w' := by
  have HT := Lib.hid (prefix_wr N IH t a hN hm hla base w b v F I Q op p A c h he ht hl hpp)
  generalize (quoF t.s.data.toList ++ [32] ++ brk (bareT (some (I, Q)) a) (txT (some (I, Q)) a (rightI p.p p.t))) = X at HT ⊢
  unfold tmVal at HT
  clear h he ht hla hm hN IH hl hpp
  generalize t.l.length = m at HT c3
  generalize t.k = k at HT c0
  generalize t.n = n at HT c1
  generalize t.s = s at HT c2
  go_enter Tryz.func77, Tryz.ntmps77
  go_wp2_with (go_at_call 78; refine HT.out.mono ?_; rintro e w1 ⟨rfl, h1⟩; have H1 := Lib.hid h1; clear h1)
  go_end0
  exact ⟨rfl, H1.out⟩

end Go.Proofs.YtnedihbffiddpaaGreatDoor

/- Layer 11, the program: the walk of operated where there are no operators, or of {}. -/
namespace Go.Proofs.YtnedihbffiddpaaGreatDoor
open Go.RowKit Go.El

set_option maxRecDepth 100000 in
set_option maxHeartbeats 2000000 in
theorem operated_none (t : Tm) (base : Nat) (w : World) (b : Nat) (v : Value) (F : List UInt8) (op : Value) (most : Int) (A : Option Addr) (c : Nat) (h : WrSt base w b v F none op) :
    Calls Tryz.prog 46 #[.pointer (some ⟨b, 0, none⟩), tmVal t A c, .int .i64 most] w fun e w' => e = .returned (.bool false) ∧ Ext w w' := by
  obtain ⟨⟨p, hb⟩, ho, _, _⟩ := h
  have ho : op = .pointer none := ho
  subst ho
  have d2 : w.cell? ⟨b, 2, none⟩ = some (.pointer none) := hb.blk.cell 2
  have d3 := (ext_box w (.cells #[.pointer (some ⟨b, 0, none⟩)] 49)).cell d2
  have d4 := (ext_box _ (.cells #[.int .i64 t.k, .int .i64 t.n, .string t.s, .slice A t.l.length c] 27)).cell d3
  unfold tmVal
  clear hb
  go_enter Tryz.func46, Tryz.ntmps46
  go_wp2_with fail
  go_ret
  exact ⟨rfl, ((Ext.refl w).alloc _).alloc _⟩

set_option maxRecDepth 100000 in
set_option maxHeartbeats 8000000 in
theorem operated_br (N : Nat) (IH : TermC N) (t a : Tm) (hN : szT t ≤ N + 1) (hm : mayT t = true) (hla : t.l = [a]) (hs : t.s.data.toList = [123, 125]) (base : Nat) (w : World) (b : Nat) (v : Value) (F : List UInt8) (I Q : List OpV) (op : Value) (most : Int) (A : Option Addr) (c : Nat) (h : WrSt base w b v F (some (I, Q)) op) (he : EnvIn w b v) (ht : TmIn (Clr w b v) w t A c) (hl : F.length + 400 * szT t ≤ 800000000) :
    Calls Tryz.prog 46 #[.pointer (some ⟨b, 0, none⟩), tmVal t A c, .int .i64 most] w fun e w' => e = .returned (.bool true) ∧ WrPost base w b v F ([123] ++ txT (some (I, Q)) a 1200 ++ [125]) (some (I, Q)) op w' := by
  have hma : mayT a = true := mayT_get hm (j := 0) (by rw [hla]; rfl)
  have hsa : szT a ≤ N ∧ szT a + 1 ≤ szT t := by have := szT_lt (t := t) (j := 0) (u := a) (by rw [hla]; rfl); omega
  have hlx := txT_le (some (I, Q)) a 1200 (mayT_iff.1 hma).1
  have hs2 : (t.s.toList == [123, 125]) = true := by rw [ByteArray.toList_eq]; simpa using hs
  have hlen1 : t.l.length = 1 := by rw [hla]; rfl
  obtain ⟨bb, off, A', c', rfl, hD, ha, q0, q1, q2, q3⟩ := ht.child (j := 0) (u := a) (by rw [hla]; rfl)
  rw [Nat.zero_mul, Nat.add_zero] at q0 q1 q2 q3
  have HA := Lib.hid ha
  have H := Lib.hid h
  have HE := Lib.hid he
  obtain ⟨_, ⟨tb, m1, m2, rfl, _⟩, _, _⟩ := h
  have d2 : w.cell? ⟨b, 2, none⟩ = some (.pointer (some ⟨tb, 0, none⟩)) := H.out.bld.choose_spec.blk.cell 2
  unfold tmVal
  rw [hlen1]
  generalize hX : txT (some (I, Q)) a 1200 = X at hlx ⊢
  have HXX := Lib.hid hX
  clear he ht hla ha hm hX hs
  generalize t.s = s at *
  go_enter Tryz.func46, Tryz.ntmps46
  go_upto_region 1 with fail
  refine wp_abs (fun V => Hid (Blk V (w.heap.size + 1) 27 #[.int .i64 t.k, .int .i64 t.n, .string s, .slice (some ⟨bb, off, none⟩) 1 c]) ∧ Hid (Blk V w.heap.size 49 #[.pointer (some ⟨b, 0, none⟩)]) ∧ Hid (Ext w V)) ⟨blk2b, (Blk.new w _ _).alloc _, ((Ext.refl w).alloc _).alloc _⟩ ?_
  rintro V ⟨H4, H3, HV⟩
  have z0 : V.cell? ⟨w.heap.size, 0, none⟩ = some (.pointer (some ⟨b, 0, none⟩)) := H3.out.cell 0
  have y2 : V.cell? ⟨w.heap.size + 1, 2, none⟩ = some (.string s) := H4.out.cell 2
  have y3 : V.cell? ⟨w.heap.size + 1, 3, none⟩ = some (.slice (some ⟨bb, off, none⟩) 1 c) := H4.out.cell 3
  have d2 := HV.out.cell d2
  go_upto_region 5 with (go_at_call 48; refine (wrByte (H.out.go HV.out) 123 (by omega)).mono ?_; rintro e w2 ⟨rfl, v2, h2, s2⟩; have K2 := Lib.hid h2; have S2 := Lib.hid ((WStep.ext (b := b) (v := v) HV.out).trans s2); have H42 := Lib.hid (H4.out.mods s2.mods (new_clr H.out (by omega) H4.out.lt).no); have H32 := Lib.hid (H3.out.mods s2.mods (new_clr H.out (Nat.le_refl _) H3.out.lt).no); have hc3 := s2.clr (new_clr H.out (Nat.le_refl _) H3.out.lt); clear h2 s2)
  have z0 : w2.cell? ⟨w.heap.size, 0, none⟩ = some (.pointer (some ⟨b, 0, none⟩)) := H32.out.cell 0
  have y3 : w2.cell? ⟨w.heap.size + 1, 3, none⟩ = some (.slice (some ⟨bb, off, none⟩) 1 c) := H42.out.cell 3
  have p0 := S2.out.mods.cell q0 hD.no
  have p1 := S2.out.mods.cell q1 hD.no
  have p2 := S2.out.mods.cell q2 hD.no
  have p3 := S2.out.mods.cell q3 hD.no
  have HT2 := Lib.hid (IH a hsa.1 hma base _ b v2 _ (some (I, Q)) (.pointer (some ⟨tb, 0, none⟩)) 1200 A' c' (K2.out.go ((Ext.refl w2).drew)) ((HE.out.step S2.out).step (WStep.ext ((Ext.refl w2).drew))) ((WStep.ext ((Ext.refl w2).drew)).tm (S2.out.tm HA.out)) (by simp only [List.length_append, List.length_cons, List.length_nil]; omega) (by omega) (by omega))
  rw [HXX.out] at HT2
  unfold tmVal at HT2
  clear d2
  go_region_law ((go_simp; go_at_call 26; refine HT2.out.mono ?_; rintro e w3 ⟨rfl, v3, h3, s3⟩; have K3 := Lib.hid h3; have S3 := Lib.hid ((S2.out.trans (WStep.ext ((Ext.refl w2).drew))).trans s3); have H33 := Lib.hid ((H32.out.drewN 1).mods s3.mods ((WStep.ext (b := b) (v := v2) ((Ext.refl w2).drew)).clr hc3).no); clear h3 s3))
  all_goals
    have z0 : w3.cell? ⟨w.heap.size, 0, none⟩ = some (.pointer (some ⟨b, 0, none⟩)) := H33.out.cell 0
    go_wp2_with (go_at_call 48; refine (wrByte K3.out 125 (by simp only [List.length_append, List.length_cons, List.length_nil]; omega)).mono ?_; rintro e w4 ⟨rfl, v4, h4, s4⟩; have K4 := Lib.hid h4; have S4 := Lib.hid (S3.out.trans s4); clear h4 s4)
    go_ret
    refine ⟨rfl, v4, ?_, S4.out⟩
    have := K4.out
    simpa using this

end Go.Proofs.YtnedihbffiddpaaGreatDoor
