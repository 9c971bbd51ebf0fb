/- Layer 11, the program: the walk of operated by an operator. -/
import Derived.Test.YtnedihbffiddpaaGreatDoorW19
namespace Go.Proofs.YtnedihbffiddpaaGreatDoor
open Go.RowKit Go.El

set_option maxRecDepth 100000 in
set_option maxHeartbeats 8000000 in
theorem operated_no (t : Tm) (hnb : isBraces t.s t.l.length = false) (base : Nat) (w : World) (b : Nat) (v : Value) (F : List UInt8) (I Q : List OpV) (op : Value) (hr : oprT I Q t = none) (most : Int) (A : Option Addr) (c : Nat) (h : WrSt base w b v F (some (I, Q)) op) (ht : TmIn (Clr w b v) w t A c) :
    Calls Tryz.prog 46 #[.pointer (some ⟨b, 0, none⟩), tmVal t A c, .int .i64 most] w fun e w' => e = .returned (.bool false) ∧ Ext w w' := by
  have HOP := fun W (x : Ext w W) => Lib.hid (operator_any (h.go x) t A c _ (ht.ext x))
  rw [hr] at HOP
  obtain ⟨⟨pp, hb⟩, ⟨tb, m1, m2, hop, _⟩, _, _⟩ := id h
  have d2 : w.cell? ⟨b, 2, none⟩ = some (.pointer (some ⟨tb, 0, none⟩)) := by rw [← hop]; exact hb.blk.cell 2
  have hS := fun (W : World) (x : Ext w W) => Lib.hid (WStep.ext (b := b) (v := v) x)
  have hq : ((t.s.toList == [123, 125]) = false) ∨ ((t.s.toList == [123, 125]) = true ∧ ((t.l.length : Int) == 1) = false) := by
    by_cases hs : t.s.data.toList = [123, 125]
    · right
      refine ⟨by rw [ByteArray.toList_eq]; simpa using hs, ?_⟩
      have := of_decide_eq_false hnb
      simpa using (show ¬ (t.l.length : Int) = 1 from fun e => this ⟨hs, by omega⟩)
    · exact .inl (lit_ne hs)
  unfold tmVal at HOP ⊢
  generalize t.l.length = m at *
  generalize t.k = k at *
  generalize t.n = n at *
  generalize t.s = s at *
  clear h ht hb hr hnb hop
  rcases hq with s2 | ⟨s2, q1⟩
  · go_enter Tryz.func46, Tryz.ntmps46
    go_upto_region 1 with fail
    refine wp_abs (fun V => Hid (Blk V (w.heap.size + 1) 27 #[.int .i64 k, .int .i64 n, .string s, .slice A m c]) ∧ Hid (Blk V w.heap.size 49 #[.pointer (some ⟨b, 0, none⟩)]) ∧ Hid (Ext w V)) ⟨blk2b, (Blk.new w _ _).alloc _, ((Ext.refl w).alloc _).alloc _⟩ ?_
    rintro V ⟨H4, H3, HV⟩
    have z0 : V.cell? ⟨w.heap.size, 0, none⟩ = some (.pointer (some ⟨b, 0, none⟩)) := H3.out.cell 0
    have y0 : V.cell? ⟨w.heap.size + 1, 0, none⟩ = some (.int .i64 k) := H4.out.cell 0
    have y1 : V.cell? ⟨w.heap.size + 1, 1, none⟩ = some (.int .i64 n) := H4.out.cell 1
    have y2 : V.cell? ⟨w.heap.size + 1, 2, none⟩ = some (.string s) := H4.out.cell 2
    have y3 : V.cell? ⟨w.heap.size + 1, 3, none⟩ = some (.slice A m c) := H4.out.cell 3
    have d2 := HV.out.cell d2
    go_upto_region 9 with (go_at_call 73; refine (HOP _ HV.out).out.mono ?_; simp only [Option.getD, Option.isSome, opVal_eq, zeroO]; rintro e V3 ⟨rfl, hx⟩; have HV3 := Lib.hid (HV.out.trans hx); have H43 := Lib.hid (H4.out.ext hx); have H33 := Lib.hid (H3.out.ext hx); clear hx)
    refine wp_abs (fun V4 => Hid (Blk V4 V3.heap.size 73 #[.int .i64 0, .int .i64 0, .string ⟨#[]⟩]) ∧ Hid (Blk V4 (w.heap.size + 1) 27 #[.int .i64 k, .int .i64 n, .string s, .slice A m c]) ∧ Hid (Blk V4 w.heap.size 49 #[.pointer (some ⟨b, 0, none⟩)]) ∧ Hid (Ext w V4)) ⟨Blk.new V3 _ _, H43.out.alloc _, H33.out.alloc _, HV3.out.alloc _⟩ ?_
    rintro V4 ⟨H7, H44, H34, HV4⟩
    have hg7 : w.heap.size ≤ V3.heap.size := HV3.out.size
    clear z0 y0 y1 y2 y3 d2 HV HV3 H4 H3 H43 H33 HOP
    have z0 : V4.cell? ⟨w.heap.size, 0, none⟩ = some (.pointer (some ⟨b, 0, none⟩)) := H34.out.cell 0
    have y3 : V4.cell? ⟨w.heap.size + 1, 3, none⟩ = some (.slice A m c) := H44.out.cell 3
    have p0 : V4.cell? ⟨V3.heap.size, 0, none⟩ = some (.int .i64 0) := H7.out.cell 0
    go_wp2_with fail
    go_ret
    exact ⟨rfl, HV4.out⟩
  · go_enter Tryz.func46, Tryz.ntmps46
    go_upto_region 1 with fail
    refine wp_abs (fun V => Hid (Blk V (w.heap.size + 1) 27 #[.int .i64 k, .int .i64 n, .string s, .slice A m c]) ∧ Hid (Blk V w.heap.size 49 #[.pointer (some ⟨b, 0, none⟩)]) ∧ Hid (Ext w V)) ⟨blk2b, (Blk.new w _ _).alloc _, ((Ext.refl w).alloc _).alloc _⟩ ?_
    rintro V ⟨H4, H3, HV⟩
    have z0 : V.cell? ⟨w.heap.size, 0, none⟩ = some (.pointer (some ⟨b, 0, none⟩)) := H3.out.cell 0
    have y0 : V.cell? ⟨w.heap.size + 1, 0, none⟩ = some (.int .i64 k) := H4.out.cell 0
    have y1 : V.cell? ⟨w.heap.size + 1, 1, none⟩ = some (.int .i64 n) := H4.out.cell 1
    have y2 : V.cell? ⟨w.heap.size + 1, 2, none⟩ = some (.string s) := H4.out.cell 2
    have y3 : V.cell? ⟨w.heap.size + 1, 3, none⟩ = some (.slice A m c) := H4.out.cell 3
    have d2 := HV.out.cell d2
    go_upto_region 9 with (go_at_call 73; refine (HOP _ HV.out).out.mono ?_; simp only [Option.getD, Option.isSome, opVal_eq, zeroO]; rintro e V3 ⟨rfl, hx⟩; have HV3 := Lib.hid (HV.out.trans hx); have H43 := Lib.hid (H4.out.ext hx); have H33 := Lib.hid (H3.out.ext hx); clear hx)
    refine wp_abs (fun V4 => Hid (Blk V4 V3.heap.size 73 #[.int .i64 0, .int .i64 0, .string ⟨#[]⟩]) ∧ Hid (Blk V4 (w.heap.size + 1) 27 #[.int .i64 k, .int .i64 n, .string s, .slice A m c]) ∧ Hid (Blk V4 w.heap.size 49 #[.pointer (some ⟨b, 0, none⟩)]) ∧ Hid (Ext w V4)) ⟨Blk.new V3 _ _, H43.out.alloc _, H33.out.alloc _, HV3.out.alloc _⟩ ?_
    rintro V4 ⟨H7, H44, H34, HV4⟩
    have hg7 : w.heap.size ≤ V3.heap.size := HV3.out.size
    clear z0 y0 y1 y2 y3 d2 HV HV3 H4 H3 H43 H33 HOP
    have z0 : V4.cell? ⟨w.heap.size, 0, none⟩ = some (.pointer (some ⟨b, 0, none⟩)) := H34.out.cell 0
    have y3 : V4.cell? ⟨w.heap.size + 1, 3, none⟩ = some (.slice A m c) := H44.out.cell 3
    have p0 : V4.cell? ⟨V3.heap.size, 0, none⟩ = some (.int .i64 0) := H7.out.cell 0
    go_wp2_with fail
    go_ret
    exact ⟨rfl, HV4.out⟩

set_option maxRecDepth 100000 in
set_option maxHeartbeats 8000000 in
theorem operated_one (N : Nat) (IH : TermC N) (t : Tm) (hN : szT t ≤ N + 1) (hm : mayT t = true) (hnb : isBraces t.s t.l.length = false) (base : Nat) (w : World) (b : Nat) (v : Value) (F : List UInt8) (I Q : List OpV) (op : Value) (p : OpV) (hr : oprT I Q t = some p) (a : Tm) (hla : t.l = [a]) (hpp : -1000000 ≤ p.p ∧ p.p ≤ 1000000) (most : Int) (A : Option Addr) (c : Nat) (h : WrSt base w b v F (some (I, Q)) op) (he : EnvIn w b v) (ht : TmIn (Clr w b v) w t A c) (hl : F.length + 400 * szT t ≤ 800000000) :
    Calls Tryz.prog 46 #[.pointer (some ⟨b, 0, none⟩), tmVal t A c, .int .i64 most] w fun e w' => e = .returned (.bool true) ∧ WrPost base w b v F (brk (decide (most < p.p)) (quoF t.s.data.toList ++ [32] ++ brk (bareT (some (I, Q)) a) (txT (some (I, Q)) a (rightI p.p p.t)))) (some (I, Q)) op w' := by
  have HOP := fun W (x : Ext w W) => Lib.hid (operator_any (h.go x) t A c _ (ht.ext x))
  rw [hr] at HOP
  have hXl : ((quoF t.s.data.toList ++ [32] ++ brk (bareT (some (I, Q)) a) (txT (some (I, Q)) a (rightI p.p p.t)))).length + 50 ≤ 400 * szT t := by
    have hs64 : t.s.size ≤ 64 := by
      have := (mayT_iff.1 hm).1
      cases t with
      | mk k n s l =>
        simp only [okT, Bool.and_eq_true] at this
        exact (part_bd this.1).2.2
    have hsz := szT_lt (t := t) (j := 0) (u := a) (by rw [hla]; rfl)
    have hma : mayT a = true := mayT_get hm (j := 0) (by rw [hla]; rfl)
    have l2 := txT_le (some (I, Q)) a (rightI p.p p.t) (mayT_iff.1 hma).1
    have l3 := quoF_le t.s.data.toList
    have l3e : t.s.data.toList.length = t.s.size := by simp
    have l5 := brk_le (bareT (some (I, Q)) a) (txT (some (I, Q)) a (rightI p.p p.t))
    simp only [List.length_append, List.length_cons, List.length_nil]
    omega
  have hf : ∀ args W, (callFunc 77 args).run Tryz.prog W = .ok (.enter 77 args) W := enters_of Tryz.func77 (by kernel_rfl) rfl
  have HW := fun (W : World) (x : Ext w W) (g7 : Nat) (hg : w.heap.size ≤ g7) (br : Bool) (h3 : Blk W w.heap.size 49 #[.pointer (some ⟨b, 0, none⟩)]) (h4 : Blk W (w.heap.size + 1) 27 #[.int .i64 t.k, .int .i64 t.n, .string t.s, .slice A t.l.length c]) (h5 : Blk W g7 73 #[.int .i64 p.p, .int .i64 p.t, .string p.s]) => Lib.hid (within_any (h.go x) br 77 #[.pointer (some ⟨w.heap.size, 0, none⟩), .pointer (some ⟨w.heap.size + 1, 0, none⟩), .pointer (some ⟨g7, 0, none⟩)] (quoF t.s.data.toList ++ [32] ++ brk (bareT (some (I, Q)) a) (txT (some (I, Q)) a (rightI p.p p.t))) (by omega) hf (fun w1 v1 F1 k1 k2 k3 => by
    have g3 := h3.mods k2.mods (new_clr h (Nat.le_refl _) h3.lt).no
    have g4 := h4.mods k2.mods (new_clr h (by omega) h4.lt).no
    have g5 := h5.mods k2.mods (new_clr h hg h5.lt).no
    exact opFn2_any N IH t a hN hm hla base w1 b v1 F1 I Q op p A c _ _ _ k1 ((he.step (WStep.ext x)).step k2) (k2.tm ((WStep.ext x).tm ht)) (by omega) hpp (g3.cell 0) (g4.cell 0) (g4.cell 1) (g4.cell 2) (g4.cell 3) (g5.cell 0) (g5.cell 1) (g5.cell 2)))
  obtain ⟨⟨pp, hb⟩, ⟨tb, m1, m2, hop, _⟩, _, _⟩ := id h
  have d2 : w.cell? ⟨b, 2, none⟩ = some (.pointer (some ⟨tb, 0, none⟩)) := by rw [← hop]; exact hb.blk.cell 2
  have hS := fun (W : World) (x : Ext w W) => Lib.hid (WStep.ext (b := b) (v := v) x)
  have hq : ((t.s.toList == [123, 125]) = false) ∨ ((t.s.toList == [123, 125]) = true ∧ ((t.l.length : Int) == 1) = false) := by
    by_cases hs : t.s.data.toList = [123, 125]
    · right
      refine ⟨by rw [ByteArray.toList_eq]; simpa using hs, ?_⟩
      have := of_decide_eq_false hnb
      simpa using (show ¬ (t.l.length : Int) = 1 from fun e => this ⟨hs, by omega⟩)
    · exact .inl (lit_ne hs)
  have q2 : ((t.l.length : Int) == 2) = false := by rw [hla]; rfl
  unfold tmVal at HOP ⊢
  generalize (quoF t.s.data.toList ++ [32] ++ brk (bareT (some (I, Q)) a) (txT (some (I, Q)) a (rightI p.p p.t))) = X at *
  clear hla
  generalize t.l.length = m at *
  generalize t.k = k at *
  generalize t.n = n at *
  generalize t.s = s at *
  clear h he ht hb hr hm hnb hop hl
  generalize hbr : decide (most < p.p) = br
  rcases hq with s2 | ⟨s2, q1⟩
  · go_enter Tryz.func46, Tryz.ntmps46
    go_upto_region 1 with fail
    refine wp_abs (fun V => Hid (Blk V (w.heap.size + 1) 27 #[.int .i64 k, .int .i64 n, .string s, .slice A m c]) ∧ Hid (Blk V w.heap.size 49 #[.pointer (some ⟨b, 0, none⟩)]) ∧ Hid (Ext w V)) ⟨blk2b, (Blk.new w _ _).alloc _, ((Ext.refl w).alloc _).alloc _⟩ ?_
    rintro V ⟨H4, H3, HV⟩
    have z0 : V.cell? ⟨w.heap.size, 0, none⟩ = some (.pointer (some ⟨b, 0, none⟩)) := H3.out.cell 0
    have y0 : V.cell? ⟨w.heap.size + 1, 0, none⟩ = some (.int .i64 k) := H4.out.cell 0
    have y1 : V.cell? ⟨w.heap.size + 1, 1, none⟩ = some (.int .i64 n) := H4.out.cell 1
    have y2 : V.cell? ⟨w.heap.size + 1, 2, none⟩ = some (.string s) := H4.out.cell 2
    have y3 : V.cell? ⟨w.heap.size + 1, 3, none⟩ = some (.slice A m c) := H4.out.cell 3
    have d2 := HV.out.cell d2
    go_upto_region 9 with (go_at_call 73; refine (HOP _ HV.out).out.mono ?_; simp only [Option.getD, Option.isSome, opVal_eq]; rintro e V3 ⟨rfl, hx⟩; have HV3 := Lib.hid (HV.out.trans hx); have H43 := Lib.hid (H4.out.ext hx); have H33 := Lib.hid (H3.out.ext hx); clear hx)
    refine wp_abs (fun V4 => Hid (Blk V4 V3.heap.size 73 #[.int .i64 p.p, .int .i64 p.t, .string p.s]) ∧ Hid (Blk V4 (w.heap.size + 1) 27 #[.int .i64 k, .int .i64 n, .string s, .slice A m c]) ∧ Hid (Blk V4 w.heap.size 49 #[.pointer (some ⟨b, 0, none⟩)]) ∧ Hid (Ext w V4)) ⟨Blk.new V3 _ _, H43.out.alloc _, H33.out.alloc _, HV3.out.alloc _⟩ ?_
    rintro V4 ⟨H7, H44, H34, HV4⟩
    have hg7 : w.heap.size ≤ V3.heap.size := HV3.out.size
    clear z0 y0 y1 y2 y3 d2 HV HV3 H4 H3 H43 H33 HOP
    have z0 : V4.cell? ⟨w.heap.size, 0, none⟩ = some (.pointer (some ⟨b, 0, none⟩)) := H34.out.cell 0
    have y3 : V4.cell? ⟨w.heap.size + 1, 3, none⟩ = some (.slice A m c) := H44.out.cell 3
    have p0 : V4.cell? ⟨V3.heap.size, 0, none⟩ = some (.int .i64 p.p) := H7.out.cell 0
    by_cases hmo : most < p.p
    · obtain rfl : br = true := by rw [← hbr]; exact decide_eq_true hmo
      clear hbr
      go_wp2_with (go_at_call 74; refine (HW _ HV4.out _ hg7 true H34.out H44.out H7.out).out.mono ?_; rintro e w5 ⟨rfl, v5, h5, s5⟩; have K5 := Lib.hid h5; have S5 := Lib.hid ((hS _ HV4.out).out.trans s5); clear h5 s5)
      go_ret
      exact ⟨rfl, v5, K5.out, S5.out⟩
    · obtain rfl : br = false := by rw [← hbr]; exact decide_eq_false hmo
      clear hbr
      go_wp2_with (go_at_call 74; refine (HW _ HV4.out _ hg7 false H34.out H44.out H7.out).out.mono ?_; rintro e w5 ⟨rfl, v5, h5, s5⟩; have K5 := Lib.hid h5; have S5 := Lib.hid ((hS _ HV4.out).out.trans s5); clear h5 s5)
      go_ret
      exact ⟨rfl, v5, K5.out, S5.out⟩
  · go_enter Tryz.func46, Tryz.ntmps46
    go_upto_region 1 with fail
    refine wp_abs (fun V => Hid (Blk V (w.heap.size + 1) 27 #[.int .i64 k, .int .i64 n, .string s, .slice A m c]) ∧ Hid (Blk V w.heap.size 49 #[.pointer (some ⟨b, 0, none⟩)]) ∧ Hid (Ext w V)) ⟨blk2b, (Blk.new w _ _).alloc _, ((Ext.refl w).alloc _).alloc _⟩ ?_
    rintro V ⟨H4, H3, HV⟩
    have z0 : V.cell? ⟨w.heap.size, 0, none⟩ = some (.pointer (some ⟨b, 0, none⟩)) := H3.out.cell 0
    have y0 : V.cell? ⟨w.heap.size + 1, 0, none⟩ = some (.int .i64 k) := H4.out.cell 0
    have y1 : V.cell? ⟨w.heap.size + 1, 1, none⟩ = some (.int .i64 n) := H4.out.cell 1
    have y2 : V.cell? ⟨w.heap.size + 1, 2, none⟩ = some (.string s) := H4.out.cell 2
    have y3 : V.cell? ⟨w.heap.size + 1, 3, none⟩ = some (.slice A m c) := H4.out.cell 3
    have d2 := HV.out.cell d2
    go_upto_region 9 with (go_at_call 73; refine (HOP _ HV.out).out.mono ?_; simp only [Option.getD, Option.isSome, opVal_eq]; rintro e V3 ⟨rfl, hx⟩; have HV3 := Lib.hid (HV.out.trans hx); have H43 := Lib.hid (H4.out.ext hx); have H33 := Lib.hid (H3.out.ext hx); clear hx)
    refine wp_abs (fun V4 => Hid (Blk V4 V3.heap.size 73 #[.int .i64 p.p, .int .i64 p.t, .string p.s]) ∧ Hid (Blk V4 (w.heap.size + 1) 27 #[.int .i64 k, .int .i64 n, .string s, .slice A m c]) ∧ Hid (Blk V4 w.heap.size 49 #[.pointer (some ⟨b, 0, none⟩)]) ∧ Hid (Ext w V4)) ⟨Blk.new V3 _ _, H43.out.alloc _, H33.out.alloc _, HV3.out.alloc _⟩ ?_
    rintro V4 ⟨H7, H44, H34, HV4⟩
    have hg7 : w.heap.size ≤ V3.heap.size := HV3.out.size
    clear z0 y0 y1 y2 y3 d2 HV HV3 H4 H3 H43 H33 HOP
    have z0 : V4.cell? ⟨w.heap.size, 0, none⟩ = some (.pointer (some ⟨b, 0, none⟩)) := H34.out.cell 0
    have y3 : V4.cell? ⟨w.heap.size + 1, 3, none⟩ = some (.slice A m c) := H44.out.cell 3
    have p0 : V4.cell? ⟨V3.heap.size, 0, none⟩ = some (.int .i64 p.p) := H7.out.cell 0
    by_cases hmo : most < p.p
    · obtain rfl : br = true := by rw [← hbr]; exact decide_eq_true hmo
      clear hbr
      go_wp2_with (go_at_call 74; refine (HW _ HV4.out _ hg7 true H34.out H44.out H7.out).out.mono ?_; rintro e w5 ⟨rfl, v5, h5, s5⟩; have K5 := Lib.hid h5; have S5 := Lib.hid ((hS _ HV4.out).out.trans s5); clear h5 s5)
      go_ret
      exact ⟨rfl, v5, K5.out, S5.out⟩
    · obtain rfl : br = false := by rw [← hbr]; exact decide_eq_false hmo
      clear hbr
      go_wp2_with (go_at_call 74; refine (HW _ HV4.out _ hg7 false H34.out H44.out H7.out).out.mono ?_; rintro e w5 ⟨rfl, v5, h5, s5⟩; have K5 := Lib.hid h5; have S5 := Lib.hid ((hS _ HV4.out).out.trans s5); clear h5 s5)
      go_ret
      exact ⟨rfl, v5, K5.out, S5.out⟩

set_option maxRecDepth 100000 in
set_option maxHeartbeats 8000000 in
theorem operated_two (N : Nat) (IH : TermC N) (t : Tm) (hN : szT t ≤ N + 1) (hm : mayT t = true) (hnb : isBraces t.s t.l.length = false) (base : Nat) (w : World) (b : Nat) (v : Value) (F : List UInt8) (I Q : List OpV) (op : Value) (p : OpV) (hr : oprT I Q t = some p) (a d : Tm) (hla : t.l = [a, d]) (hpp : -1000000 ≤ p.p ∧ p.p ≤ 1000000) (most : Int) (A : Option Addr) (c : Nat) (h : WrSt base w b v F (some (I, Q)) op) (he : EnvIn w b v) (ht : TmIn (Clr w b v) w t A c) (hl : F.length + 400 * szT t ≤ 800000000) :
    Calls Tryz.prog 46 #[.pointer (some ⟨b, 0, none⟩), tmVal t A c, .int .i64 most] w fun e w' => e = .returned (.bool true) ∧ WrPost base w b v F (brk (decide (most < p.p)) (brk (bareT (some (I, Q)) a) (txT (some (I, Q)) a (leftF I Q p t.l)) ++ midF t.s ++ brk (bareT (some (I, Q)) d) (txT (some (I, Q)) d (rightI p.p p.t)))) (some (I, Q)) op w' := by
  have HOP := fun W (x : Ext w W) => Lib.hid (operator_any (h.go x) t A c _ (ht.ext x))
  rw [hr] at HOP
  have hXl : ((brk (bareT (some (I, Q)) a) (txT (some (I, Q)) a (leftF I Q p t.l)) ++ midF t.s ++ brk (bareT (some (I, Q)) d) (txT (some (I, Q)) d (rightI p.p p.t)))).length + 50 ≤ 400 * szT t := by
    have hs64 : t.s.size ≤ 64 := by
      have := (mayT_iff.1 hm).1
      cases t with
      | mk k n s l =>
        simp only [okT, Bool.and_eq_true] at this
        exact (part_bd this.1).2.2
    have hsz : szT t = 1 + (szT a + szT d) := by
      cases t with
      | mk k n s l =>
        simp only [Tm.l] at hla
        subst hla
        simp [szT, szL]
    have hma : mayT a = true := mayT_get hm (j := 0) (by rw [hla]; rfl)
    have hmd : mayT d = true := mayT_get hm (j := 1) (by rw [hla]; rfl)
    have l1 := txT_le (some (I, Q)) a (leftF I Q p t.l) (mayT_iff.1 hma).1
    have l2 := txT_le (some (I, Q)) d (rightI p.p p.t) (mayT_iff.1 hmd).1
    have l3 := midF_le hs64
    have l4 := brk_le (bareT (some (I, Q)) a) (txT (some (I, Q)) a (leftF I Q p t.l))
    have l5 := brk_le (bareT (some (I, Q)) d) (txT (some (I, Q)) d (rightI p.p p.t))
    simp only [List.length_append]
    omega
  have hf : ∀ args W, (callFunc 75 args).run Tryz.prog W = .ok (.enter 75 args) W := enters_of Tryz.func75 (by kernel_rfl) rfl
  have HW := fun (W : World) (x : Ext w W) (g7 : Nat) (hg : w.heap.size ≤ g7) (br : Bool) (h3 : Blk W w.heap.size 49 #[.pointer (some ⟨b, 0, none⟩)]) (h4 : Blk W (w.heap.size + 1) 27 #[.int .i64 t.k, .int .i64 t.n, .string t.s, .slice A t.l.length c]) (h5 : Blk W g7 73 #[.int .i64 p.p, .int .i64 p.t, .string p.s]) => Lib.hid (within_any (h.go x) br 75 #[.pointer (some ⟨w.heap.size, 0, none⟩), .pointer (some ⟨w.heap.size + 1, 0, none⟩), .pointer (some ⟨g7, 0, none⟩)] (brk (bareT (some (I, Q)) a) (txT (some (I, Q)) a (leftF I Q p t.l)) ++ midF t.s ++ brk (bareT (some (I, Q)) d) (txT (some (I, Q)) d (rightI p.p p.t))) (by omega) hf (fun w1 v1 F1 k1 k2 k3 => by
    have g3 := h3.mods k2.mods (new_clr h (Nat.le_refl _) h3.lt).no
    have g4 := h4.mods k2.mods (new_clr h (by omega) h4.lt).no
    have g5 := h5.mods k2.mods (new_clr h hg h5.lt).no
    exact opFn1_any N IH t a d hN hm hla base w1 b v1 F1 I Q op p A c _ _ _ k1 ((he.step (WStep.ext x)).step k2) (k2.tm ((WStep.ext x).tm ht)) (by omega) hpp (g3.cell 0) (g4.cell 0) (g4.cell 1) (g4.cell 2) (g4.cell 3) (g5.cell 0) (g5.cell 1) (g5.cell 2)))
  obtain ⟨⟨pp, hb⟩, ⟨tb, m1, m2, hop, _⟩, _, _⟩ := id h
  have d2 : w.cell? ⟨b, 2, none⟩ = some (.pointer (some ⟨tb, 0, none⟩)) := by rw [← hop]; exact hb.blk.cell 2
  have hS := fun (W : World) (x : Ext w W) => Lib.hid (WStep.ext (b := b) (v := v) x)
  have hq : ((t.s.toList == [123, 125]) = false) ∨ ((t.s.toList == [123, 125]) = true ∧ ((t.l.length : Int) == 1) = false) := by
    by_cases hs : t.s.data.toList = [123, 125]
    · right
      refine ⟨by rw [ByteArray.toList_eq]; simpa using hs, ?_⟩
      have := of_decide_eq_false hnb
      simpa using (show ¬ (t.l.length : Int) = 1 from fun e => this ⟨hs, by omega⟩)
    · exact .inl (lit_ne hs)
  have q2 : ((t.l.length : Int) == 2) = true := by rw [hla]; rfl
  unfold tmVal at HOP ⊢
  generalize (brk (bareT (some (I, Q)) a) (txT (some (I, Q)) a (leftF I Q p t.l)) ++ midF t.s ++ brk (bareT (some (I, Q)) d) (txT (some (I, Q)) d (rightI p.p p.t))) = X at *
  clear hla
  generalize t.l.length = m at *
  generalize t.k = k at *
  generalize t.n = n at *
  generalize t.s = s at *
  clear h he ht hb hr hm hnb hop hl
  generalize hbr : decide (most < p.p) = br
  rcases hq with s2 | ⟨s2, q1⟩
  · go_enter Tryz.func46, Tryz.ntmps46
    go_upto_region 1 with fail
    refine wp_abs (fun V => Hid (Blk V (w.heap.size + 1) 27 #[.int .i64 k, .int .i64 n, .string s, .slice A m c]) ∧ Hid (Blk V w.heap.size 49 #[.pointer (some ⟨b, 0, none⟩)]) ∧ Hid (Ext w V)) ⟨blk2b, (Blk.new w _ _).alloc _, ((Ext.refl w).alloc _).alloc _⟩ ?_
    rintro V ⟨H4, H3, HV⟩
    have z0 : V.cell? ⟨w.heap.size, 0, none⟩ = some (.pointer (some ⟨b, 0, none⟩)) := H3.out.cell 0
    have y0 : V.cell? ⟨w.heap.size + 1, 0, none⟩ = some (.int .i64 k) := H4.out.cell 0
    have y1 : V.cell? ⟨w.heap.size + 1, 1, none⟩ = some (.int .i64 n) := H4.out.cell 1
    have y2 : V.cell? ⟨w.heap.size + 1, 2, none⟩ = some (.string s) := H4.out.cell 2
    have y3 : V.cell? ⟨w.heap.size + 1, 3, none⟩ = some (.slice A m c) := H4.out.cell 3
    have d2 := HV.out.cell d2
    go_upto_region 9 with (go_at_call 73; refine (HOP _ HV.out).out.mono ?_; simp only [Option.getD, Option.isSome, opVal_eq]; rintro e V3 ⟨rfl, hx⟩; have HV3 := Lib.hid (HV.out.trans hx); have H43 := Lib.hid (H4.out.ext hx); have H33 := Lib.hid (H3.out.ext hx); clear hx)
    refine wp_abs (fun V4 => Hid (Blk V4 V3.heap.size 73 #[.int .i64 p.p, .int .i64 p.t, .string p.s]) ∧ Hid (Blk V4 (w.heap.size + 1) 27 #[.int .i64 k, .int .i64 n, .string s, .slice A m c]) ∧ Hid (Blk V4 w.heap.size 49 #[.pointer (some ⟨b, 0, none⟩)]) ∧ Hid (Ext w V4)) ⟨Blk.new V3 _ _, H43.out.alloc _, H33.out.alloc _, HV3.out.alloc _⟩ ?_
    rintro V4 ⟨H7, H44, H34, HV4⟩
    have hg7 : w.heap.size ≤ V3.heap.size := HV3.out.size
    clear z0 y0 y1 y2 y3 d2 HV HV3 H4 H3 H43 H33 HOP
    have z0 : V4.cell? ⟨w.heap.size, 0, none⟩ = some (.pointer (some ⟨b, 0, none⟩)) := H34.out.cell 0
    have y3 : V4.cell? ⟨w.heap.size + 1, 3, none⟩ = some (.slice A m c) := H44.out.cell 3
    have p0 : V4.cell? ⟨V3.heap.size, 0, none⟩ = some (.int .i64 p.p) := H7.out.cell 0
    by_cases hmo : most < p.p
    · obtain rfl : br = true := by rw [← hbr]; exact decide_eq_true hmo
      clear hbr
      go_wp2_with (go_at_call 74; refine (HW _ HV4.out _ hg7 true H34.out H44.out H7.out).out.mono ?_; rintro e w5 ⟨rfl, v5, h5, s5⟩; have K5 := Lib.hid h5; have S5 := Lib.hid ((hS _ HV4.out).out.trans s5); clear h5 s5)
      go_ret
      exact ⟨rfl, v5, K5.out, S5.out⟩
    · obtain rfl : br = false := by rw [← hbr]; exact decide_eq_false hmo
      clear hbr
      go_wp2_with (go_at_call 74; refine (HW _ HV4.out _ hg7 false H34.out H44.out H7.out).out.mono ?_; rintro e w5 ⟨rfl, v5, h5, s5⟩; have K5 := Lib.hid h5; have S5 := Lib.hid ((hS _ HV4.out).out.trans s5); clear h5 s5)
      go_ret
      exact ⟨rfl, v5, K5.out, S5.out⟩
  · go_enter Tryz.func46, Tryz.ntmps46
    go_upto_region 1 with fail
    refine wp_abs (fun V => Hid (Blk V (w.heap.size + 1) 27 #[.int .i64 k, .int .i64 n, .string s, .slice A m c]) ∧ Hid (Blk V w.heap.size 49 #[.pointer (some ⟨b, 0, none⟩)]) ∧ Hid (Ext w V)) ⟨blk2b, (Blk.new w _ _).alloc _, ((Ext.refl w).alloc _).alloc _⟩ ?_
    rintro V ⟨H4, H3, HV⟩
    have z0 : V.cell? ⟨w.heap.size, 0, none⟩ = some (.pointer (some ⟨b, 0, none⟩)) := H3.out.cell 0
    have y0 : V.cell? ⟨w.heap.size + 1, 0, none⟩ = some (.int .i64 k) := H4.out.cell 0
    have y1 : V.cell? ⟨w.heap.size + 1, 1, none⟩ = some (.int .i64 n) := H4.out.cell 1
    have y2 : V.cell? ⟨w.heap.size + 1, 2, none⟩ = some (.string s) := H4.out.cell 2
    have y3 : V.cell? ⟨w.heap.size + 1, 3, none⟩ = some (.slice A m c) := H4.out.cell 3
    have d2 := HV.out.cell d2
    go_upto_region 9 with (go_at_call 73; refine (HOP _ HV.out).out.mono ?_; simp only [Option.getD, Option.isSome, opVal_eq]; rintro e V3 ⟨rfl, hx⟩; have HV3 := Lib.hid (HV.out.trans hx); have H43 := Lib.hid (H4.out.ext hx); have H33 := Lib.hid (H3.out.ext hx); clear hx)
    refine wp_abs (fun V4 => Hid (Blk V4 V3.heap.size 73 #[.int .i64 p.p, .int .i64 p.t, .string p.s]) ∧ Hid (Blk V4 (w.heap.size + 1) 27 #[.int .i64 k, .int .i64 n, .string s, .slice A m c]) ∧ Hid (Blk V4 w.heap.size 49 #[.pointer (some ⟨b, 0, none⟩)]) ∧ Hid (Ext w V4)) ⟨Blk.new V3 _ _, H43.out.alloc _, H33.out.alloc _, HV3.out.alloc _⟩ ?_
    rintro V4 ⟨H7, H44, H34, HV4⟩
    have hg7 : w.heap.size ≤ V3.heap.size := HV3.out.size
    clear z0 y0 y1 y2 y3 d2 HV HV3 H4 H3 H43 H33 HOP
    have z0 : V4.cell? ⟨w.heap.size, 0, none⟩ = some (.pointer (some ⟨b, 0, none⟩)) := H34.out.cell 0
    have y3 : V4.cell? ⟨w.heap.size + 1, 3, none⟩ = some (.slice A m c) := H44.out.cell 3
    have p0 : V4.cell? ⟨V3.heap.size, 0, none⟩ = some (.int .i64 p.p) := H7.out.cell 0
    by_cases hmo : most < p.p
    · obtain rfl : br = true := by rw [← hbr]; exact decide_eq_true hmo
      clear hbr
      go_wp2_with (go_at_call 74; refine (HW _ HV4.out _ hg7 true H34.out H44.out H7.out).out.mono ?_; rintro e w5 ⟨rfl, v5, h5, s5⟩; have K5 := Lib.hid h5; have S5 := Lib.hid ((hS _ HV4.out).out.trans s5); clear h5 s5)
      go_ret
      exact ⟨rfl, v5, K5.out, S5.out⟩
    · obtain rfl : br = false := by rw [← hbr]; exact decide_eq_false hmo
      clear hbr
      go_wp2_with (go_at_call 74; refine (HW _ HV4.out _ hg7 false H34.out H44.out H7.out).out.mono ?_; rintro e w5 ⟨rfl, v5, h5, s5⟩; have K5 := Lib.hid h5; have S5 := Lib.hid ((hS _ HV4.out).out.trans s5); clear h5 s5)
      go_ret
      exact ⟨rfl, v5, K5.out, S5.out⟩

end Go.Proofs.YtnedihbffiddpaaGreatDoor
