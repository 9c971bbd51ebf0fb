/- Layer 11, the program: the walk of beside, with its closure. -/
import Derived.Test.YtnedihbffiddpaaGreatDoorW15
namespace Go.Proofs.YtnedihbffiddpaaGreatDoor
open Go.RowKit Go.El

set_option maxRecDepth 100000 in
set_option maxHeartbeats 2000000 in
theorem besideFn_any (N : Nat) (IH : TermC N) (t : Tm) (hN : szT t ≤ N) (hm : mayT t = true) (base : Nat) (w : World) (b : Nat) (v : Value) (F : List UInt8) (o : OpsV) (op : Value) (most : Int) (A : Option Addr) (c g3 g4 g5 : Nat) (h : WrSt base w b v F o op) (he : EnvIn w b v) (ht : TmIn (Clr w b v) w t A c) (hl : F.length + 400 * szT t ≤ 800000000) (hm1 : -9000000000000000000 ≤ most) (hm2 : most ≤ 9000000000000000000)
    (b3 : w.cell? ⟨g3, 0, none⟩ = some (.pointer (some ⟨b, 0, none⟩))) (c0 : w.cell? ⟨g4, 0, none⟩ = some (.int .i64 t.k)) (c1 : w.cell? ⟨g4, 1, none⟩ = some (.int .i64 t.n)) (c2 : w.cell? ⟨g4, 2, none⟩ = some (.string t.s)) (c3 : w.cell? ⟨g4, 3, none⟩ = some (.slice A t.l.length c)) (b5 : w.cell? ⟨g5, 0, none⟩ = some (.int .i64 most)) :
    Calls Tryz.prog 115 #[.pointer (some ⟨g3, 0, none⟩), .pointer (some ⟨g4, 0, none⟩), .pointer (some ⟨g5, 0, none⟩)] w fun e w' => e = .returned (.tuple #[]) ∧ WrPost base w b v F (txT o t most) o op w' := by
  have HT := Lib.hid (IH t hN hm base w b v F o op most A c h he ht hl hm1 hm2)
  unfold tmVal at HT
  clear h he ht
  go_enter Tryz.func115, Tryz.ntmps115
  go_wp2_with (go_at_call 26; refine HT.out.mono ?_; rintro e w1 ⟨rfl, h1⟩; have H1 := Lib.hid h1; clear h1)
  go_end0
  exact ⟨rfl, H1.out⟩

theorem blk3b {w : World} {t1 t2 t3 : TypeId} {cs cs2 cs3 : Array Value} : Blk (((w.alloc (.cells cs t1)).alloc (.cells cs2 t2)).alloc (.cells cs3 t3)) (w.heap.size + 1 + 1) t3 cs3 := by
  have := Blk.new ((w.alloc (.cells cs t1)).alloc (.cells cs2 t2)) t3 cs3
  rw [World.size_alloc, World.size_alloc] at this
  exact this
theorem blk2c {w : World} {t1 t2 : TypeId} {o : Obj} {cs cs2 : Array Value} : Blk (((w.alloc (.cells cs t1)).alloc (.cells cs2 t2)).alloc o) (w.heap.size + 1) t2 cs2 := by
  have := (Blk.new (w.alloc (.cells cs t1)) t2 cs2).alloc o
  rw [World.size_alloc] at this
  exact this

set_option maxRecDepth 100000 in
set_option maxHeartbeats 8000000 in
theorem beside_any (N : Nat) (IH : TermC N) (t : Tm) (hN : szT t ≤ N) (hm : mayT t = true) (base : Nat) (w : World) (b : Nat) (v : Value) (F : List UInt8) (o : OpsV) (op : Value) (most : Int) (A : Option Addr) (c : Nat) (h : WrSt base w b v F o op) (he : EnvIn w b v) (ht : TmIn (Clr w b v) w t A c) (hl : F.length + 400 * szT t + 2 ≤ 800000000) (hm1 : -9000000000000000000 ≤ most) (hm2 : most ≤ 9000000000000000000) :
    Calls Tryz.prog 102 #[.pointer (some ⟨b, 0, none⟩), tmVal t A c, .int .i64 most] w fun e w' => e = .returned (.tuple #[]) ∧ WrPost base w b v F (brk (bareT o t) (txT o t most)) o op w' := by
  have hlx := txT_le o t most (mayT_iff.1 hm).1
  have hf : ∀ args W, (callFunc 115 args).run Tryz.prog W = .ok (.enter 115 args) W := enters_of Tryz.func115 (by kernel_rfl) rfl
  have HW := fun (W : World) (x : Ext w W) (br : Bool) (h3 : Blk W w.heap.size 49 #[.pointer (some ⟨b, 0, none⟩)]) (h4 : Blk W (w.heap.size + 1) 27 #[.int .i64 t.k, .int .i64 t.n, .string t.s, .slice A t.l.length c]) (h5 : Blk W (w.heap.size + 1 + 1) 3 #[.int .i64 most]) => Lib.hid (within_any (h.go x) br 115 #[.pointer (some ⟨w.heap.size, 0, none⟩), .pointer (some ⟨w.heap.size + 1, 0, none⟩), .pointer (some ⟨w.heap.size + 1 + 1, 0, none⟩)] (txT o t most) (by omega) hf (fun w1 v1 F1 k1 k2 k3 => by
    have g3 := h3.mods k2.mods (new_clr h (Nat.le_refl _) h3.lt).no
    have g4 := h4.mods k2.mods (new_clr h (by omega) h4.lt).no
    have g5 := h5.mods k2.mods (new_clr h (by omega) h5.lt).no
    exact besideFn_any N IH t hN hm base w1 b v1 F1 o op most A c _ _ _ k1 ((he.step (WStep.ext x)).step k2) (k2.tm ((WStep.ext x).tm ht)) (by omega) hm1 hm2 (g3.cell 0) (g4.cell 0) (g4.cell 1) (g4.cell 2) (g4.cell 3) (g5.cell 0)))
  have HI := fun (W : World) (x : Ext w W) => Lib.hid (wis_any (h.go x) t.s)
  have hbare : bareT o t = ((t.k == 3 && isOp o t.s) || (t.k == 2 && decide (t.n < 0))) := rfl
  rw [hbare]
  have hS := fun (W : World) (x : Ext w W) => Lib.hid (WStep.ext (b := b) (v := v) x)
  unfold tmVal
  clear h he ht hbare
  generalize t.k = k at *
  generalize t.n = n at *
  generalize t.s = s at *
  generalize t.l.length = m at *
  generalize txT o t most = X at *
  generalize isOp o s = io at *
  generalize hbv : ((k == 3 && io) || (k == 2 && decide (n < 0))) = bb
  go_enter Tryz.func102, Tryz.ntmps102
  go_upto_region 1 with fail
  refine wp_abs (fun V => Hid (Blk V (w.heap.size + 1 + 1) 3 #[.int .i64 most]) ∧ Hid (Blk V (w.heap.size + 1) 27 #[.int .i64 k, .int .i64 n, .string s, .slice A m c]) ∧ Hid (Blk V w.heap.size 49 #[.pointer (some ⟨b, 0, none⟩)]) ∧ Hid (Ext w V)) ⟨blk3b, blk2c, ((Blk.new w _ _).alloc _).alloc _, (((Ext.refl w).alloc _).alloc _).alloc _⟩ ?_
  rintro V ⟨H5, H4, H3, HV⟩
  have z3 : V.cell? ⟨w.heap.size, 0, none⟩ = some (.pointer (some ⟨b, 0, none⟩)) := H3.out.cell 0
  have z0 : V.cell? ⟨w.heap.size + 1, 0, none⟩ = some (.int .i64 k) := H4.out.cell 0
  have z1 : V.cell? ⟨w.heap.size + 1, 1, none⟩ = some (.int .i64 n) := H4.out.cell 1
  have z2 : V.cell? ⟨w.heap.size + 1, 2, none⟩ = some (.string s) := H4.out.cell 2
  by_cases hk3 : k = 3
  · subst hk3
    cases io
    · obtain rfl : bb = false := by rw [← hbv]; simp
      clear hbv
      go_wp2_with (first | (go_at_call 114; refine (HI V HV.out).out.mono ?_; rintro e V2 ⟨rfl, hx⟩; have HV2 := Lib.hid (HV.out.trans hx); have H32 := Lib.hid (H3.out.ext hx); have H42 := Lib.hid (H4.out.ext hx); have H52 := Lib.hid (H5.out.ext hx); have y3 := hx.cell z3; have y0 := hx.cell z0; have y1 := hx.cell z1; clear hx) | (go_at_call 74; refine (HW _ HV2.out false H32.out H42.out H52.out).out.mono ?_; rintro e w4 ⟨rfl, v4, h4, s4⟩; have R4 := Lib.hid h4; have S4 := Lib.hid ((hS _ HV2.out).out.trans s4); clear h4 s4))
      go_end0
      exact ⟨rfl, v4, R4.out, S4.out⟩
    · obtain rfl : bb = true := by rw [← hbv]; simp
      clear hbv
      go_wp2_with (first | (go_at_call 114; refine (HI V HV.out).out.mono ?_; rintro e V2 ⟨rfl, hx⟩; have HV2 := Lib.hid (HV.out.trans hx); have H32 := Lib.hid (H3.out.ext hx); have H42 := Lib.hid (H4.out.ext hx); have H52 := Lib.hid (H5.out.ext hx); have y3 := hx.cell z3; have y0 := hx.cell z0; have y1 := hx.cell z1; clear hx) | (go_at_call 74; refine (HW _ HV2.out true H32.out H42.out H52.out).out.mono ?_; rintro e w4 ⟨rfl, v4, h4, s4⟩; have R4 := Lib.hid h4; have S4 := Lib.hid ((hS _ HV2.out).out.trans s4); clear h4 s4))
      go_end0
      exact ⟨rfl, v4, R4.out, S4.out⟩
  · have k3 : (k == 3) = false := by simpa using hk3
    have kF : (k = 3) = False := eq_false hk3
    clear hk3
    by_cases hk2 : k = 2
    · subst hk2
      by_cases hn : n < 0
      · obtain rfl : bb = true := by rw [← hbv]; simp [hn]
        clear hbv
        go_wp2_with (go_at_call 74; refine (HW _ HV.out true H3.out H4.out H5.out).out.mono ?_; rintro e w4 ⟨rfl, v4, h4, s4⟩; have R4 := Lib.hid h4; have S4 := Lib.hid ((hS _ HV.out).out.trans s4); clear h4 s4)
        go_end0
        exact ⟨rfl, v4, R4.out, S4.out⟩
      · obtain rfl : bb = false := by rw [← hbv]; simp [hn]
        clear hbv
        go_wp2_with (go_at_call 74; refine (HW _ HV.out false H3.out H4.out H5.out).out.mono ?_; rintro e w4 ⟨rfl, v4, h4, s4⟩; have R4 := Lib.hid h4; have S4 := Lib.hid ((hS _ HV.out).out.trans s4); clear h4 s4)
        go_end0
        exact ⟨rfl, v4, R4.out, S4.out⟩
    · have k2 : (k == 2) = false := by simpa using hk2
      have kF2 : (k = 2) = False := eq_false hk2
      clear hk2
      obtain rfl : bb = false := by rw [← hbv]; simp [k2, k3]
      clear hbv
      go_wp2_with (go_at_call 74; refine (HW _ HV.out false H3.out H4.out H5.out).out.mono ?_; rintro e w4 ⟨rfl, v4, h4, s4⟩; have R4 := Lib.hid h4; have S4 := Lib.hid ((hS _ HV.out).out.trans s4); clear h4 s4)
      go_end0
      exact ⟨rfl, v4, R4.out, S4.out⟩

end Go.Proofs.YtnedihbffiddpaaGreatDoor
