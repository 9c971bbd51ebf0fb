/- Layer 16: the walk of step. -/
import Derived.Test.YtmnnhdegoapfcaaGreatDoorP05
namespace Go.Proofs.YtmnnhdegoapfcaaGreatDoor
open Go.RowKit Go.El
structure StOk (s : InSt) : Prop where
 u0 : 0 ≤ s.uni
 u1 : s.uni ≤ 1000000
 s0 : 0 ≤ s.set
 s1 : s.set ≤ 1000000
 p : ∃ k : Nat, s.put = k ∧ k ≤ 255
set_option maxRecDepth 100000 in
set_option maxHeartbeats 1000000 in
theorem step_ended (b : Nat) (op n v a : Int) (sn : ByteArray) (s : InSt) (w : World) (h : StAt w b 102 s) (he : s.ended = true) :
  Calls Tryz.prog 54 #[.pointer (some ⟨b, 0, none⟩), insVal ⟨op, sn, n, v, a⟩] w (StPost b ((false, s)) w) := by
 obtain ⟨G, hG⟩ : ∃ G, (false, s) = G := ⟨_, rfl⟩
 rw [hG]
 have HR := Lib.hid hG
 have hx := ext_boxI w (.cells #[.int .i64 op, .string sn, .int .i64 n, .int .i64 v, .int .i64 a] 25)
 have hb := Blk.new w 25 #[.int .i64 op, .string sn, .int .i64 n, .int .i64 v, .int .i64 a]
 have HB := Lib.hid hb
 have H := Lib.hid (h.ext hx)
 have HX := Lib.hid hx
 have q0 := hb.cell 0
 have q1 := hb.cell 1
 have q2 := hb.cell 2
 have q3 := hb.cell 3
 have q4 := hb.cell 4
 have c0 := H.out.ended
 rw [he] at c0
 have c3 := H.out.uni
 have c4 := H.out.set
 unfold insVal
 clear hG h hx hb he
 go_enter Tryz.func54, Tryz.ntmps54
 go_wp2_with fail
 go_ret
 exact ⟨by rw [← HR.out]; rfl, by rw [← HR.out]; exact H.out, Mods.ext HX.out⟩
set_option maxRecDepth 100000 in
set_option maxHeartbeats 1000000 in
theorem step_uni (b : Nat) (op n v a : Int) (sn : ByteArray) (s : InSt) (w : World) (h : StAt w b 102 s) (he : s.ended = false) (h0 : 6 ≤ op) (h9 : op ≤ 9) (hv : -64 ≤ v) (hv2 : v ≤ 255) (hk : StOk s) :
  Calls Tryz.prog 54 #[.pointer (some ⟨b, 0, none⟩), insVal ⟨op, sn, n, v, a⟩] w (StPost b (s.rowU ⟨op, sn, n, v, a⟩) w) := by
 obtain ⟨G, hG⟩ : ∃ G, s.rowU ⟨op, sn, n, v, a⟩ = G := ⟨_, rfl⟩
 rw [hG]
 have HR := Lib.hid hG
 have hx := ext_boxI w (.cells #[.int .i64 op, .string sn, .int .i64 n, .int .i64 v, .int .i64 a] 25)
 have hb := Blk.new w 25 #[.int .i64 op, .string sn, .int .i64 n, .int .i64 v, .int .i64 a]
 have HB := Lib.hid hb
 have H := Lib.hid (h.ext hx)
 have HX := Lib.hid hx
 have q0 := hb.cell 0
 have q1 := hb.cell 1
 have q2 := hb.cell 2
 have q3 := hb.cell 3
 have q4 := hb.cell 4
 have c0 := H.out.ended
 rw [he] at c0
 have c3 := H.out.uni
 have c4 := H.out.set
 have g6 : 6 ≤ op := by omega
 have g9 : op ≤ 9 := by omega
 have g15 : ¬ 15 ≤ op := by omega
 have g18 : op ≤ 18 := by omega
 have g5 : ¬ op ≤ 5 := by omega
 have g14 : op ≤ 14 := by omega
 have g20 : op ≤ 20 := by omega
 have HC := fun (W : World) (x : StAt W b 102 s) => Lib.hid (rowU_any b op n v a sn s W x hv hv2 (by have := hk.u0; omega) hk.u1)
 unfold insVal at HC ⊢
 clear hG h hx hb he
 go_enter Tryz.func54, Tryz.ntmps54
 go_upto_region 4 with fail
 go_region_with (go_at_call 95; refine (HC _ (H.out.ext ((Ext.refl _).drew))).out.mono ?_; rintro e W1 ⟨rfl, h1, m1⟩)
 all_goals
  go_wp2_with fail
  go_ret
  exact ⟨by rw [← HR.out]; rfl, by rw [← HR.out]; exact h1, (Mods.ext (HX.out.drew)).trans m1⟩
set_option maxRecDepth 100000 in
set_option maxHeartbeats 1000000 in
theorem step_set (b : Nat) (op n v a : Int) (sn : ByteArray) (s : InSt) (w : World) (h : StAt w b 102 s) (he : s.ended = false) (h0 : 15 ≤ op) (h9 : op ≤ 18) (hv : -64 ≤ v) (hv2 : v ≤ 255) (hk : StOk s) :
  Calls Tryz.prog 54 #[.pointer (some ⟨b, 0, none⟩), insVal ⟨op, sn, n, v, a⟩] w (StPost b (s.rowS ⟨op, sn, n, v, a⟩) w) := by
 obtain ⟨G, hG⟩ : ∃ G, s.rowS ⟨op, sn, n, v, a⟩ = G := ⟨_, rfl⟩
 rw [hG]
 have HR := Lib.hid hG
 have hx := ext_boxI w (.cells #[.int .i64 op, .string sn, .int .i64 n, .int .i64 v, .int .i64 a] 25)
 have hb := Blk.new w 25 #[.int .i64 op, .string sn, .int .i64 n, .int .i64 v, .int .i64 a]
 have HB := Lib.hid hb
 have H := Lib.hid (h.ext hx)
 have HX := Lib.hid hx
 have q0 := hb.cell 0
 have q1 := hb.cell 1
 have q2 := hb.cell 2
 have q3 := hb.cell 3
 have q4 := hb.cell 4
 have c0 := H.out.ended
 rw [he] at c0
 have c3 := H.out.uni
 have c4 := H.out.set
 have g6 : 6 ≤ op := by omega
 have g9 : ¬ op ≤ 9 := by omega
 have g15 : 15 ≤ op := by omega
 have g18 : op ≤ 18 := by omega
 have g5 : ¬ op ≤ 5 := by omega
 have g14 : ¬ op ≤ 14 := by omega
 have g20 : op ≤ 20 := by omega
 have HC := fun (W : World) (x : StAt W b 102 s) => Lib.hid (rowS_any b op n v a sn s W x hv hv2 (by have := hk.s0; omega) hk.s1 hk.p.choose hk.p.choose_spec.1 hk.p.choose_spec.2)
 unfold insVal at HC ⊢
 clear hG h hx hb he
 go_enter Tryz.func54, Tryz.ntmps54
 go_upto_region 6 with fail
 go_region_with (go_at_call 95; refine (HC _ (H.out.ext ((Ext.refl _).drew))).out.mono ?_; rintro e W1 ⟨rfl, h1, m1⟩)
 all_goals
  go_wp2_with fail
  go_ret
  exact ⟨by rw [← HR.out]; rfl, by rw [← HR.out]; exact h1, (Mods.ext (HX.out.drew)).trans m1⟩
set_option maxRecDepth 100000 in
set_option maxHeartbeats 1000000 in
theorem step_many0 (b : Nat) (op n v a : Int) (sn : ByteArray) (s : InSt) (w : World) (h : StAt w b 102 s) (he : s.ended = false) (h0 : -1000 ≤ op) (h9 : op ≤ 5) (hk : StOk s) (hz : 0 < s.uni + s.set) :
  Calls Tryz.prog 54 #[.pointer (some ⟨b, 0, none⟩), insVal ⟨op, sn, n, v, a⟩] w (StPost b ((false, s)) w) := by
 obtain ⟨G, hG⟩ : ∃ G, (false, s) = G := ⟨_, rfl⟩
 rw [hG]
 have HR := Lib.hid hG
 have hx := ext_boxI w (.cells #[.int .i64 op, .string sn, .int .i64 n, .int .i64 v, .int .i64 a] 25)
 have hb := Blk.new w 25 #[.int .i64 op, .string sn, .int .i64 n, .int .i64 v, .int .i64 a]
 have HB := Lib.hid hb
 have H := Lib.hid (h.ext hx)
 have HX := Lib.hid hx
 have q0 := hb.cell 0
 have q1 := hb.cell 1
 have q2 := hb.cell 2
 have q3 := hb.cell 3
 have q4 := hb.cell 4
 have c0 := H.out.ended
 rw [he] at c0
 have c3 := H.out.uni
 have c4 := H.out.set
 have g6 : ¬ 6 ≤ op := by omega
 have g9 : op ≤ 9 := by omega
 have g15 : ¬ 15 ≤ op := by omega
 have g18 : op ≤ 18 := by omega
 have g5 : op ≤ 5 := by omega
 have g14 : op ≤ 14 := by omega
 have g20 : op ≤ 20 := by omega
 have e0 := hk.u0
 have e1 := hk.u1
 have e2 := hk.s0
 have e3 := hk.s1
 unfold insVal
 clear hG h hx hb he hk
 go_enter Tryz.func54, Tryz.ntmps54
 go_upto_region 7 with fail
 go_quiet (fail)
 go_wp2_with fail
 go_ret
 exact ⟨by rw [← HR.out]; rfl, by rw [← HR.out]; exact H.out.ext ((Ext.refl _).drewN _), Mods.ext (HX.out.drewN _)⟩
set_option maxRecDepth 100000 in
set_option maxHeartbeats 1000000 in
theorem step_many1 (b : Nat) (op n v a : Int) (sn : ByteArray) (s : InSt) (w : World) (h : StAt w b 102 s) (he : s.ended = false) (h0 : 10 ≤ op) (h9 : op ≤ 14) (hk : StOk s) (hz : 0 < s.uni + s.set) :
  Calls Tryz.prog 54 #[.pointer (some ⟨b, 0, none⟩), insVal ⟨op, sn, n, v, a⟩] w (StPost b ((false, s)) w) := by
 obtain ⟨G, hG⟩ : ∃ G, (false, s) = G := ⟨_, rfl⟩
 rw [hG]
 have HR := Lib.hid hG
 have hx := ext_boxI w (.cells #[.int .i64 op, .string sn, .int .i64 n, .int .i64 v, .int .i64 a] 25)
 have hb := Blk.new w 25 #[.int .i64 op, .string sn, .int .i64 n, .int .i64 v, .int .i64 a]
 have HB := Lib.hid hb
 have H := Lib.hid (h.ext hx)
 have HX := Lib.hid hx
 have q0 := hb.cell 0
 have q1 := hb.cell 1
 have q2 := hb.cell 2
 have q3 := hb.cell 3
 have q4 := hb.cell 4
 have c0 := H.out.ended
 rw [he] at c0
 have c3 := H.out.uni
 have c4 := H.out.set
 have g6 : 6 ≤ op := by omega
 have g9 : ¬ op ≤ 9 := by omega
 have g15 : ¬ 15 ≤ op := by omega
 have g18 : op ≤ 18 := by omega
 have g5 : ¬ op ≤ 5 := by omega
 have g14 : op ≤ 14 := by omega
 have g20 : op ≤ 20 := by omega
 have e0 := hk.u0
 have e1 := hk.u1
 have e2 := hk.s0
 have e3 := hk.s1
 unfold insVal
 clear hG h hx hb he hk
 go_enter Tryz.func54, Tryz.ntmps54
 go_upto_region 7 with fail
 go_quiet (fail)
 go_wp2_with fail
 go_ret
 exact ⟨by rw [← HR.out]; rfl, by rw [← HR.out]; exact H.out.ext ((Ext.refl _).drewN _), Mods.ext (HX.out.drewN _)⟩
set_option maxRecDepth 100000 in
set_option maxHeartbeats 1000000 in
theorem step_many2 (b : Nat) (op n v a : Int) (sn : ByteArray) (s : InSt) (w : World) (h : StAt w b 102 s) (he : s.ended = false) (h0 : 19 ≤ op) (h9 : op ≤ 1000) (hk : StOk s) (hz : 0 < s.uni + s.set) :
  Calls Tryz.prog 54 #[.pointer (some ⟨b, 0, none⟩), insVal ⟨op, sn, n, v, a⟩] w (StPost b ((false, s)) w) := by
 obtain ⟨G, hG⟩ : ∃ G, (false, s) = G := ⟨_, rfl⟩
 rw [hG]
 have HR := Lib.hid hG
 have hx := ext_boxI w (.cells #[.int .i64 op, .string sn, .int .i64 n, .int .i64 v, .int .i64 a] 25)
 have hb := Blk.new w 25 #[.int .i64 op, .string sn, .int .i64 n, .int .i64 v, .int .i64 a]
 have HB := Lib.hid hb
 have H := Lib.hid (h.ext hx)
 have HX := Lib.hid hx
 have q0 := hb.cell 0
 have q1 := hb.cell 1
 have q2 := hb.cell 2
 have q3 := hb.cell 3
 have q4 := hb.cell 4
 have c0 := H.out.ended
 rw [he] at c0
 have c3 := H.out.uni
 have c4 := H.out.set
 have g6 : 6 ≤ op := by omega
 have g9 : ¬ op ≤ 9 := by omega
 have g15 : 15 ≤ op := by omega
 have g18 : ¬ op ≤ 18 := by omega
 have g5 : ¬ op ≤ 5 := by omega
 have g14 : ¬ op ≤ 14 := by omega
 have e0 := hk.u0
 have e1 := hk.u1
 have e2 := hk.s0
 have e3 := hk.s1
 unfold insVal
 clear hG h hx hb he hk
 go_enter Tryz.func54, Tryz.ntmps54
 go_upto_region 7 with fail
 go_quiet (fail)
 go_wp2_with fail
 go_ret
 exact ⟨by rw [← HR.out]; rfl, by rw [← HR.out]; exact H.out.ext ((Ext.refl _).drewN _), Mods.ext (HX.out.drewN _)⟩
set_option maxRecDepth 100000 in
set_option maxHeartbeats 1000000 in
theorem step_get (b : Nat) (op n v a : Int) (sn : ByteArray) (s : InSt) (w : World) (h : StAt w b 102 s) (he : s.ended = false) (h0 : -1000 ≤ op) (h9 : op ≤ 5) (hk : StOk s) (hz : ¬ 0 < s.uni + s.set) (hv : -64 ≤ v) (hv2 : v ≤ 255) (k : Nat) (hak : a = k) (hk2 : k ≤ 255) :
  Calls Tryz.prog 54 #[.pointer (some ⟨b, 0, none⟩), insVal ⟨op, sn, n, v, a⟩] w (StPost b (s.get ⟨op, sn, n, v, a⟩) w) := by
 subst hak
 obtain ⟨G, hG⟩ : ∃ G, s.get ⟨op, sn, n, v, k⟩ = G := ⟨_, rfl⟩
 rw [hG]
 have HR := Lib.hid hG
 have hx := ext_boxI w (.cells #[.int .i64 op, .string sn, .int .i64 n, .int .i64 v, .int .i64 k] 25)
 have hb := Blk.new w 25 #[.int .i64 op, .string sn, .int .i64 n, .int .i64 v, .int .i64 k]
 have HB := Lib.hid hb
 have H := Lib.hid (h.ext hx)
 have HX := Lib.hid hx
 have q0 := hb.cell 0
 have q1 := hb.cell 1
 have q2 := hb.cell 2
 have q3 := hb.cell 3
 have q4 := hb.cell 4
 have c0 := H.out.ended
 rw [he] at c0
 have c3 := H.out.uni
 have c4 := H.out.set
 have g6 : ¬ 6 ≤ op := by omega
 have g9 : op ≤ 9 := by omega
 have g15 : ¬ 15 ≤ op := by omega
 have g18 : op ≤ 18 := by omega
 have g5 : op ≤ 5 := by omega
 have g14 : op ≤ 14 := by omega
 have g20 : op ≤ 20 := by omega
 have e0 := hk.u0
 have e1 := hk.u1
 have e2 := hk.s0
 have e3 := hk.s1
 unfold insVal
 clear hG h hx hb he
 go_enter Tryz.func54, Tryz.ntmps54
 go_upto_region 7 with fail
 go_quiet (fail)
 go_upto_region 9 with fail
 refine wp_abs (fun V => Hid (StAt V b 102 s) ∧ Hid (Blk V w.heap.size 25 #[.int .i64 op, .string sn, .int .i64 n, .int .i64 v, .int .i64 k]) ∧ Hid (Ext w V)) ⟨Lib.hid (H.out.ext ((Ext.refl _).drewN _)), HB.out.drewN _, Lib.hid (HX.out.drewN _)⟩ ?_
 clear HB H HX q0 q1 q2 q3 q4 c0 c3 c4
 rintro V ⟨H, HB, HX⟩
 have q0 : V.cell? ⟨w.heap.size, 0, none⟩ = some (.int .i64 op) := HB.out.cell 0
 have q1 : V.cell? ⟨w.heap.size, 1, none⟩ = some (.string sn) := HB.out.cell 1
 have q2 : V.cell? ⟨w.heap.size, 2, none⟩ = some (.int .i64 n) := HB.out.cell 2
 have q3 : V.cell? ⟨w.heap.size, 3, none⟩ = some (.int .i64 v) := HB.out.cell 3
 have q4 : V.cell? ⟨w.heap.size, 4, none⟩ = some (.int .i64 k) := HB.out.cell 4
 have HC := Lib.hid (get_any b op n v k sn s V H.out hk2 hv hv2)
 unfold insVal at HC
 clear hz hk
 go_wp2_with (go_at_call 96; refine HC.out.mono ?_; rintro e W1 ⟨rfl, h1, m1⟩)
 go_ret
 exact ⟨by rw [← HR.out]; try rfl, by rw [← HR.out]; exact h1, (Mods.ext HX.out).trans m1⟩
set_option maxRecDepth 100000 in
set_option maxHeartbeats 1000000 in
theorem step_store (b : Nat) (op n v a : Int) (sn : ByteArray) (s : InSt) (w : World) (h : StAt w b 102 s) (he : s.ended = false) (h0 : 10 ≤ op) (h9 : op ≤ 14) (hk : StOk s) (hz : ¬ 0 < s.uni + s.set) (hv : -64 ≤ v) (hv2 : v ≤ 255) (k : Nat) (hak : a = k) (hk2 : k ≤ 255) :
  Calls Tryz.prog 54 #[.pointer (some ⟨b, 0, none⟩), insVal ⟨op, sn, n, v, a⟩] w (StPost b (s.store ⟨op, sn, n, v, a⟩) w) := by
 subst hak
 obtain ⟨G, hG⟩ : ∃ G, s.store ⟨op, sn, n, v, k⟩ = G := ⟨_, rfl⟩
 rw [hG]
 have HR := Lib.hid hG
 have hx := ext_boxI w (.cells #[.int .i64 op, .string sn, .int .i64 n, .int .i64 v, .int .i64 k] 25)
 have hb := Blk.new w 25 #[.int .i64 op, .string sn, .int .i64 n, .int .i64 v, .int .i64 k]
 have HB := Lib.hid hb
 have H := Lib.hid (h.ext hx)
 have HX := Lib.hid hx
 have q0 := hb.cell 0
 have q1 := hb.cell 1
 have q2 := hb.cell 2
 have q3 := hb.cell 3
 have q4 := hb.cell 4
 have c0 := H.out.ended
 rw [he] at c0
 have c3 := H.out.uni
 have c4 := H.out.set
 have g6 : 6 ≤ op := by omega
 have g9 : ¬ op ≤ 9 := by omega
 have g15 : ¬ 15 ≤ op := by omega
 have g18 : op ≤ 18 := by omega
 have g5 : ¬ op ≤ 5 := by omega
 have g14 : op ≤ 14 := by omega
 have g20 : op ≤ 20 := by omega
 have e0 := hk.u0
 have e1 := hk.u1
 have e2 := hk.s0
 have e3 := hk.s1
 unfold insVal
 clear hG h hx hb he
 go_enter Tryz.func54, Tryz.ntmps54
 go_upto_region 7 with fail
 go_quiet (fail)
 go_upto_region 9 with fail
 refine wp_abs (fun V => Hid (StAt V b 102 s) ∧ Hid (Blk V w.heap.size 25 #[.int .i64 op, .string sn, .int .i64 n, .int .i64 v, .int .i64 k]) ∧ Hid (Ext w V)) ⟨Lib.hid (H.out.ext ((Ext.refl _).drewN _)), HB.out.drewN _, Lib.hid (HX.out.drewN _)⟩ ?_
 clear HB H HX q0 q1 q2 q3 q4 c0 c3 c4
 rintro V ⟨H, HB, HX⟩
 have q0 : V.cell? ⟨w.heap.size, 0, none⟩ = some (.int .i64 op) := HB.out.cell 0
 have q1 : V.cell? ⟨w.heap.size, 1, none⟩ = some (.string sn) := HB.out.cell 1
 have q2 : V.cell? ⟨w.heap.size, 2, none⟩ = some (.int .i64 n) := HB.out.cell 2
 have q3 : V.cell? ⟨w.heap.size, 3, none⟩ = some (.int .i64 v) := HB.out.cell 3
 have q4 : V.cell? ⟨w.heap.size, 4, none⟩ = some (.int .i64 k) := HB.out.cell 4
 have HC := Lib.hid (store_any b op n v k sn s V H.out hk2 hv hv2)
 unfold insVal at HC
 clear hz hk
 go_wp2_with (go_at_call 97; refine HC.out.mono ?_; rintro e W1 ⟨rfl, h1, m1⟩)
 go_ret
 exact ⟨by rw [← HR.out]; try rfl, by rw [← HR.out]; exact h1, (Mods.ext HX.out).trans m1⟩
theorem env_any (b : Nat) (op n v a : Int) (sn : ByteArray) (s : InSt) (w : World) (h : StAt w b 102 s) :
  Calls Tryz.prog 98 #[.pointer (some ⟨b, 0, none⟩), insVal ⟨op, sn, n, v, a⟩] w (StPost b (s.env ⟨op, sn, n, v, a⟩) w) := by
 by_cases ho : op = 20
 ·subst ho
  exact envD_any b n v a sn s w h
 ·exact envA_any b op n v a sn s w h ho
set_option maxRecDepth 100000 in
set_option maxHeartbeats 1000000 in
theorem step_env (b : Nat) (op n v a : Int) (sn : ByteArray) (s : InSt) (w : World) (h : StAt w b 102 s) (he : s.ended = false) (h0 : 19 ≤ op) (h9 : op ≤ 20) (hk : StOk s) (hz : ¬ 0 < s.uni + s.set) :
  Calls Tryz.prog 54 #[.pointer (some ⟨b, 0, none⟩), insVal ⟨op, sn, n, v, a⟩] w (StPost b (s.env ⟨op, sn, n, v, a⟩) w) := by
 obtain ⟨G, hG⟩ : ∃ G, s.env ⟨op, sn, n, v, a⟩ = G := ⟨_, rfl⟩
 rw [hG]
 have HR := Lib.hid hG
 have hx := ext_boxI w (.cells #[.int .i64 op, .string sn, .int .i64 n, .int .i64 v, .int .i64 a] 25)
 have hb := Blk.new w 25 #[.int .i64 op, .string sn, .int .i64 n, .int .i64 v, .int .i64 a]
 have HB := Lib.hid hb
 have H := Lib.hid (h.ext hx)
 have HX := Lib.hid hx
 have q0 := hb.cell 0
 have q1 := hb.cell 1
 have q2 := hb.cell 2
 have q3 := hb.cell 3
 have q4 := hb.cell 4
 have c0 := H.out.ended
 rw [he] at c0
 have c3 := H.out.uni
 have c4 := H.out.set
 have g6 : 6 ≤ op := by omega
 have g9 : ¬ op ≤ 9 := by omega
 have g15 : 15 ≤ op := by omega
 have g18 : ¬ op ≤ 18 := by omega
 have g5 : ¬ op ≤ 5 := by omega
 have g14 : ¬ op ≤ 14 := by omega
 have g20 : op ≤ 20 := by omega
 have e0 := hk.u0
 have e1 := hk.u1
 have e2 := hk.s0
 have e3 := hk.s1
 unfold insVal
 clear hG h hx hb he
 go_enter Tryz.func54, Tryz.ntmps54
 go_upto_region 7 with fail
 go_quiet (fail)
 go_upto_region 9 with fail
 refine wp_abs (fun V => Hid (StAt V b 102 s) ∧ Hid (Blk V w.heap.size 25 #[.int .i64 op, .string sn, .int .i64 n, .int .i64 v, .int .i64 a]) ∧ Hid (Ext w V)) ⟨Lib.hid (H.out.ext ((Ext.refl _).drewN _)), HB.out.drewN _, Lib.hid (HX.out.drewN _)⟩ ?_
 clear HB H HX q0 q1 q2 q3 q4 c0 c3 c4
 rintro V ⟨H, HB, HX⟩
 have q0 : V.cell? ⟨w.heap.size, 0, none⟩ = some (.int .i64 op) := HB.out.cell 0
 have q1 : V.cell? ⟨w.heap.size, 1, none⟩ = some (.string sn) := HB.out.cell 1
 have q2 : V.cell? ⟨w.heap.size, 2, none⟩ = some (.int .i64 n) := HB.out.cell 2
 have q3 : V.cell? ⟨w.heap.size, 3, none⟩ = some (.int .i64 v) := HB.out.cell 3
 have q4 : V.cell? ⟨w.heap.size, 4, none⟩ = some (.int .i64 a) := HB.out.cell 4
 have HC := Lib.hid (env_any b op n v a sn s V H.out)
 unfold insVal at HC
 clear hz hk
 go_wp2_with (go_at_call 98; refine HC.out.mono ?_; rintro e W1 ⟨rfl, h1, m1⟩)
 go_ret
 exact ⟨by rw [← HR.out]; try rfl, by rw [← HR.out]; exact h1, (Mods.ext HX.out).trans m1⟩
set_option maxRecDepth 100000 in
set_option maxHeartbeats 1000000 in
theorem step_level0 (b : Nat) (op n v a : Int) (sn : ByteArray) (s : InSt) (w : World) (h : StAt w b 102 s) (he : s.ended = false) (hk : StOk s) (hz : ¬ 0 < s.uni + s.set) (ho : op = 26) (hv : ¬ v < 0) :
  Calls Tryz.prog 54 #[.pointer (some ⟨b, 0, none⟩), insVal ⟨op, sn, n, v, a⟩] w (StPost b ((false, s)) w) := by
 obtain ⟨G, hG⟩ : ∃ G, (false, s) = G := ⟨_, rfl⟩
 rw [hG]
 have HR := Lib.hid hG
 have hx := ext_boxI w (.cells #[.int .i64 op, .string sn, .int .i64 n, .int .i64 v, .int .i64 a] 25)
 have hb := Blk.new w 25 #[.int .i64 op, .string sn, .int .i64 n, .int .i64 v, .int .i64 a]
 have HB := Lib.hid hb
 have H := Lib.hid (h.ext hx)
 have HX := Lib.hid hx
 have q0 := hb.cell 0
 have q1 := hb.cell 1
 have q2 := hb.cell 2
 have q3 := hb.cell 3
 have q4 := hb.cell 4
 have c0 := H.out.ended
 rw [he] at c0
 have c3 := H.out.uni
 have c4 := H.out.set
 have g6 : 6 ≤ op := by omega
 have g9 : ¬ op ≤ 9 := by omega
 have g15 : 15 ≤ op := by omega
 have g18 : ¬ op ≤ 18 := by omega
 have g5 : ¬ op ≤ 5 := by omega
 have g14 : ¬ op ≤ 14 := by omega
 have g20 : ¬ op ≤ 20 := by omega
 have e0 := hk.u0
 have e1 := hk.u1
 have e2 := hk.s0
 have e3 := hk.s1
 unfold insVal
 clear hG h hx hb he
 have p26 : (op == 26) = true := by simp; omega
 have p27 : (op == 27) = false := by simp; omega
 have p29 : (op == 29) = false := by simp; omega
 have p28 : (op == 28) = false := by simp; omega
 clear ho
 go_enter Tryz.func54, Tryz.ntmps54
 go_upto_region 7 with fail
 go_quiet (fail)
 go_upto_region 9 with fail
 refine wp_abs (fun V => Hid (StAt V b 102 s) ∧ Hid (Blk V w.heap.size 25 #[.int .i64 op, .string sn, .int .i64 n, .int .i64 v, .int .i64 a]) ∧ Hid (Ext w V)) ⟨Lib.hid (H.out.ext ((Ext.refl _).drewN _)), HB.out.drewN _, Lib.hid (HX.out.drewN _)⟩ ?_
 clear HB H HX q0 q1 q2 q3 q4 c0 c3 c4
 rintro V ⟨H, HB, HX⟩
 have q0 : V.cell? ⟨w.heap.size, 0, none⟩ = some (.int .i64 op) := HB.out.cell 0
 have q1 : V.cell? ⟨w.heap.size, 1, none⟩ = some (.string sn) := HB.out.cell 1
 have q2 : V.cell? ⟨w.heap.size, 2, none⟩ = some (.int .i64 n) := HB.out.cell 2
 have q3 : V.cell? ⟨w.heap.size, 3, none⟩ = some (.int .i64 v) := HB.out.cell 3
 have q4 : V.cell? ⟨w.heap.size, 4, none⟩ = some (.int .i64 a) := HB.out.cell 4
 clear hz hk
 go_wp2_with (fail)
 go_ret
 exact ⟨by rw [← HR.out]; try rfl, by rw [← HR.out]; exact H.out, Mods.ext HX.out⟩
set_option maxRecDepth 100000 in
set_option maxHeartbeats 1000000 in
theorem step_level (b : Nat) (op n v a : Int) (sn : ByteArray) (s : InSt) (w : World) (h : StAt w b 102 s) (he : s.ended = false) (hk : StOk s) (hz : ¬ 0 < s.uni + s.set) (ho : op = 26) (hv : -64 ≤ v) (hv2 : v ≤ 255) (hvn : v < 0) :
  Calls Tryz.prog 54 #[.pointer (some ⟨b, 0, none⟩), insVal ⟨op, sn, n, v, a⟩] w (StPost b (s.learn v) w) := by
 obtain ⟨G, hG⟩ : ∃ G, s.learn v = G := ⟨_, rfl⟩
 rw [hG]
 have HR := Lib.hid hG
 have hx := ext_boxI w (.cells #[.int .i64 op, .string sn, .int .i64 n, .int .i64 v, .int .i64 a] 25)
 have hb := Blk.new w 25 #[.int .i64 op, .string sn, .int .i64 n, .int .i64 v, .int .i64 a]
 have HB := Lib.hid hb
 have H := Lib.hid (h.ext hx)
 have HX := Lib.hid hx
 have q0 := hb.cell 0
 have q1 := hb.cell 1
 have q2 := hb.cell 2
 have q3 := hb.cell 3
 have q4 := hb.cell 4
 have c0 := H.out.ended
 rw [he] at c0
 have c3 := H.out.uni
 have c4 := H.out.set
 have g6 : 6 ≤ op := by omega
 have g9 : ¬ op ≤ 9 := by omega
 have g15 : 15 ≤ op := by omega
 have g18 : ¬ op ≤ 18 := by omega
 have g5 : ¬ op ≤ 5 := by omega
 have g14 : ¬ op ≤ 14 := by omega
 have g20 : ¬ op ≤ 20 := by omega
 have e0 := hk.u0
 have e1 := hk.u1
 have e2 := hk.s0
 have e3 := hk.s1
 unfold insVal
 clear hG h hx hb he
 have p26 : (op == 26) = true := by simp; omega
 have p27 : (op == 27) = false := by simp; omega
 have p29 : (op == 29) = false := by simp; omega
 have p28 : (op == 28) = false := by simp; omega
 clear ho
 go_enter Tryz.func54, Tryz.ntmps54
 go_upto_region 7 with fail
 go_quiet (fail)
 go_upto_region 9 with fail
 refine wp_abs (fun V => Hid (StAt V b 102 s) ∧ Hid (Blk V w.heap.size 25 #[.int .i64 op, .string sn, .int .i64 n, .int .i64 v, .int .i64 a]) ∧ Hid (Ext w V)) ⟨Lib.hid (H.out.ext ((Ext.refl _).drewN _)), HB.out.drewN _, Lib.hid (HX.out.drewN _)⟩ ?_
 clear HB H HX q0 q1 q2 q3 q4 c0 c3 c4
 rintro V ⟨H, HB, HX⟩
 have q0 : V.cell? ⟨w.heap.size, 0, none⟩ = some (.int .i64 op) := HB.out.cell 0
 have q1 : V.cell? ⟨w.heap.size, 1, none⟩ = some (.string sn) := HB.out.cell 1
 have q2 : V.cell? ⟨w.heap.size, 2, none⟩ = some (.int .i64 n) := HB.out.cell 2
 have q3 : V.cell? ⟨w.heap.size, 3, none⟩ = some (.int .i64 v) := HB.out.cell 3
 have q4 : V.cell? ⟨w.heap.size, 4, none⟩ = some (.int .i64 a) := HB.out.cell 4
 have HC := Lib.hid (learn_any b v s V H.out hv hv2)
 clear hz hk
 go_wp2_with (go_at_call 99; refine HC.out.mono ?_; rintro e W1 ⟨rfl, h1, m1⟩)
 go_ret
 exact ⟨by rw [← HR.out]; try rfl, by rw [← HR.out]; exact h1, (Mods.ext HX.out).trans m1⟩
set_option maxRecDepth 100000 in
set_option maxHeartbeats 1000000 in
theorem step_here (b : Nat) (op n v a : Int) (sn : ByteArray) (s : InSt) (w : World) (h : StAt w b 102 s) (he : s.ended = false) (hk : StOk s) (hz : ¬ 0 < s.uni + s.set) (ho : op = 27) (hv : -64 ≤ v) (hv2 : v ≤ 255) :
  Calls Tryz.prog 54 #[.pointer (some ⟨b, 0, none⟩), insVal ⟨op, sn, n, v, a⟩] w (StPost b (s.learn v) w) := by
 obtain ⟨G, hG⟩ : ∃ G, s.learn v = G := ⟨_, rfl⟩
 rw [hG]
 have HR := Lib.hid hG
 have hx := ext_boxI w (.cells #[.int .i64 op, .string sn, .int .i64 n, .int .i64 v, .int .i64 a] 25)
 have hb := Blk.new w 25 #[.int .i64 op, .string sn, .int .i64 n, .int .i64 v, .int .i64 a]
 have HB := Lib.hid hb
 have H := Lib.hid (h.ext hx)
 have HX := Lib.hid hx
 have q0 := hb.cell 0
 have q1 := hb.cell 1
 have q2 := hb.cell 2
 have q3 := hb.cell 3
 have q4 := hb.cell 4
 have c0 := H.out.ended
 rw [he] at c0
 have c3 := H.out.uni
 have c4 := H.out.set
 have g6 : 6 ≤ op := by omega
 have g9 : ¬ op ≤ 9 := by omega
 have g15 : 15 ≤ op := by omega
 have g18 : ¬ op ≤ 18 := by omega
 have g5 : ¬ op ≤ 5 := by omega
 have g14 : ¬ op ≤ 14 := by omega
 have g20 : ¬ op ≤ 20 := by omega
 have e0 := hk.u0
 have e1 := hk.u1
 have e2 := hk.s0
 have e3 := hk.s1
 unfold insVal
 clear hG h hx hb he
 have p26 : (op == 26) = false := by simp; omega
 have p27 : (op == 27) = true := by simp; omega
 have p29 : (op == 29) = false := by simp; omega
 have p28 : (op == 28) = false := by simp; omega
 clear ho
 go_enter Tryz.func54, Tryz.ntmps54
 go_upto_region 7 with fail
 go_quiet (fail)
 go_upto_region 9 with fail
 refine wp_abs (fun V => Hid (StAt V b 102 s) ∧ Hid (Blk V w.heap.size 25 #[.int .i64 op, .string sn, .int .i64 n, .int .i64 v, .int .i64 a]) ∧ Hid (Ext w V)) ⟨Lib.hid (H.out.ext ((Ext.refl _).drewN _)), HB.out.drewN _, Lib.hid (HX.out.drewN _)⟩ ?_
 clear HB H HX q0 q1 q2 q3 q4 c0 c3 c4
 rintro V ⟨H, HB, HX⟩
 have q0 : V.cell? ⟨w.heap.size, 0, none⟩ = some (.int .i64 op) := HB.out.cell 0
 have q1 : V.cell? ⟨w.heap.size, 1, none⟩ = some (.string sn) := HB.out.cell 1
 have q2 : V.cell? ⟨w.heap.size, 2, none⟩ = some (.int .i64 n) := HB.out.cell 2
 have q3 : V.cell? ⟨w.heap.size, 3, none⟩ = some (.int .i64 v) := HB.out.cell 3
 have q4 : V.cell? ⟨w.heap.size, 4, none⟩ = some (.int .i64 a) := HB.out.cell 4
 have HC := Lib.hid (learn_any b v s V H.out hv hv2)
 clear hz hk
 go_wp2_with (go_at_call 99; refine HC.out.mono ?_; rintro e W1 ⟨rfl, h1, m1⟩)
 go_ret
 exact ⟨by rw [← HR.out]; try rfl, by rw [← HR.out]; exact h1, (Mods.ext HX.out).trans m1⟩
set_option maxRecDepth 100000 in
set_option maxHeartbeats 1000000 in
theorem step_cut0 (b : Nat) (op n v a : Int) (sn : ByteArray) (s : InSt) (w : World) (h : StAt w b 102 s) (he : s.ended = false) (hk : StOk s) (hz : ¬ 0 < s.uni + s.set) (ho : op = 29) (hv : ¬ v < 0) :
  Calls Tryz.prog 54 #[.pointer (some ⟨b, 0, none⟩), insVal ⟨op, sn, n, v, a⟩] w (StPost b ((false, s)) w) := by
 obtain ⟨G, hG⟩ : ∃ G, (false, s) = G := ⟨_, rfl⟩
 rw [hG]
 have HR := Lib.hid hG
 have hx := ext_boxI w (.cells #[.int .i64 op, .string sn, .int .i64 n, .int .i64 v, .int .i64 a] 25)
 have hb := Blk.new w 25 #[.int .i64 op, .string sn, .int .i64 n, .int .i64 v, .int .i64 a]
 have HB := Lib.hid hb
 have H := Lib.hid (h.ext hx)
 have HX := Lib.hid hx
 have q0 := hb.cell 0
 have q1 := hb.cell 1
 have q2 := hb.cell 2
 have q3 := hb.cell 3
 have q4 := hb.cell 4
 have c0 := H.out.ended
 rw [he] at c0
 have c3 := H.out.uni
 have c4 := H.out.set
 have g6 : 6 ≤ op := by omega
 have g9 : ¬ op ≤ 9 := by omega
 have g15 : 15 ≤ op := by omega
 have g18 : ¬ op ≤ 18 := by omega
 have g5 : ¬ op ≤ 5 := by omega
 have g14 : ¬ op ≤ 14 := by omega
 have g20 : ¬ op ≤ 20 := by omega
 have e0 := hk.u0
 have e1 := hk.u1
 have e2 := hk.s0
 have e3 := hk.s1
 unfold insVal
 clear hG h hx hb he
 have p26 : (op == 26) = false := by simp; omega
 have p27 : (op == 27) = false := by simp; omega
 have p29 : (op == 29) = true := by simp; omega
 have p28 : (op == 28) = false := by simp; omega
 clear ho
 go_enter Tryz.func54, Tryz.ntmps54
 go_upto_region 7 with fail
 go_quiet (fail)
 go_upto_region 9 with fail
 refine wp_abs (fun V => Hid (StAt V b 102 s) ∧ Hid (Blk V w.heap.size 25 #[.int .i64 op, .string sn, .int .i64 n, .int .i64 v, .int .i64 a]) ∧ Hid (Ext w V)) ⟨Lib.hid (H.out.ext ((Ext.refl _).drewN _)), HB.out.drewN _, Lib.hid (HX.out.drewN _)⟩ ?_
 clear HB H HX q0 q1 q2 q3 q4 c0 c3 c4
 rintro V ⟨H, HB, HX⟩
 have q0 : V.cell? ⟨w.heap.size, 0, none⟩ = some (.int .i64 op) := HB.out.cell 0
 have q1 : V.cell? ⟨w.heap.size, 1, none⟩ = some (.string sn) := HB.out.cell 1
 have q2 : V.cell? ⟨w.heap.size, 2, none⟩ = some (.int .i64 n) := HB.out.cell 2
 have q3 : V.cell? ⟨w.heap.size, 3, none⟩ = some (.int .i64 v) := HB.out.cell 3
 have q4 : V.cell? ⟨w.heap.size, 4, none⟩ = some (.int .i64 a) := HB.out.cell 4
 clear hz hk
 go_wp2_with (fail)
 go_ret
 exact ⟨by rw [← HR.out]; try rfl, by rw [← HR.out]; exact H.out, Mods.ext HX.out⟩
set_option maxRecDepth 100000 in
set_option maxHeartbeats 1000000 in
theorem step_cut (b : Nat) (op n v a : Int) (sn : ByteArray) (s : InSt) (w : World) (h : StAt w b 102 s) (he : s.ended = false) (hk : StOk s) (hz : ¬ 0 < s.uni + s.set) (ho : op = 29) (hv : -64 ≤ v) (hv2 : v ≤ 255) (hvn : v < 0) :
  Calls Tryz.prog 54 #[.pointer (some ⟨b, 0, none⟩), insVal ⟨op, sn, n, v, a⟩] w (StPost b ((s.known v, s)) w) := by
 obtain ⟨G, hG⟩ : ∃ G, (s.known v, s) = G := ⟨_, rfl⟩
 rw [hG]
 have HR := Lib.hid hG
 have hx := ext_boxI w (.cells #[.int .i64 op, .string sn, .int .i64 n, .int .i64 v, .int .i64 a] 25)
 have hb := Blk.new w 25 #[.int .i64 op, .string sn, .int .i64 n, .int .i64 v, .int .i64 a]
 have HB := Lib.hid hb
 have H := Lib.hid (h.ext hx)
 have HX := Lib.hid hx
 have q0 := hb.cell 0
 have q1 := hb.cell 1
 have q2 := hb.cell 2
 have q3 := hb.cell 3
 have q4 := hb.cell 4
 have c0 := H.out.ended
 rw [he] at c0
 have c3 := H.out.uni
 have c4 := H.out.set
 have g6 : 6 ≤ op := by omega
 have g9 : ¬ op ≤ 9 := by omega
 have g15 : 15 ≤ op := by omega
 have g18 : ¬ op ≤ 18 := by omega
 have g5 : ¬ op ≤ 5 := by omega
 have g14 : ¬ op ≤ 14 := by omega
 have g20 : ¬ op ≤ 20 := by omega
 have e0 := hk.u0
 have e1 := hk.u1
 have e2 := hk.s0
 have e3 := hk.s1
 unfold insVal
 clear hG h hx hb he
 have p26 : (op == 26) = false := by simp; omega
 have p27 : (op == 27) = false := by simp; omega
 have p29 : (op == 29) = true := by simp; omega
 have p28 : (op == 28) = false := by simp; omega
 clear ho
 go_enter Tryz.func54, Tryz.ntmps54
 go_upto_region 7 with fail
 go_quiet (fail)
 go_upto_region 9 with fail
 refine wp_abs (fun V => Hid (StAt V b 102 s) ∧ Hid (Blk V w.heap.size 25 #[.int .i64 op, .string sn, .int .i64 n, .int .i64 v, .int .i64 a]) ∧ Hid (Ext w V)) ⟨Lib.hid (H.out.ext ((Ext.refl _).drewN _)), HB.out.drewN _, Lib.hid (HX.out.drewN _)⟩ ?_
 clear HB H HX q0 q1 q2 q3 q4 c0 c3 c4
 rintro V ⟨H, HB, HX⟩
 have q0 : V.cell? ⟨w.heap.size, 0, none⟩ = some (.int .i64 op) := HB.out.cell 0
 have q1 : V.cell? ⟨w.heap.size, 1, none⟩ = some (.string sn) := HB.out.cell 1
 have q2 : V.cell? ⟨w.heap.size, 2, none⟩ = some (.int .i64 n) := HB.out.cell 2
 have q3 : V.cell? ⟨w.heap.size, 3, none⟩ = some (.int .i64 v) := HB.out.cell 3
 have q4 : V.cell? ⟨w.heap.size, 4, none⟩ = some (.int .i64 a) := HB.out.cell 4
 have HC := Lib.hid (known_any b v s V H.out hv hv2)
 clear hz hk
 go_wp2_with (go_at_call 100; refine HC.out.mono ?_; rintro e W1 ⟨rfl, rfl⟩)
 go_ret
 exact ⟨by rw [← HR.out]; try rfl, by rw [← HR.out]; exact H.out, Mods.ext HX.out⟩
set_option maxRecDepth 100000 in
set_option maxHeartbeats 1000000 in
theorem step_neck (b : Nat) (op n v a : Int) (sn : ByteArray) (s : InSt) (w : World) (h : StAt w b 102 s) (he : s.ended = false) (hk : StOk s) (hz : ¬ 0 < s.uni + s.set) (ho : op = 28) :
  Calls Tryz.prog 54 #[.pointer (some ⟨b, 0, none⟩), insVal ⟨op, sn, n, v, a⟩] w (StPost b ((!s.calls, s)) w) := by
 obtain ⟨G, hG⟩ : ∃ G, (!s.calls, s) = G := ⟨_, rfl⟩
 rw [hG]
 have HR := Lib.hid hG
 have hx := ext_boxI w (.cells #[.int .i64 op, .string sn, .int .i64 n, .int .i64 v, .int .i64 a] 25)
 have hb := Blk.new w 25 #[.int .i64 op, .string sn, .int .i64 n, .int .i64 v, .int .i64 a]
 have HB := Lib.hid hb
 have H := Lib.hid (h.ext hx)
 have HX := Lib.hid hx
 have q0 := hb.cell 0
 have q1 := hb.cell 1
 have q2 := hb.cell 2
 have q3 := hb.cell 3
 have q4 := hb.cell 4
 have c0 := H.out.ended
 rw [he] at c0
 have c3 := H.out.uni
 have c4 := H.out.set
 have g6 : 6 ≤ op := by omega
 have g9 : ¬ op ≤ 9 := by omega
 have g15 : 15 ≤ op := by omega
 have g18 : ¬ op ≤ 18 := by omega
 have g5 : ¬ op ≤ 5 := by omega
 have g14 : ¬ op ≤ 14 := by omega
 have g20 : ¬ op ≤ 20 := by omega
 have e0 := hk.u0
 have e1 := hk.u1
 have e2 := hk.s0
 have e3 := hk.s1
 unfold insVal
 clear hG h hx hb he
 have p26 : (op == 26) = false := by simp; omega
 have p27 : (op == 27) = false := by simp; omega
 have p29 : (op == 29) = false := by simp; omega
 have p28 : (op == 28) = true := by simp; omega
 clear ho
 go_enter Tryz.func54, Tryz.ntmps54
 go_upto_region 7 with fail
 go_quiet (fail)
 go_upto_region 9 with fail
 refine wp_abs (fun V => Hid (StAt V b 102 s) ∧ Hid (Blk V w.heap.size 25 #[.int .i64 op, .string sn, .int .i64 n, .int .i64 v, .int .i64 a]) ∧ Hid (Ext w V)) ⟨Lib.hid (H.out.ext ((Ext.refl _).drewN _)), HB.out.drewN _, Lib.hid (HX.out.drewN _)⟩ ?_
 clear HB H HX q0 q1 q2 q3 q4 c0 c3 c4
 rintro V ⟨H, HB, HX⟩
 have q0 : V.cell? ⟨w.heap.size, 0, none⟩ = some (.int .i64 op) := HB.out.cell 0
 have q1 : V.cell? ⟨w.heap.size, 1, none⟩ = some (.string sn) := HB.out.cell 1
 have q2 : V.cell? ⟨w.heap.size, 2, none⟩ = some (.int .i64 n) := HB.out.cell 2
 have q3 : V.cell? ⟨w.heap.size, 3, none⟩ = some (.int .i64 v) := HB.out.cell 3
 have q4 : V.cell? ⟨w.heap.size, 4, none⟩ = some (.int .i64 a) := HB.out.cell 4
 have c6 := H.out.calls
 clear hz hk
 go_wp2_with (fail)
 go_ret
 exact ⟨by rw [← HR.out]; try rfl, by rw [← HR.out]; exact H.out, Mods.ext HX.out⟩
set_option maxRecDepth 100000 in
set_option maxHeartbeats 1000000 in
theorem step_flow (b : Nat) (op n v a : Int) (sn : ByteArray) (s : InSt) (w : World) (h : StAt w b 102 s) (he : s.ended = false) (h0 : 21 ≤ op) (h9 : op ≤ 1000) (hk : StOk s) (hz : ¬ 0 < s.uni + s.set) (hq : FlowOk op n a) (n26 : ¬ op = 26) (n27 : ¬ op = 27) (n28 : ¬ op = 28) (n29 : ¬ op = 29) :
  Calls Tryz.prog 54 #[.pointer (some ⟨b, 0, none⟩), insVal ⟨op, sn, n, v, a⟩] w (StPost b (s.flow ⟨op, sn, n, v, a⟩) w) := by
 obtain ⟨G, hG⟩ : ∃ G, s.flow ⟨op, sn, n, v, a⟩ = G := ⟨_, rfl⟩
 rw [hG]
 have HR := Lib.hid hG
 have hx := ext_boxI w (.cells #[.int .i64 op, .string sn, .int .i64 n, .int .i64 v, .int .i64 a] 25)
 have hb := Blk.new w 25 #[.int .i64 op, .string sn, .int .i64 n, .int .i64 v, .int .i64 a]
 have HB := Lib.hid hb
 have H := Lib.hid (h.ext hx)
 have HX := Lib.hid hx
 have q0 := hb.cell 0
 have q1 := hb.cell 1
 have q2 := hb.cell 2
 have q3 := hb.cell 3
 have q4 := hb.cell 4
 have c0 := H.out.ended
 rw [he] at c0
 have c3 := H.out.uni
 have c4 := H.out.set
 have g6 : 6 ≤ op := by omega
 have g9 : ¬ op ≤ 9 := by omega
 have g15 : 15 ≤ op := by omega
 have g18 : ¬ op ≤ 18 := by omega
 have g5 : ¬ op ≤ 5 := by omega
 have g14 : ¬ op ≤ 14 := by omega
 have g20 : ¬ op ≤ 20 := by omega
 have e0 := hk.u0
 have e1 := hk.u1
 have e2 := hk.s0
 have e3 := hk.s1
 unfold insVal
 clear hG h hx hb he
 have p26 : (op == 26) = false := by simp; omega
 have p27 : (op == 27) = false := by simp; omega
 have p29 : (op == 29) = false := by simp; omega
 have p28 : (op == 28) = false := by simp; omega
 clear n26 n27 n28 n29
 go_enter Tryz.func54, Tryz.ntmps54
 go_upto_region 7 with fail
 go_quiet (fail)
 go_upto_region 9 with fail
 refine wp_abs (fun V => Hid (StAt V b 102 s) ∧ Hid (Blk V w.heap.size 25 #[.int .i64 op, .string sn, .int .i64 n, .int .i64 v, .int .i64 a]) ∧ Hid (Ext w V)) ⟨Lib.hid (H.out.ext ((Ext.refl _).drewN _)), HB.out.drewN _, Lib.hid (HX.out.drewN _)⟩ ?_
 clear HB H HX q0 q1 q2 q3 q4 c0 c3 c4
 rintro V ⟨H, HB, HX⟩
 have q0 : V.cell? ⟨w.heap.size, 0, none⟩ = some (.int .i64 op) := HB.out.cell 0
 have q1 : V.cell? ⟨w.heap.size, 1, none⟩ = some (.string sn) := HB.out.cell 1
 have q2 : V.cell? ⟨w.heap.size, 2, none⟩ = some (.int .i64 n) := HB.out.cell 2
 have q3 : V.cell? ⟨w.heap.size, 3, none⟩ = some (.int .i64 v) := HB.out.cell 3
 have q4 : V.cell? ⟨w.heap.size, 4, none⟩ = some (.int .i64 a) := HB.out.cell 4
 have HC := Lib.hid (flow_any b op n v a sn s V H.out hq)
 unfold insVal at HC
 clear hz hk
 go_wp2_with (go_at_call 101; refine HC.out.mono ?_; rintro e W1 ⟨rfl, h1, m1⟩)
 go_ret
 exact ⟨by rw [← HR.out]; try rfl, by rw [← HR.out]; exact h1, (Mods.ext HX.out).trans m1⟩
structure InsOk (i : Ins) : Prop where
 o0 : 1 ≤ i.op
 o1 : i.op ≤ 30
 v0 : -64 ≤ i.v
 v1 : i.v ≤ 255
 a : i.op ≤ 5 ∨ 10 ≤ i.op ∧ i.op ≤ 14 → 1 ≤ i.a ∧ i.a ≤ 255
 f : FlowOk i.op i.n i.a
theorem step_any (b : Nat) (i : Ins) (s : InSt) (w : World) (h : StAt w b 102 s) (hk : StOk s) (hi : InsOk i) :
  Calls Tryz.prog 54 #[.pointer (some ⟨b, 0, none⟩), insVal i] w (StPost b (s.step i) w) := by
 obtain ⟨op, sn, n, v, a⟩ := i
 have h1 := hi.o0
 have h2 := hi.o1
 have hv := hi.v0
 have hv2 := hi.v1
 have ha := hi.a
 have hf := hi.f
 clear hi
 dsimp only at h1 h2 hv hv2 ha hf
 cases he : s.ended
 ·unfold InSt.step
  simp only [he, Bool.false_eq_true, if_false]
  by_cases c1 : 6 ≤ op ∧ op ≤ 9
  ·rw [if_pos c1]
   exact step_uni b op n v a sn s w h he c1.1 c1.2 hv hv2 hk
  rw [if_neg c1]
  by_cases c2 : 15 ≤ op ∧ op ≤ 18
  ·rw [if_pos c2]
   exact step_set b op n v a sn s w h he c2.1 c2.2 hv hv2 hk
  rw [if_neg c2]
  by_cases c3 : 0 < s.uni + s.set
  ·rw [if_pos c3]
   by_cases d1 : op ≤ 5
   ·exact step_many0 b op n v a sn s w h he (by omega) d1 hk c3
   ·by_cases d2 : op ≤ 14
    ·exact step_many1 b op n v a sn s w h he (by omega) d2 hk c3
    ·exact step_many2 b op n v a sn s w h he (by omega) (by omega) hk c3
  rw [if_neg c3]
  by_cases c4 : op ≤ 5
  ·rw [if_pos c4]
   obtain ⟨ha1, ha2⟩ := ha (.inl c4)
   obtain ⟨k, rfl⟩ : ∃ k : Nat, a = k := ⟨a.toNat, by omega⟩
   exact step_get b op n v k sn s w h he (by omega) c4 hk c3 hv hv2 k rfl (by omega)
  rw [if_neg c4]
  by_cases c5 : op ≤ 14
  ·rw [if_pos c5]
   obtain ⟨ha1, ha2⟩ := ha (.inr ⟨by omega, c5⟩)
   obtain ⟨k, rfl⟩ : ∃ k : Nat, a = k := ⟨a.toNat, by omega⟩
   exact step_store b op n v k sn s w h he (by omega) c5 hk c3 hv hv2 k rfl (by omega)
  rw [if_neg c5]
  by_cases c6 : op ≤ 20
  ·rw [if_pos c6]
   exact step_env b op n v a sn s w h he (by omega) c6 hk c3
  rw [if_neg c6]
  by_cases c7 : op = 26
  ·rw [if_pos c7]
   by_cases d : v < 0
   ·rw [if_pos d]
    exact step_level b op n v a sn s w h he hk c3 c7 hv hv2 d
   ·rw [if_neg d]
    exact step_level0 b op n v a sn s w h he hk c3 c7 d
  rw [if_neg c7]
  by_cases c8 : op = 27
  ·rw [if_pos c8]
   exact step_here b op n v a sn s w h he hk c3 c8 hv hv2
  rw [if_neg c8]
  by_cases c9 : op = 29
  ·rw [if_pos c9]
   by_cases d : v < 0
   ·rw [decide_eq_true d, Bool.true_and]
    exact step_cut b op n v a sn s w h he hk c3 c9 hv hv2 d
   ·rw [decide_eq_false d, Bool.false_and]
    exact step_cut0 b op n v a sn s w h he hk c3 c9 d
  rw [if_neg c9]
  by_cases c10 : op = 28
  ·rw [if_pos c10]
   exact step_neck b op n v a sn s w h he hk c3 c10
  rw [if_neg c10]
  exact step_flow b op n v a sn s w h he (by omega) (by omega) hk c3 hf c7 c8 c10 c9
 ·unfold InSt.step
  rw [if_pos he]
  exact step_ended b op n v a sn s w h he
end Go.Proofs.YtmnnhdegoapfcaaGreatDoor
