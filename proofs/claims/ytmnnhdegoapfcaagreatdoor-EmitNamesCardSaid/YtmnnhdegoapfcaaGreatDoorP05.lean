/- Layer 16: the walk of store. -/
import Derived.Test.YtmnnhdegoapfcaaGreatDoorP04
import Derived.LaidEqlPtr
namespace Go.Proofs.YtmnnhdegoapfcaaGreatDoor
open Go.RowKit Go.El
theorem st_drew {w : World} {b : Nat} {ty : TypeId} {s : InSt} (h : StAt w b ty s) : StAt w.drew b ty s := h.ext ((Ext.refl w).drew)
set_option maxRecDepth 100000 in
set_option maxHeartbeats 1000000 in
theorem store_any (b : Nat) (op n v : Int) (k : Nat) (sn : ByteArray) (s : InSt) (w : World) (h : StAt w b 102 s) (hk : k ≤ 255) (hv : -64 ≤ v) (hv2 : v ≤ 255) :
  Calls Tryz.prog 97 #[.pointer (some ⟨b, 0, none⟩), insVal ⟨op, sn, n, v, k⟩] w (StPost b (s.store ⟨op, sn, n, v, k⟩) w) := by
 obtain ⟨G, hG⟩ : ∃ G, G = s.store ⟨op, sn, n, v, k⟩ := ⟨_, rfl⟩
 have e1 : (k : Int) < 256 := by omega
 rw [← hG]
 unfold InSt.store at hG
 simp only [Int.toNat_natCast] at hG
 have HG := Lib.hid hG
 have H0 := Lib.hid h
 have hbw : b < w.heap.size := h.blk.lt
 unfold insVal
 clear hG h
 go_enter Tryz.func97, Tryz.ntmps97
 go_upto_region 2 with fail
 refine wp_abs (fun V => Hid (StAt V b 102 s) ∧ Hid (Blk V w.heap.size 25 #[.int .i64 op, .string sn, .int .i64 n, .int .i64 v, .int .i64 k]) ∧ Hid (Ext w V)) ⟨Lib.hid (H0.out.ext (ext_boxI w _)), Lib.hid (Blk.new w _ _), Lib.hid (ext_boxI w _)⟩ ?_
 rintro V ⟨H, HB, HX⟩
 have q0 : V.cell? ⟨w.heap.size, 0, none⟩ = some (.int .i64 op) := HB.out.cell 0
 have q2 : V.cell? ⟨w.heap.size, 2, none⟩ = some (.int .i64 n) := HB.out.cell 2
 have q3 : V.cell? ⟨w.heap.size, 3, none⟩ = some (.int .i64 v) := HB.out.cell 3
 have q4 : V.cell? ⟨w.heap.size, 4, none⟩ = some (.int .i64 k) := HB.out.cell 4
 by_cases o14 : op = 14
 ·subst o14
  have HR : Hid (G = (true, { s with set := n, put := k })) := HG.out
  have c3 := H.out.set
  have f3 := H.out.frozen 323
  have c4 := H.out.put
  have f4 := H.out.frozen 324
  have HS := Lib.hid (((st_drew H.out).setSet n).setPut k)
  have HS2 := Lib.hid (((st_drew H.out).setPut k).setSet n)
  go_upto_region 8 with fail
  go_region
  all_goals
   go_wp2_with fail
   go_ret
   first
    | exact ⟨by rw [HR.out]; rfl, by rw [HR.out]; exact HS.out, ((Mods.ext HX.out.drew).setCell (p := ⟨b, 323, none⟩) (.inl (by simp)) _).setCell (p := ⟨b, 324, none⟩) (.inl (by simp)) _⟩
    | exact ⟨by rw [HR.out]; rfl, by rw [HR.out]; exact HS2.out, ((Mods.ext HX.out.drew).setCell (p := ⟨b, 324, none⟩) (.inl (by simp)) _).setCell (p := ⟨b, 323, none⟩) (.inl (by simp)) _⟩
 ·have p14 : (op == 14) = false := by simpa using o14
  rw [if_neg o14] at HG
  by_cases o10 : op = 10
  ·subst o10
   have HR : Hid (G = ((s.learn v).1, { (s.learn v).2 with x := (s.learn v).2.x.set k true })) := HG.out
   have HL := Lib.hid (learn_any b v s V H.out hv hv2)
   clear o14
   go_upto_region 5 with (go_at_call 99; refine HL.out.mono ?_; rintro e W1 ⟨rfl, h1, m1⟩)
   have hb1 := HB.out.mods m1 (by simp; omega)
   have z0 : W1.cell? ⟨w.heap.size, 0, none⟩ = some (.int .i64 10) := hb1.cell 0
   have z4 : W1.cell? ⟨w.heap.size, 4, none⟩ = some (.int .i64 k) := hb1.cell 4
   have c0 := h1.x (j := k) (by omega)
   have f0 := h1.frozen k
   have HS := Lib.hid ((st_drew h1).setX (j := k) (by omega) true)
   have HM := Lib.hid ((Mods.ext HX.out).trans m1)
   clear hb1 h1 m1
   go_upto_region 10 with fail
   go_region
   all_goals
    go_wp2_with fail
    go_ret
    exact ⟨by rw [HR.out]; rfl, by rw [HR.out]; exact HS.out, (HM.out.trans (Mods.ext ((Ext.refl W1).drew))).setCell (p := ⟨b, k, none⟩) (.inl (by simp)) _⟩
  ·have p10 : (op == 10) = false := by simpa using o10
   rw [if_neg o10] at HG
   have c0 := H.out.x (j := k) (by omega)
   have f0 := H.out.frozen k
   have HS := Lib.hid ((st_drew H.out).setX (j := k) (by omega) true)
   by_cases o11 : op = 11
   ·subst o11
    have HR : Hid (G = (s.known v, { s with x := s.x.set k true })) := HG.out
    have HKN := Lib.hid (known_any b v s V H.out hv hv2)
    clear o14 o10
    go_upto_region 7 with (go_at_call 100; refine HKN.out.mono ?_; rintro e W1 ⟨rfl, rfl⟩)
    go_upto_region 10 with fail
    go_region
    all_goals
     go_wp2_with fail
     go_ret
     exact ⟨by rw [HR.out]; rfl, by rw [HR.out]; exact HS.out, (Mods.ext HX.out.drew).setCell (p := ⟨b, k, none⟩) (.inl (by simp)) _⟩
   ·have p11 : (op == 11) = false := by simpa using o11
    rw [if_neg o11] at HG
    have HR : Hid (G = (true, { s with x := s.x.set k true })) := HG.out
    clear o14 o10 o11
    go_upto_region 10 with fail
    go_region
    all_goals
     go_wp2_with fail
     go_ret
     exact ⟨by rw [HR.out]; rfl, by rw [HR.out]; exact HS.out, (Mods.ext HX.out.drew).setCell (p := ⟨b, k, none⟩) (.inl (by simp)) _⟩
end Go.Proofs.YtmnnhdegoapfcaaGreatDoor

/- Layer 16: the walk of env. -/
namespace Go.Proofs.YtmnnhdegoapfcaaGreatDoor
open Go.RowKit Go.El
theorem clrY0 {b : Nat} {s : InSt} {w : World} (h : StAt w b 102 s) (ty : TypeId) (c : Nat) : (Builtin.clear_ #[179] ty #[.slice (some ⟨b, 256, none⟩) 65 c]).run Tryz.prog w = .ok (.tuple #[]) (w.setCells b 256 (List.replicate 65 (.bool false))) :=
 clrY h ty c 0 (by omega)
set_option maxRecDepth 100000 in
set_option maxHeartbeats 1000000 in
theorem envD_any (b : Nat) (n v a : Int) (sn : ByteArray) (s : InSt) (w : World) (h : StAt w b 102 s) :
  Calls Tryz.prog 98 #[.pointer (some ⟨b, 0, none⟩), insVal ⟨20, sn, n, v, a⟩] w (StPost b (s.env ⟨20, sn, n, v, a⟩) w) := by
 obtain ⟨G, hG⟩ : ∃ G, G = s.env ⟨20, sn, n, v, a⟩ := ⟨_, rfl⟩
 rw [← hG]
 have HR : Hid (G = (decide (0 ≤ s.slots), { (s.clearY 0) with slots := -1 })) := hG
 have hx := ext_boxI w (.cells #[.int .i64 20, .string sn, .int .i64 n, .int .i64 v, .int .i64 a] 25)
 have hb := Blk.new w 25 #[.int .i64 20, .string sn, .int .i64 n, .int .i64 v, .int .i64 a]
 have h1 := h.ext hx
 have q0 := hb.cell 0
 have c2 := h1.slots
 have f2 := h1.frozen 321
 have h2 := h1.setSlots (-1)
 have hcy := fun ty => clrY0 h2 ty 65
 have h3 := h2.clearY (k := 0) (by omega)
 have hal : Tryz.prog.arrayLen 100 = 65 := by kernel_rfl
 have hM : Mods [b] w (((w.alloc (.cells #[.int .i64 20, .string sn, .int .i64 n, .int .i64 v, .int .i64 a] 25)).setCell ⟨b, 321, none⟩ (.int .i64 (-1))).setCells b 256 (List.replicate 65 (.bool false))) := Mods.setCells (by simp) _ _ _ ((Mods.ext hx).setCell (p := ⟨b, 321, none⟩) (.inl (by simp)) _)
 have HM := Lib.hid hM
 have H3 := Lib.hid h3
 simp only [Nat.add_zero, Nat.sub_zero] at H3
 generalize List.replicate 65 (Value.bool false) = Y at *
 unfold insVal
 clear hG h h1 h2 h3 hM hb
 go_enter Tryz.func98, Tryz.ntmps98
 go_wp2_with fail
 go_ret
 exact ⟨by rw [HR.out]; rfl, by rw [HR.out]; exact H3.out, HM.out⟩
set_option maxRecDepth 100000 in
set_option maxHeartbeats 1000000 in
theorem envA_any (b : Nat) (op n v a : Int) (sn : ByteArray) (s : InSt) (w : World) (h : StAt w b 102 s) (ho : ¬ op = 20) :
  Calls Tryz.prog 98 #[.pointer (some ⟨b, 0, none⟩), insVal ⟨op, sn, n, v, a⟩] w (StPost b (s.env ⟨op, sn, n, v, a⟩) w) := by
 obtain ⟨G, hG⟩ : ∃ G, G = s.env ⟨op, sn, n, v, a⟩ := ⟨_, rfl⟩
 rw [← hG]
 have HR : Hid (G = (!(decide (0 ≤ s.slots) || s.calls), { s with slots := n })) := hG.trans (if_neg ho)
 have p20 : (op == 20) = false := by simpa using ho
 have hx := ext_boxI w (.cells #[.int .i64 op, .string sn, .int .i64 n, .int .i64 v, .int .i64 a] 25)
 have hb := Blk.new w 25 #[.int .i64 op, .string sn, .int .i64 n, .int .i64 v, .int .i64 a]
 have h1 := h.ext hx
 have q0 := hb.cell 0
 have q2 := hb.cell 2
 have c2 := h1.slots
 have c6 := h1.calls
 have f2 := h1.frozen 321
 have H2 := Lib.hid (h1.setSlots n)
 have HM := Lib.hid ((Mods.ext (S := [b]) hx).setCell (p := ⟨b, 321, none⟩) (.inl (by simp)) (.int .i64 n))
 obtain ⟨cl, hcl⟩ : ∃ cl : Bool, s.calls = cl := ⟨_, rfl⟩
 rw [hcl] at HR c6 H2
 unfold insVal
 clear hG h h1 hb ho hx hcl
 by_cases hs : 0 ≤ s.slots
 ·have HQ : Hid (decide (0 ≤ s.slots) = true) := decide_eq_true hs
  go_enter Tryz.func98, Tryz.ntmps98
  go_wp2_with fail
  go_ret
  exact ⟨by rw [HR.out, HQ.out]; rfl, by rw [HR.out]; exact H2.out, HM.out⟩
 ·have HQ : Hid (decide (0 ≤ s.slots) = false) := decide_eq_false hs
  go_enter Tryz.func98, Tryz.ntmps98
  go_wp2_with fail
  go_ret
  exact ⟨by rw [HR.out, HQ.out]; rfl, by rw [HR.out]; exact H2.out, HM.out⟩
end Go.Proofs.YtmnnhdegoapfcaaGreatDoor

/- Layer 16: the walk of row at uni_. -/
namespace Go.Proofs.YtmnnhdegoapfcaaGreatDoor
open Go.RowKit Go.El
theorem intSz1 : (Tryz.prog.info? 3).map (fun i => i.size) = some 1 := by kernel_rfl
theorem intSz : ∃ j, Tryz.prog.info? 3 = some j ∧ j.size ≠ 0 := by
 have h := intSz1
 cases hi : Tryz.prog.info? 3 with
 | none => rw [hi] at h; cases h
 | some j =>
  rw [hi] at h
  exact ⟨j, rfl, by simp at h; omega⟩
theorem ptr_us {b : Nat} {s : InSt} {w : World} (h : StAt w b 102 s) : (binOp .eql 71 (.pointer (some ⟨b, 322, none⟩)) (.pointer (some ⟨b, 323, none⟩))).run Tryz.prog w = .ok (.bool false) w := by
 obtain ⟨j, h1, h2⟩ := intSz
 exact run_eql_ptr_other w Tryz.underlying71 h1 h2 (by simp) h.blk h.blk
set_option maxRecDepth 100000 in
set_option maxHeartbeats 1000000 in
theorem rowU_any (b : Nat) (op n v a : Int) (sn : ByteArray) (s : InSt) (w : World) (h : StAt w b 102 s) (hv : -64 ≤ v) (hv2 : v ≤ 255) (hu : -1000000 ≤ s.uni) (hu2 : s.uni ≤ 1000000) :
  Calls Tryz.prog 95 #[.pointer (some ⟨b, 0, none⟩), .pointer (some ⟨b, 322, none⟩), insVal ⟨op, sn, n, v, a⟩] w (StPost b (s.rowU ⟨op, sn, n, v, a⟩) w) := by
 obtain ⟨G, hG⟩ : ∃ G, G = s.rowU ⟨op, sn, n, v, a⟩ := ⟨_, rfl⟩
 rw [← hG]
 have HG := Lib.hid hG
 have hx := ext_boxI w (.cells #[.int .i64 op, .string sn, .int .i64 n, .int .i64 v, .int .i64 a] 25)
 have hb := Blk.new w 25 #[.int .i64 op, .string sn, .int .i64 n, .int .i64 v, .int .i64 a]
 have h1 := h.ext hx
 have c3 := h1.uni
 have f3 := h1.frozen 322
 have H1 := Lib.hid h1
 have H2 := Lib.hid ((h.setUni (s.uni - 1)).ext (ext_boxI _ (.cells #[.int .i64 op, .string sn, .int .i64 n, .int .i64 v, .int .i64 a] 25)))
 have HX := Lib.hid hx
 have hbw : b < w.heap.size := h.blk.lt
 have hb2 := Blk.new (w.setCell ⟨b, 322, none⟩ (.int .i64 (s.uni - 1))) 25 #[.int .i64 op, .string sn, .int .i64 n, .int .i64 v, .int .i64 a]
 rw [show (w.setCell ⟨b, 322, none⟩ (.int .i64 (s.uni - 1))).heap.size = w.heap.size by simp] at hb2
 have HB := Lib.hid hb2
 have HM := Lib.hid (((Mods.refl [b] w).setCell (p := ⟨b, 322, none⟩) (.inl (by simp)) (.int .i64 (s.uni - 1))).alloc (.cells #[.int .i64 op, .string sn, .int .i64 n, .int .i64 v, .int .i64 a] 25))
 unfold insVal
 clear hG h h1 hx hb hb2
 by_cases hz : s.uni = 0
 ·have HR : Hid (G = (false, s)) := HG.out.trans (if_pos hz)
  rw [hz] at c3
  clear hz
  go_enter Tryz.func95, Tryz.ntmps95
  go_wp2_with fail
  go_ret
  exact ⟨by rw [HR.out]; rfl, by rw [HR.out]; exact H1.out, Mods.ext HX.out⟩
 ·have hzz : (s.uni == 0) = false := by simpa using hz
  have HG2 : Hid (G = ({ s with uni := s.uni - 1 } : InSt).rowV ⟨op, sn, n, v, a⟩) := HG.out.trans (if_neg hz)
  clear HG hz
  go_enter Tryz.func95, Tryz.ntmps95
  go_upto_region 4 with fail
  refine wp_abs (fun V => Hid (StAt V b 102 { s with uni := s.uni - 1 }) ∧ Hid (Blk V w.heap.size 25 #[.int .i64 op, .string sn, .int .i64 n, .int .i64 v, .int .i64 a]) ∧ Hid (Mods [b] w V)) ⟨H2, HB, HM⟩ ?_
  clear H1 H2 HB HM HX c3 f3
  rintro V ⟨H, HB, HM⟩
  have q0 : V.cell? ⟨w.heap.size, 0, none⟩ = some (.int .i64 op) := HB.out.cell 0
  have q3 : V.cell? ⟨w.heap.size, 3, none⟩ = some (.int .i64 v) := HB.out.cell 3
  generalize ({ s with uni := s.uni - 1 } : InSt) = s2 at *
  have hp0 := ptr_us H.out
  have HL := Lib.hid (learn_any b v s2 V H.out hv hv2)
  have HKN := Lib.hid (known_any b v s2 V H.out hv hv2)
  by_cases o1 : op = 6 ∨ op = 15
  ·have HR : Hid (G = s2.learn v) := HG2.out.trans (if_pos o1)
   rcases o1 with rfl | rfl
   all_goals
    go_wp2_with (go_at_call 99; refine HL.out.mono ?_; rintro e W1 ⟨rfl, h1, m1⟩; have hp1 := ptr_us h1)
    go_ret
    exact ⟨by rw [HR.out]; rfl, by rw [HR.out]; exact h1, HM.out.trans m1⟩
  ·have p6 : (op == 6) = false := by simp; omega
   have p15 : (op == 15) = false := by simp; omega
   have HG3 := Lib.hid (HG2.out.trans (if_neg o1))
   clear HG2 o1
   by_cases o2 : op = 7 ∨ op = 16
   ·have HR : Hid (G = (s2.known v, s2)) := HG3.out.trans (if_pos o2)
    rcases o2 with rfl | rfl
    all_goals
     go_wp2_with (go_at_call 100; refine HKN.out.mono ?_; rintro e W1 ⟨rfl, rfl⟩)
     go_ret
     exact ⟨by rw [HR.out]; rfl, by rw [HR.out]; exact H.out, HM.out⟩
   ·have p7 : (op == 7) = false := by simp; omega
    have p16 : (op == 16) = false := by simp; omega
    have HR : Hid (G = (true, s2)) := HG3.out.trans (if_neg o2)
    clear HG3 o2
    go_wp2_with fail
    go_ret
    exact ⟨by rw [HR.out]; rfl, by rw [HR.out]; exact H.out, HM.out⟩
end Go.Proofs.YtmnnhdegoapfcaaGreatDoor

/- Layer 16: the walk of row at set_. -/
namespace Go.Proofs.YtmnnhdegoapfcaaGreatDoor
open Go.RowKit Go.El
theorem ptr_ss {b : Nat} (w : World) : (binOp .eql 71 (.pointer (some ⟨b, 323, none⟩)) (.pointer (some ⟨b, 323, none⟩))).run Tryz.prog w = .ok (.bool true) w := by
 obtain ⟨j, h1, _⟩ := intSz
 exact run_eql_ptr_same w _ Tryz.underlying71 h1
theorem learn_t (s : InSt) (v : Int) : (s.learn v).2.set = s.set ∧ (s.learn v).2.put = s.put := by
 unfold InSt.learn
 split
 ·exact ⟨rfl, rfl⟩
 ·split <;> exact ⟨rfl, rfl⟩
set_option maxRecDepth 100000 in
set_option maxHeartbeats 2000000 in
theorem rowS_any (b : Nat) (op n v a : Int) (sn : ByteArray) (s : InSt) (w : World) (h : StAt w b 102 s) (hv : -64 ≤ v) (hv2 : v ≤ 255) (hu : -1000000 ≤ s.set) (hu2 : s.set ≤ 1000000) (k : Nat) (hk : s.put = k) (hk2 : k ≤ 255) :
  Calls Tryz.prog 95 #[.pointer (some ⟨b, 0, none⟩), .pointer (some ⟨b, 323, none⟩), insVal ⟨op, sn, n, v, a⟩] w (StPost b (s.rowS ⟨op, sn, n, v, a⟩) w) := by
 obtain ⟨G, hG⟩ : ∃ G, G = s.rowS ⟨op, sn, n, v, a⟩ := ⟨_, rfl⟩
 rw [← hG]
 have HG := Lib.hid hG
 have hx := ext_boxI w (.cells #[.int .i64 op, .string sn, .int .i64 n, .int .i64 v, .int .i64 a] 25)
 have hb := Blk.new w 25 #[.int .i64 op, .string sn, .int .i64 n, .int .i64 v, .int .i64 a]
 have h1 := h.ext hx
 have c3 := h1.set
 have f3 := h1.frozen 323
 have H1 := Lib.hid h1
 have H2 := Lib.hid ((h.setSet (s.set - 1)).ext (ext_boxI _ (.cells #[.int .i64 op, .string sn, .int .i64 n, .int .i64 v, .int .i64 a] 25)))
 have HX := Lib.hid hx
 have hbw : b < w.heap.size := h.blk.lt
 have hb2 := Blk.new (w.setCell ⟨b, 323, none⟩ (.int .i64 (s.set - 1))) 25 #[.int .i64 op, .string sn, .int .i64 n, .int .i64 v, .int .i64 a]
 rw [show (w.setCell ⟨b, 323, none⟩ (.int .i64 (s.set - 1))).heap.size = w.heap.size by simp] at hb2
 have HB := Lib.hid hb2
 have HM := Lib.hid (((Mods.refl [b] w).setCell (p := ⟨b, 323, none⟩) (.inl (by simp)) (.int .i64 (s.set - 1))).alloc (.cells #[.int .i64 op, .string sn, .int .i64 n, .int .i64 v, .int .i64 a] 25))
 have e1 : (k : Int) < 256 := by omega
 unfold insVal
 clear hG h h1 hx hb hb2
 by_cases hz : s.set = 0
 ·have HR : Hid (G = (false, s)) := HG.out.trans (if_pos hz)
  rw [hz] at c3
  clear hz
  go_enter Tryz.func95, Tryz.ntmps95
  go_wp2_with fail
  go_ret
  exact ⟨by rw [HR.out]; rfl, by rw [HR.out]; exact H1.out, Mods.ext HX.out⟩
 ·have hzz : (s.set == 0) = false := by simpa using hz
  obtain ⟨s2, hs2⟩ : ∃ s2 : InSt, { s with set := s.set - 1 } = s2 := ⟨_, rfl⟩
  have HG2 : Hid (G = if (s2.rowV ⟨op, sn, n, v, a⟩).2.set = 0 then ((s2.rowV ⟨op, sn, n, v, a⟩).1, { (s2.rowV ⟨op, sn, n, v, a⟩).2 with x := (s2.rowV ⟨op, sn, n, v, a⟩).2.x.set (s2.rowV ⟨op, sn, n, v, a⟩).2.put.toNat true }) else s2.rowV ⟨op, sn, n, v, a⟩) := by
   rw [← hs2]
   exact HG.out.trans (if_neg hz)
  rw [hs2] at H2
  have HP : Hid (s2.put = k) := by rw [← hs2]; exact hk
  clear HG hz hk hs2
  go_enter Tryz.func95, Tryz.ntmps95
  go_upto_region 4 with fail
  refine wp_abs (fun V => Hid (StAt V b 102 s2) ∧ Hid (Blk V w.heap.size 25 #[.int .i64 op, .string sn, .int .i64 n, .int .i64 v, .int .i64 a]) ∧ Hid (Mods [b] w V)) ⟨H2, HB, HM⟩ ?_
  clear H1 H2 HB HM HX c3 f3 hzz hu hu2
  rintro V ⟨H, HB, HM⟩
  have q0 : V.cell? ⟨w.heap.size, 0, none⟩ = some (.int .i64 op) := HB.out.cell 0
  have q3 : V.cell? ⟨w.heap.size, 3, none⟩ = some (.int .i64 v) := HB.out.cell 3
  have hp0 := fun U : World => ptr_ss (b := b) U
  by_cases o1 : op = 6 ∨ op = 15
  ·obtain ⟨r, hr⟩ : ∃ r, s2.learn v = r := ⟨_, rfl⟩
   have hrv : s2.rowV ⟨op, sn, n, v, a⟩ = r := (if_pos o1).trans hr
   have HL := Lib.hid (learn_any b v s2 V H.out hv hv2)
   have hrp : r.2.put = k := by rw [← hr, (learn_t s2 v).2]; exact HP.out
   rw [hrv, hrp, Int.toNat_natCast] at HG2
   rw [hr] at HL
   have HRP := Lib.hid hrp
   clear hr hrv hrp HP
   rcases o1 with rfl | rfl
   all_goals
    go_upto_region 12 with (go_at_call 99; refine HL.out.mono ?_; rintro e W1 ⟨rfl, h1, m1⟩)
    have c6 := h1.put
    rw [HRP.out] at c6
    have H1 := Lib.hid h1
    have M1 := Lib.hid (HM.out.trans m1)
    have c5 := h1.set
    have c0 := h1.x (j := k) (by omega)
    have f0 := h1.frozen k
    clear h1
    by_cases z : r.2.set = 0
    ·have HR : Hid (G = (r.1, { r.2 with x := r.2.x.set k true })) := HG2.out.trans (if_pos z)
     have HS := Lib.hid ((st_drew H1.out).setX (j := k) (by omega) true)
     rw [z] at c5
     clear z
     go_upto_region 13 with fail
     go_region
     all_goals
      go_wp2_with fail
      go_ret
      exact ⟨by rw [HR.out]; rfl, by rw [HR.out]; exact HS.out, (M1.out.trans (Mods.ext ((Ext.refl _).drew))).setCell (p := ⟨b, k, none⟩) (.inl (by simp)) _⟩
    ·have HR : Hid (G = r) := HG2.out.trans (if_neg z)
     have zz : (r.2.set == 0) = false := by simpa using z
     clear z
     go_wp2_with fail
     go_ret
     exact ⟨by rw [HR.out]; rfl, by rw [HR.out]; exact H1.out, M1.out⟩
  ·have p6 : (op == 6) = false := by simp; omega
   have p15 : (op == 15) = false := by simp; omega
   by_cases o2 : op = 7 ∨ op = 16
   ·obtain ⟨kn, hkn⟩ : ∃ kn, s2.known v = kn := ⟨_, rfl⟩
    have HKN := Lib.hid (known_any b v s2 V H.out hv hv2)
    rw [hkn] at HKN
    obtain ⟨r, hr⟩ : ∃ r, (kn, s2) = r := ⟨_, rfl⟩
    have hrv : s2.rowV ⟨op, sn, n, v, a⟩ = r := (if_neg o1).trans ((if_pos o2).trans (by rw [hkn, hr]))
    have hrp : r.2.put = k := by rw [← hr]; exact HP.out
    rw [hrv, hrp, Int.toNat_natCast] at HG2
    obtain rfl : s2 = r.2 := by rw [← hr]
    obtain rfl : kn = r.1 := by rw [← hr]
    have HRP := Lib.hid hrp
    clear hr hrv hrp HP hkn o1
    rcases o2 with rfl | rfl
    all_goals
     go_upto_region 12 with (go_at_call 100; refine HKN.out.mono ?_; rintro e W1 ⟨rfl, rfl⟩)
     have h1 := H.out
     have c6 := h1.put
     rw [HRP.out] at c6
     have H1 := Lib.hid h1
     have M1 := Lib.hid HM.out
     have c5 := h1.set
     have c0 := h1.x (j := k) (by omega)
     have f0 := h1.frozen k
     clear h1
     by_cases z : r.2.set = 0
     ·have HR : Hid (G = (r.1, { r.2 with x := r.2.x.set k true })) := HG2.out.trans (if_pos z)
      have HS := Lib.hid ((st_drew H1.out).setX (j := k) (by omega) true)
      rw [z] at c5
      clear z
      go_upto_region 13 with fail
      go_region
      all_goals
       go_wp2_with fail
       go_ret
       exact ⟨by rw [HR.out]; rfl, by rw [HR.out]; exact HS.out, (M1.out.trans (Mods.ext ((Ext.refl _).drew))).setCell (p := ⟨b, k, none⟩) (.inl (by simp)) _⟩
     ·have HR : Hid (G = r) := HG2.out.trans (if_neg z)
      have zz : (r.2.set == 0) = false := by simpa using z
      clear z
      go_wp2_with fail
      go_ret
      exact ⟨by rw [HR.out]; rfl, by rw [HR.out]; exact H1.out, M1.out⟩
   ·have p7 : (op == 7) = false := by simp; omega
    have p16 : (op == 16) = false := by simp; omega
    obtain ⟨r, hr⟩ : ∃ r, (true, s2) = r := ⟨_, rfl⟩
    have hrv : s2.rowV ⟨op, sn, n, v, a⟩ = r := (if_neg o1).trans ((if_neg o2).trans hr)
    have hrp : r.2.put = k := by rw [← hr]; exact HP.out
    rw [hrv, hrp, Int.toNat_natCast] at HG2
    obtain rfl : s2 = r.2 := by rw [← hr]
    have HRT : Hid (r.1 = true) := Lib.hid (by rw [← hr])
    have HRP := Lib.hid hrp
    clear hr hrv hrp HP o1 o2
    go_upto_region 12 with fail
    have h1 := H.out
    have c6 := h1.put
    rw [HRP.out] at c6
    have H1 := Lib.hid h1
    have M1 := Lib.hid HM.out
    have c5 := h1.set
    have c0 := h1.x (j := k) (by omega)
    have f0 := h1.frozen k
    clear h1
    by_cases z : r.2.set = 0
    ·have HR : Hid (G = (r.1, { r.2 with x := r.2.x.set k true })) := HG2.out.trans (if_pos z)
     have HS := Lib.hid ((st_drew H1.out).setX (j := k) (by omega) true)
     rw [z] at c5
     clear z
     go_upto_region 13 with fail
     go_region
     all_goals
      go_wp2_with fail
      go_ret
      exact ⟨by rw [HR.out]; show _ = Ending.returned (.bool r.1); rw [HRT.out]; rfl, by rw [HR.out]; exact HS.out, (M1.out.trans (Mods.ext ((Ext.refl _).drew))).setCell (p := ⟨b, k, none⟩) (.inl (by simp)) _⟩
    ·have HR : Hid (G = r) := HG2.out.trans (if_neg z)
     have zz : (r.2.set == 0) = false := by simpa using z
     clear z
     go_wp2_with fail
     go_ret
     exact ⟨by rw [HR.out]; show _ = Ending.returned (.bool r.1); rw [HRT.out]; rfl, by rw [HR.out]; exact H1.out, M1.out⟩
end Go.Proofs.YtmnnhdegoapfcaaGreatDoor

/- Layer 16: the walk of flow. -/
namespace Go.Proofs.YtmnnhdegoapfcaaGreatDoor
open Go.RowKit Go.El
theorem call_le (b : Nat) (n left : Int) (s : InSt) (w : World) (h : StAt w b 102 s) (h0 : 0 ≤ n) (hn : n ≤ 16) (hl0 : 0 ≤ left) (hl : left ≤ 64) :
  Calls Tryz.prog 136 #[.pointer (some ⟨b, 0, none⟩), .int .i64 n, .int .i64 left] w (StPost b (s.call n left) w) := by
 by_cases e : left < 64
 ·exact call_any b n left s w h h0 hn hl0 e
 ·obtain rfl : left = 64 := by omega
  exact call64_any b n s w h h0 hn
def FlowOk (op n a : Int) : Prop := (op = 21 ∨ op = 22 → 0 ≤ n ∧ n ≤ 16) ∧ (op = 21 ∨ op = 23 → 0 ≤ a ∧ a ≤ 64)
set_option maxRecDepth 100000 in
set_option maxHeartbeats 1000000 in
theorem flow_any (b : Nat) (op n v a : Int) (sn : ByteArray) (s : InSt) (w : World) (h : StAt w b 102 s) (hq : FlowOk op n a) :
  Calls Tryz.prog 101 #[.pointer (some ⟨b, 0, none⟩), insVal ⟨op, sn, n, v, a⟩] w (StPost b (s.flow ⟨op, sn, n, v, a⟩) w) := by
 obtain ⟨G, hG⟩ : ∃ G, G = s.flow ⟨op, sn, n, v, a⟩ := ⟨_, rfl⟩
 rw [← hG]
 have HG := Lib.hid hG
 have hx := ext_boxI w (.cells #[.int .i64 op, .string sn, .int .i64 n, .int .i64 v, .int .i64 a] 25)
 have hb := Blk.new w 25 #[.int .i64 op, .string sn, .int .i64 n, .int .i64 v, .int .i64 a]
 have H := Lib.hid (h.ext hx)
 have HX := Lib.hid hx
 have q0 := hb.cell 0
 have q2 := hb.cell 2
 have q4 := hb.cell 4
 unfold insVal
 clear hG h hx hb
 by_cases o21 : op = 21
 ·subst o21
  have HR : Hid (G = s.call n a) := HG.out
  have HC := Lib.hid (call_le b n a s _ H.out (hq.1 (.inl rfl)).1 (hq.1 (.inl rfl)).2 (hq.2 (.inl rfl)).1 (hq.2 (.inl rfl)).2)
  clear hq
  go_enter Tryz.func101, Tryz.ntmps101
  go_wp2_with (go_at_call 136; refine HC.out.mono ?_; rintro e W1 ⟨rfl, h1, m1⟩)
  go_ret
  exact ⟨by rw [HR.out]; rfl, by rw [HR.out]; exact h1, (Mods.ext HX.out).trans m1⟩
 ·have p21 : (op == 21) = false := by simpa using o21
  have HG1 := Lib.hid (HG.out.trans (if_neg o21))
  by_cases o23 : op = 23
  ·subst o23
   have HR : Hid (G = s.call 2 a) := HG1.out
   have HC := Lib.hid (call_le b 2 a s _ H.out (by omega) (by omega) (hq.2 (.inr rfl)).1 (hq.2 (.inr rfl)).2)
   clear hq o21
   go_enter Tryz.func101, Tryz.ntmps101
   go_wp2_with (go_at_call 136; refine HC.out.mono ?_; rintro e W1 ⟨rfl, h1, m1⟩)
   go_ret
   exact ⟨by rw [HR.out]; rfl, by rw [HR.out]; exact h1, (Mods.ext HX.out).trans m1⟩
  ·have p23 : (op == 23) = false := by simpa using o23
   have HG2 := Lib.hid (HG1.out.trans (if_neg o23))
   by_cases o22 : op = 22
   ·subst o22
    have HR : Hid (G = s.end_ n) := HG2.out
    have HC := Lib.hid (end_any b n s _ H.out (hq.1 (.inr rfl)).1 (hq.1 (.inr rfl)).2)
    clear hq o21 o23
    go_enter Tryz.func101, Tryz.ntmps101
    go_wp2_with (go_at_call 137; refine HC.out.mono ?_; rintro e W1 ⟨rfl, h1, m1⟩)
    go_ret
    exact ⟨by rw [HR.out]; rfl, by rw [HR.out]; exact h1, (Mods.ext HX.out).trans m1⟩
   ·have p22 : (op == 22) = false := by simpa using o22
    have HG3 := Lib.hid (HG2.out.trans (if_neg o22))
    by_cases o24 : op = 24
    ·subst o24
     have HR : Hid (G = s.end_ 2) := HG3.out
     have HC := Lib.hid (end_any b 2 s _ H.out (by omega) (by omega))
     clear hq o21 o23 o22
     go_enter Tryz.func101, Tryz.ntmps101
     go_wp2_with (go_at_call 137; refine HC.out.mono ?_; rintro e W1 ⟨rfl, h1, m1⟩)
     go_ret
     exact ⟨by rw [HR.out]; rfl, by rw [HR.out]; exact h1, (Mods.ext HX.out).trans m1⟩
    ·have p24 : (op == 24) = false := by simpa using o24
     have HG4 := Lib.hid (HG3.out.trans (if_neg o24))
     by_cases o25 : op = 25
     ·subst o25
      have HR : Hid (G = s.end_ 0) := HG4.out
      have HC := Lib.hid (end_any b 0 s _ H.out (by omega) (by omega))
      clear hq o21 o23 o22 o24
      go_enter Tryz.func101, Tryz.ntmps101
      go_wp2_with (go_at_call 137; refine HC.out.mono ?_; rintro e W1 ⟨rfl, h1, m1⟩)
      go_ret
      exact ⟨by rw [HR.out]; rfl, by rw [HR.out]; exact h1, (Mods.ext HX.out).trans m1⟩
     ·have p25 : (op == 25) = false := by simpa using o25
      have HR := Lib.hid (HG4.out.trans (if_neg o25))
      have c3 := H.out.ended
      have f3 := H.out.frozen 326
      have HS := Lib.hid (H.out.setEnded true)
      clear hq o21 o23 o22 o24 o25
      go_enter Tryz.func101, Tryz.ntmps101
      go_wp2_with fail
      go_ret
      exact ⟨by rw [HR.out]; rfl, by rw [HR.out]; exact HS.out, (Mods.ext HX.out).setCell (p := ⟨b, 326, none⟩) (.inl (by simp)) _⟩
end Go.Proofs.YtmnnhdegoapfcaaGreatDoor
