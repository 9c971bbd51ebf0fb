/- Layer 16: the walk of call that leaves all slots. -/
import Derived.Test.YtmnnhdegoapfcaaGreatDoorC11
import Derived.Test.YtmnnhdegoapfcaaGreatDoorC02
import Derived.LaidEqlPtr
namespace Go.Proofs.YtmnnhdegoapfcaaGreatDoor
open Go.RowKit Go.El

theorem clr0 (b c : Nat) (ty : TypeId) (w : World) : (Builtin.clear_ #[179] ty #[.slice (some ⟨b, 256, none⟩) 0 c]).run Tryz.prog w = .ok (.tuple #[]) w := by
  simp [Builtin.clear_, run_underlying Tryz.underlying179]
theorem clearY_all {s : InSt} {k : Nat} (h : s.y.length ≤ k) : s.clearY k = s := by
  unfold InSt.clearY
  rw [List.take_of_length_le h, List.drop_eq_nil_of_le h]
  simp

set_option maxRecDepth 100000 in
set_option maxHeartbeats 1000000 in
theorem call64_any (b : Nat) (n : Int) (s : InSt) (w : World) (h : StAt w b 102 s) (h0 : 0 ≤ n) (hn : n ≤ 16) :
    Calls Tryz.prog 136 #[.pointer (some ⟨b, 0, none⟩), .int .i64 n, .int .i64 64] w (StPost b (s.call n 64) w) := by
  have HA := Lib.hid (args_any b n s w h h0 hn)
  have hx := h.clearX
  have hcx := fun ty => clrX h ty 256
  have hcy := fun ty => clr0 b 0 ty (w.setCells b 0 (List.replicate 256 (.bool false)))
  have hcz : s.clearX.clearY 65 = s.clearX := clearY_all (by rw [hx.ly]; exact Nat.le_refl _)
  have hy := hx
  have hz := (hy.setSlots (64 : Int)).setCalls true
  have c2 := h.slots
  have f2 := hy.frozen 321
  have f6 := hy.frozen 325
  have d2 := hy.slots
  have d6 := hy.calls
  have hM : Mods [b] w ((((w.setCells b 0 (List.replicate 256 (.bool false)))).setCell ⟨b, 321, none⟩ (.int .i64 64)).setCell ⟨b, 325, none⟩ (.bool true)) :=
    ((Mods.setCells (by simp) _ _ _ (Mods.refl [b] w)).setCell (p := ⟨b, 321, none⟩) (.inl (by simp)) _).setCell (p := ⟨b, 325, none⟩) (.inl (by simp)) _
  have hal : Tryz.prog.arrayLen 100 = 65 := by kernel_rfl
  have hal2 : Tryz.prog.arrayLen 99 = 256 := by kernel_rfl
  generalize List.replicate 256 (Value.bool false) = Z at *
  obtain ⟨R, hR⟩ : ∃ R : Bool, s.args n = R := ⟨_, rfl⟩
  rw [hR] at HA
  have hres : s.call n 64 = (decide (0 ≤ s.slots) && decide ((64 : Int) ≤ s.slots) && R, { s.clearX with slots := 64, calls := true }) := by
    unfold InSt.call
    rw [hR, show ((64 : Int) + 1).toNat = 65 from rfl, hcz]
  rw [hres]
  dsimp only [InSt.clearX, InSt.clearY] at d2 d6
  have HM := Lib.hid hM
  have HZ := Lib.hid hz
  generalize hB : (decide (0 ≤ s.slots) && decide ((64 : Int) ≤ s.slots) && R) = B
  have HB := Lib.hid hB
  clear h hx hy hz hM hR hres hB hcz
  by_cases hs : 0 ≤ s.slots
  · by_cases hk : (64 : Int) ≤ s.slots
    · have HQ : Hid (decide (0 ≤ s.slots) = true ∧ decide ((64 : Int) ≤ s.slots) = true) := ⟨decide_eq_true hs, decide_eq_true hk⟩
      go_enter Tryz.func136, Tryz.ntmps136
      go_wp2_with (go_at_call 164; refine HA.out.mono ?_; rintro e W1 ⟨rfl, rfl⟩)
      go_ret
      exact ⟨by rw [← HB.out, HQ.out.1, HQ.out.2]; simp, HZ.out, HM.out⟩
    · have HQ : Hid (decide (0 ≤ s.slots) = true ∧ decide ((64 : Int) ≤ s.slots) = false) := ⟨decide_eq_true hs, decide_eq_false hk⟩
      go_enter Tryz.func136, Tryz.ntmps136
      go_wp2_with (go_at_call 164; refine HA.out.mono ?_; rintro e W1 ⟨rfl, rfl⟩)
      go_ret
      exact ⟨by rw [← HB.out, HQ.out.1, HQ.out.2]; simp, HZ.out, HM.out⟩
  · have HQ : Hid (decide (0 ≤ s.slots) = false) := decide_eq_false hs
    go_enter Tryz.func136, Tryz.ntmps136
    go_wp2_with (go_at_call 164; refine HA.out.mono ?_; rintro e W1 ⟨rfl, rfl⟩)
    go_ret
    exact ⟨by rw [← HB.out, HQ.out]; simp, HZ.out, HM.out⟩

end Go.Proofs.YtmnnhdegoapfcaaGreatDoor

/- Layer 16: the walk of get. -/
namespace Go.Proofs.YtmnnhdegoapfcaaGreatDoor
open Go.RowKit Go.El

theorem StPost.of {b : Nat} {r : Bool × InSt} {a w : World} {e : Ending} {w' : World} (x : Ext a w) (h : StPost b r w e w') : StPost b r a e w' := ⟨h.1, h.2.1, (Mods.ext x).trans h.2.2⟩

set_option maxRecDepth 100000 in
set_option maxHeartbeats 1000000 in
theorem get_any (b : Nat) (op n v : Int) (k : Nat) (sn : ByteArray) (s : InSt) (w : World) (h : StAt w b 102 s) (hk : k ≤ 255) (hv : -64 ≤ v) (hv2 : v ≤ 255) :
    Calls Tryz.prog 96 #[.pointer (some ⟨b, 0, none⟩), insVal ⟨op, sn, n, v, k⟩] w (StPost b (s.get ⟨op, sn, n, v, k⟩) w) := by
  obtain ⟨G, hG⟩ : ∃ G, G = s.get ⟨op, sn, n, v, k⟩ := ⟨_, rfl⟩
  have hx := ext_boxI w (.cells #[.int .i64 op, .string sn, .int .i64 n, .int .i64 v, .int .i64 k] 25)
  have hb := Blk.new w 25 #[.int .i64 op, .string sn, .int .i64 n, .int .i64 v, .int .i64 k]
  have H := Lib.hid (h.ext hx)
  have q0 := hb.cell 0
  have q2 := hb.cell 2
  have q3 := hb.cell 3
  have q4 := hb.cell 4
  have c0 := (h.ext hx).x (j := k) (by omega)
  obtain ⟨ok, hok⟩ : ∃ ok : Bool, s.x.getD k false = ok := ⟨_, rfl⟩
  rw [hok] at c0
  have e1 : (k : Int) < 256 := by omega
  have HB := Lib.hid hb
  rw [← hG]
  unfold InSt.get at hG
  simp only [Int.toNat_natCast, hok] at hG
  have HG := Lib.hid hG
  unfold insVal
  clear hG hok h hb
  go_enter Tryz.func96, Tryz.ntmps96
  go_upto_region 1 with fail
  go_quiet (fail)
  go_upto_region 2 with fail
  refine wp_abs (fun V => Hid (StAt V b 102 s) ∧ Hid (Blk V w.heap.size 25 #[.int .i64 op, .string sn, .int .i64 n, .int .i64 v, .int .i64 k]) ∧ Hid (Ext w V)) ⟨Lib.hid (H.out.ext ((Ext.refl _).drewN _)), HB.out.drewN _, Lib.hid (hx.drewN _)⟩ ?_
  clear hx H HB q0 q2 q3 q4 c0
  rintro V ⟨H, HB, HX⟩
  have q0 : V.cell? ⟨w.heap.size, 0, none⟩ = some (.int .i64 op) := HB.out.cell 0
  have q2 : V.cell? ⟨w.heap.size, 2, none⟩ = some (.int .i64 n) := HB.out.cell 2
  have q3 : V.cell? ⟨w.heap.size, 3, none⟩ = some (.int .i64 v) := HB.out.cell 3
  have HL := Lib.hid (learn_any b v s V H.out hv hv2)
  have HKN := Lib.hid (known_any b v s V H.out hv hv2)
  by_cases o1 : op = 1
  · subst o1
    simp only [if_true] at HG
    cases ok
    · have HR : Hid (G = (false, s)) := HG.out
      go_wp2_with (go_at_call 99; refine HL.out.mono ?_; rintro e W1 ⟨rfl, h1, m1⟩)
      go_ret
      exact ⟨by rw [HR.out]; rfl, by rw [HR.out]; exact H.out, Mods.ext HX.out⟩
    · have HR : Hid (G = s.learn v) := HG.out
      go_wp2_with (go_at_call 99; refine HL.out.mono ?_; rintro e W1 ⟨rfl, h1, m1⟩)
      go_ret
      exact ⟨by rw [HR.out]; rfl, by rw [HR.out]; exact h1, (Mods.ext HX.out).trans m1⟩
  · have p1 : (op == 1) = false := by simpa using o1
    by_cases o2 : op = 2
    · subst o2
      have HR : Hid (G = (ok && s.known v, s)) := HG.out
      cases ok
      all_goals
        go_wp2_with (go_at_call 100; refine HKN.out.mono ?_; rintro e W1 ⟨rfl, rfl⟩)
        go_ret
        exact ⟨by rw [HR.out]; simp, by rw [HR.out]; exact H.out, Mods.ext HX.out⟩
    · have p2 : (op == 2) = false := by simpa using o2
      by_cases o5 : op = 5
      · subst o5
        have HR : Hid (G = (ok, { s with uni := n })) := HG.out
        have c3 := H.out.uni
        have f3 := H.out.frozen 322
        have HS := Lib.hid (H.out.setUni n)
        go_wp2_with fail
        go_ret
        exact ⟨by rw [HR.out]; rfl, by rw [HR.out]; exact HS.out, (Mods.ext HX.out).setCell (p := ⟨b, 322, none⟩) (.inl (by simp)) _⟩
      · have p5 : (op == 5) = false := by simpa using o5
        have HR : Hid (G = (ok, s)) := by
          have := HG.out
          rwa [if_neg o1, if_neg o2, if_neg o5] at this
        clear o1 o2 o5
        go_wp2_with fail
        go_ret
        exact ⟨by rw [HR.out]; rfl, by rw [HR.out]; exact H.out, Mods.ext HX.out⟩

end Go.Proofs.YtmnnhdegoapfcaaGreatDoor

/- Layer 16: the walk of store. -/
namespace Go.Proofs.YtmnnhdegoapfcaaGreatDoor
open Go.RowKit Go.El

theorem st_drew {w : World} {b : Nat} {ty : TypeId} {s : InSt} (h : StAt w b ty s) : StAt w.drew b ty s := h.ext ((Ext.refl w).drew)
theorem learn_x (s : InSt) (v : Int) (h : s.x.length = 256) : (s.learn v).2.x.length = 256 := by
  unfold InSt.learn
  split
  · simpa using h
  · split <;> simpa using h

set_option maxRecDepth 100000 in
set_option maxHeartbeats 1000000 in
theorem store_any (b : Nat) (op n v : Int) (k : Nat) (sn : ByteArray) (s : InSt) (w : World) (h : StAt w b 102 s) (hk : k ≤ 255) (hv : -64 ≤ v) (hv2 : v ≤ 255) :
    Calls Tryz.prog 97 #[.pointer (some ⟨b, 0, none⟩), insVal ⟨op, sn, n, v, k⟩] w (StPost b (s.store ⟨op, sn, n, v, k⟩) w) := by
  obtain ⟨G, hG⟩ : ∃ G, G = s.store ⟨op, sn, n, v, k⟩ := ⟨_, rfl⟩
  have e1 : (k : Int) < 256 := by omega
  rw [← hG]
  unfold InSt.store at hG
  simp only [Int.toNat_natCast] at hG
  have HG := Lib.hid hG
  have H0 := Lib.hid h
  have hbw : b < w.heap.size := h.blk.lt
  unfold insVal
  clear hG h
  go_enter Tryz.func97, Tryz.ntmps97
  go_upto_region 2 with fail
  refine wp_abs (fun V => Hid (StAt V b 102 s) ∧ Hid (Blk V w.heap.size 25 #[.int .i64 op, .string sn, .int .i64 n, .int .i64 v, .int .i64 k]) ∧ Hid (Ext w V)) ⟨Lib.hid (H0.out.ext (ext_boxI w _)), Lib.hid (Blk.new w _ _), Lib.hid (ext_boxI w _)⟩ ?_
  rintro V ⟨H, HB, HX⟩
  have q0 : V.cell? ⟨w.heap.size, 0, none⟩ = some (.int .i64 op) := HB.out.cell 0
  have q2 : V.cell? ⟨w.heap.size, 2, none⟩ = some (.int .i64 n) := HB.out.cell 2
  have q3 : V.cell? ⟨w.heap.size, 3, none⟩ = some (.int .i64 v) := HB.out.cell 3
  have q4 : V.cell? ⟨w.heap.size, 4, none⟩ = some (.int .i64 k) := HB.out.cell 4
  by_cases o14 : op = 14
  · subst o14
    have HR : Hid (G = (true, { s with set := n, put := k })) := HG.out
    have c3 := H.out.set
    have f3 := H.out.frozen 323
    have c4 := H.out.put
    have f4 := H.out.frozen 324
    have HS := Lib.hid (((st_drew H.out).setSet n).setPut k)
    have HS2 := Lib.hid (((st_drew H.out).setPut k).setSet n)
    go_upto_region 8 with fail
    go_region
    all_goals
      go_wp2_with fail
      go_ret
      first
        | exact ⟨by rw [HR.out]; rfl, by rw [HR.out]; exact HS.out, ((Mods.ext HX.out.drew).setCell (p := ⟨b, 323, none⟩) (.inl (by simp)) _).setCell (p := ⟨b, 324, none⟩) (.inl (by simp)) _⟩
        | exact ⟨by rw [HR.out]; rfl, by rw [HR.out]; exact HS2.out, ((Mods.ext HX.out.drew).setCell (p := ⟨b, 324, none⟩) (.inl (by simp)) _).setCell (p := ⟨b, 323, none⟩) (.inl (by simp)) _⟩
  · have p14 : (op == 14) = false := by simpa using o14
    rw [if_neg o14] at HG
    by_cases o10 : op = 10
    · subst o10
      have HR : Hid (G = ((s.learn v).1, { (s.learn v).2 with x := (s.learn v).2.x.set k true })) := HG.out
      have HL := Lib.hid (learn_any b v s V H.out hv hv2)
      clear o14
      go_upto_region 5 with (go_at_call 99; refine HL.out.mono ?_; rintro e W1 ⟨rfl, h1, m1⟩)
      have hb1 := HB.out.mods m1 (by simp; omega)
      have z0 : W1.cell? ⟨w.heap.size, 0, none⟩ = some (.int .i64 10) := hb1.cell 0
      have z4 : W1.cell? ⟨w.heap.size, 4, none⟩ = some (.int .i64 k) := hb1.cell 4
      have c0 := h1.x (j := k) (by omega)
      have f0 := h1.frozen k
      have HS := Lib.hid ((st_drew h1).setX (j := k) (by omega) true)
      have HM := Lib.hid ((Mods.ext HX.out).trans m1)
      clear hb1 h1 m1
      go_upto_region 10 with fail
      go_region
      all_goals
        go_wp2_with fail
        go_ret
        exact ⟨by rw [HR.out]; rfl, by rw [HR.out]; exact HS.out, (HM.out.trans (Mods.ext ((Ext.refl W1).drew))).setCell (p := ⟨b, k, none⟩) (.inl (by simp)) _⟩
    · have p10 : (op == 10) = false := by simpa using o10
      rw [if_neg o10] at HG
      have c0 := H.out.x (j := k) (by omega)
      have f0 := H.out.frozen k
      have HS := Lib.hid ((st_drew H.out).setX (j := k) (by omega) true)
      by_cases o11 : op = 11
      · subst o11
        have HR : Hid (G = (s.known v, { s with x := s.x.set k true })) := HG.out
        have HKN := Lib.hid (known_any b v s V H.out hv hv2)
        clear o14 o10
        go_upto_region 7 with (go_at_call 100; refine HKN.out.mono ?_; rintro e W1 ⟨rfl, rfl⟩)
        go_upto_region 10 with fail
        go_region
        all_goals
          go_wp2_with fail
          go_ret
          exact ⟨by rw [HR.out]; rfl, by rw [HR.out]; exact HS.out, (Mods.ext HX.out.drew).setCell (p := ⟨b, k, none⟩) (.inl (by simp)) _⟩
      · have p11 : (op == 11) = false := by simpa using o11
        rw [if_neg o11] at HG
        have HR : Hid (G = (true, { s with x := s.x.set k true })) := HG.out
        clear o14 o10 o11
        go_upto_region 10 with fail
        go_region
        all_goals
          go_wp2_with fail
          go_ret
          exact ⟨by rw [HR.out]; rfl, by rw [HR.out]; exact HS.out, (Mods.ext HX.out.drew).setCell (p := ⟨b, k, none⟩) (.inl (by simp)) _⟩

end Go.Proofs.YtmnnhdegoapfcaaGreatDoor

/- Layer 16: the walk of env. -/
namespace Go.Proofs.YtmnnhdegoapfcaaGreatDoor
open Go.RowKit Go.El

theorem clrY0 {b : Nat} {s : InSt} {w : World} (h : StAt w b 102 s) (ty : TypeId) (c : Nat) : (Builtin.clear_ #[179] ty #[.slice (some ⟨b, 256, none⟩) 65 c]).run Tryz.prog w = .ok (.tuple #[]) (w.setCells b 256 (List.replicate 65 (.bool false))) :=
  clrY h ty c 0 (by omega)

set_option maxRecDepth 100000 in
set_option maxHeartbeats 1000000 in
theorem envD_any (b : Nat) (n v a : Int) (sn : ByteArray) (s : InSt) (w : World) (h : StAt w b 102 s) :
    Calls Tryz.prog 98 #[.pointer (some ⟨b, 0, none⟩), insVal ⟨20, sn, n, v, a⟩] w (StPost b (s.env ⟨20, sn, n, v, a⟩) w) := by
  obtain ⟨G, hG⟩ : ∃ G, G = s.env ⟨20, sn, n, v, a⟩ := ⟨_, rfl⟩
  rw [← hG]
  have HR : Hid (G = (decide (0 ≤ s.slots), { (s.clearY 0) with slots := -1 })) := hG
  have hx := ext_boxI w (.cells #[.int .i64 20, .string sn, .int .i64 n, .int .i64 v, .int .i64 a] 25)
  have hb := Blk.new w 25 #[.int .i64 20, .string sn, .int .i64 n, .int .i64 v, .int .i64 a]
  have h1 := h.ext hx
  have q0 := hb.cell 0
  have c2 := h1.slots
  have f2 := h1.frozen 321
  have h2 := h1.setSlots (-1)
  have hcy := fun ty => clrY0 h2 ty 65
  have h3 := h2.clearY (k := 0) (by omega)
  have hal : Tryz.prog.arrayLen 100 = 65 := by kernel_rfl
  have hM : Mods [b] w (((w.alloc (.cells #[.int .i64 20, .string sn, .int .i64 n, .int .i64 v, .int .i64 a] 25)).setCell ⟨b, 321, none⟩ (.int .i64 (-1))).setCells b 256 (List.replicate 65 (.bool false))) := Mods.setCells (by simp) _ _ _ ((Mods.ext hx).setCell (p := ⟨b, 321, none⟩) (.inl (by simp)) _)
  have HM := Lib.hid hM
  have H3 := Lib.hid h3
  simp only [Nat.add_zero, Nat.sub_zero] at H3
  generalize List.replicate 65 (Value.bool false) = Y at *
  unfold insVal
  clear hG h h1 h2 h3 hM hb
  go_enter Tryz.func98, Tryz.ntmps98
  go_wp2_with fail
  go_ret
  exact ⟨by rw [HR.out]; rfl, by rw [HR.out]; exact H3.out, HM.out⟩

set_option maxRecDepth 100000 in
set_option maxHeartbeats 1000000 in
theorem envA_any (b : Nat) (op n v a : Int) (sn : ByteArray) (s : InSt) (w : World) (h : StAt w b 102 s) (ho : ¬ op = 20) :
    Calls Tryz.prog 98 #[.pointer (some ⟨b, 0, none⟩), insVal ⟨op, sn, n, v, a⟩] w (StPost b (s.env ⟨op, sn, n, v, a⟩) w) := by
  obtain ⟨G, hG⟩ : ∃ G, G = s.env ⟨op, sn, n, v, a⟩ := ⟨_, rfl⟩
  rw [← hG]
  have HR : Hid (G = (!(decide (0 ≤ s.slots) || s.calls), { s with slots := n })) := hG.trans (if_neg ho)
  have p20 : (op == 20) = false := by simpa using ho
  have hx := ext_boxI w (.cells #[.int .i64 op, .string sn, .int .i64 n, .int .i64 v, .int .i64 a] 25)
  have hb := Blk.new w 25 #[.int .i64 op, .string sn, .int .i64 n, .int .i64 v, .int .i64 a]
  have h1 := h.ext hx
  have q0 := hb.cell 0
  have q2 := hb.cell 2
  have c2 := h1.slots
  have c6 := h1.calls
  have f2 := h1.frozen 321
  have H2 := Lib.hid (h1.setSlots n)
  have HM := Lib.hid ((Mods.ext (S := [b]) hx).setCell (p := ⟨b, 321, none⟩) (.inl (by simp)) (.int .i64 n))
  obtain ⟨cl, hcl⟩ : ∃ cl : Bool, s.calls = cl := ⟨_, rfl⟩
  rw [hcl] at HR c6 H2
  unfold insVal
  clear hG h h1 hb ho hx hcl
  by_cases hs : 0 ≤ s.slots
  · have HQ : Hid (decide (0 ≤ s.slots) = true) := decide_eq_true hs
    go_enter Tryz.func98, Tryz.ntmps98
    go_wp2_with fail
    go_ret
    exact ⟨by rw [HR.out, HQ.out]; rfl, by rw [HR.out]; exact H2.out, HM.out⟩
  · have HQ : Hid (decide (0 ≤ s.slots) = false) := decide_eq_false hs
    go_enter Tryz.func98, Tryz.ntmps98
    go_wp2_with fail
    go_ret
    exact ⟨by rw [HR.out, HQ.out]; rfl, by rw [HR.out]; exact H2.out, HM.out⟩

end Go.Proofs.YtmnnhdegoapfcaaGreatDoor

/- Layer 16: the walk of row at uni_. -/
namespace Go.Proofs.YtmnnhdegoapfcaaGreatDoor
open Go.RowKit Go.El

theorem intSz1 : (Tryz.prog.info? 3).map (fun i => i.size) = some 1 := by kernel_rfl
theorem intSz : ∃ j, Tryz.prog.info? 3 = some j ∧ j.size ≠ 0 := by
  have h := intSz1
  cases hi : Tryz.prog.info? 3 with
  | none => rw [hi] at h; cases h
  | some j =>
    rw [hi] at h
    exact ⟨j, rfl, by simp at h; omega⟩
theorem ptr_us {b : Nat} {s : InSt} {w : World} (h : StAt w b 102 s) : (binOp .eql 71 (.pointer (some ⟨b, 322, none⟩)) (.pointer (some ⟨b, 323, none⟩))).run Tryz.prog w = .ok (.bool false) w := by
  obtain ⟨j, h1, h2⟩ := intSz
  exact run_eql_ptr_other w Tryz.underlying71 h1 h2 (by simp) h.blk h.blk

set_option maxRecDepth 100000 in
set_option maxHeartbeats 1000000 in
theorem rowU_any (b : Nat) (op n v a : Int) (sn : ByteArray) (s : InSt) (w : World) (h : StAt w b 102 s) (hv : -64 ≤ v) (hv2 : v ≤ 255) (hu : -1000000 ≤ s.uni) (hu2 : s.uni ≤ 1000000) :
    Calls Tryz.prog 95 #[.pointer (some ⟨b, 0, none⟩), .pointer (some ⟨b, 322, none⟩), insVal ⟨op, sn, n, v, a⟩] w (StPost b (s.rowU ⟨op, sn, n, v, a⟩) w) := by
  obtain ⟨G, hG⟩ : ∃ G, G = s.rowU ⟨op, sn, n, v, a⟩ := ⟨_, rfl⟩
  rw [← hG]
  have HG := Lib.hid hG
  have hx := ext_boxI w (.cells #[.int .i64 op, .string sn, .int .i64 n, .int .i64 v, .int .i64 a] 25)
  have hb := Blk.new w 25 #[.int .i64 op, .string sn, .int .i64 n, .int .i64 v, .int .i64 a]
  have h1 := h.ext hx
  have c3 := h1.uni
  have f3 := h1.frozen 322
  have H1 := Lib.hid h1
  have H2 := Lib.hid ((h.setUni (s.uni - 1)).ext (ext_boxI _ (.cells #[.int .i64 op, .string sn, .int .i64 n, .int .i64 v, .int .i64 a] 25)))
  have HX := Lib.hid hx
  have hbw : b < w.heap.size := h.blk.lt
  have hb2 := Blk.new (w.setCell ⟨b, 322, none⟩ (.int .i64 (s.uni - 1))) 25 #[.int .i64 op, .string sn, .int .i64 n, .int .i64 v, .int .i64 a]
  rw [show (w.setCell ⟨b, 322, none⟩ (.int .i64 (s.uni - 1))).heap.size = w.heap.size by simp] at hb2
  have HB := Lib.hid hb2
  have HM := Lib.hid (((Mods.refl [b] w).setCell (p := ⟨b, 322, none⟩) (.inl (by simp)) (.int .i64 (s.uni - 1))).alloc (.cells #[.int .i64 op, .string sn, .int .i64 n, .int .i64 v, .int .i64 a] 25))
  unfold insVal
  clear hG h h1 hx hb hb2
  by_cases hz : s.uni = 0
  · have HR : Hid (G = (false, s)) := HG.out.trans (if_pos hz)
    rw [hz] at c3
    clear hz
    go_enter Tryz.func95, Tryz.ntmps95
    go_wp2_with fail
    go_ret
    exact ⟨by rw [HR.out]; rfl, by rw [HR.out]; exact H1.out, Mods.ext HX.out⟩
  · have hzz : (s.uni == 0) = false := by simpa using hz
    have HG2 : Hid (G = ({ s with uni := s.uni - 1 } : InSt).rowV ⟨op, sn, n, v, a⟩) := HG.out.trans (if_neg hz)
    clear HG hz
    go_enter Tryz.func95, Tryz.ntmps95
    go_upto_region 4 with fail
    refine wp_abs (fun V => Hid (StAt V b 102 { s with uni := s.uni - 1 }) ∧ Hid (Blk V w.heap.size 25 #[.int .i64 op, .string sn, .int .i64 n, .int .i64 v, .int .i64 a]) ∧ Hid (Mods [b] w V)) ⟨H2, HB, HM⟩ ?_
    clear H1 H2 HB HM HX c3 f3
    rintro V ⟨H, HB, HM⟩
    have q0 : V.cell? ⟨w.heap.size, 0, none⟩ = some (.int .i64 op) := HB.out.cell 0
    have q3 : V.cell? ⟨w.heap.size, 3, none⟩ = some (.int .i64 v) := HB.out.cell 3
    generalize ({ s with uni := s.uni - 1 } : InSt) = s2 at *
    have hp0 := ptr_us H.out
    have HL := Lib.hid (learn_any b v s2 V H.out hv hv2)
    have HKN := Lib.hid (known_any b v s2 V H.out hv hv2)
    by_cases o1 : op = 6 ∨ op = 15
    · have HR : Hid (G = s2.learn v) := HG2.out.trans (if_pos o1)
      rcases o1 with rfl | rfl
      all_goals
        go_wp2_with (go_at_call 99; refine HL.out.mono ?_; rintro e W1 ⟨rfl, h1, m1⟩; have hp1 := ptr_us h1)
        go_ret
        exact ⟨by rw [HR.out]; rfl, by rw [HR.out]; exact h1, HM.out.trans m1⟩
    · have p6 : (op == 6) = false := by simp; omega
      have p15 : (op == 15) = false := by simp; omega
      have HG3 := Lib.hid (HG2.out.trans (if_neg o1))
      clear HG2 o1
      by_cases o2 : op = 7 ∨ op = 16
      · have HR : Hid (G = (s2.known v, s2)) := HG3.out.trans (if_pos o2)
        rcases o2 with rfl | rfl
        all_goals
          go_wp2_with (go_at_call 100; refine HKN.out.mono ?_; rintro e W1 ⟨rfl, rfl⟩)
          go_ret
          exact ⟨by rw [HR.out]; rfl, by rw [HR.out]; exact H.out, HM.out⟩
      · have p7 : (op == 7) = false := by simp; omega
        have p16 : (op == 16) = false := by simp; omega
        have HR : Hid (G = (true, s2)) := HG3.out.trans (if_neg o2)
        clear HG3 o2
        go_wp2_with fail
        go_ret
        exact ⟨by rw [HR.out]; rfl, by rw [HR.out]; exact H.out, HM.out⟩

end Go.Proofs.YtmnnhdegoapfcaaGreatDoor
