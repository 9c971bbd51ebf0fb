/- Layer 16: the walk of row at set_. -/
import Derived.Test.YtmnnhdegoapfcaaGreatDoorC12
namespace Go.Proofs.YtmnnhdegoapfcaaGreatDoor
open Go.RowKit Go.El

theorem ptr_ss {b : Nat} (w : World) : (binOp .eql 71 (.pointer (some ⟨b, 323, none⟩)) (.pointer (some ⟨b, 323, none⟩))).run Tryz.prog w = .ok (.bool true) w := by
  obtain ⟨j, h1, _⟩ := intSz
  exact run_eql_ptr_same w _ Tryz.underlying71 h1
theorem learn_t (s : InSt) (v : Int) : (s.learn v).2.set = s.set ∧ (s.learn v).2.put = s.put := by
  unfold InSt.learn
  split
  · exact ⟨rfl, rfl⟩
  · split <;> exact ⟨rfl, rfl⟩

set_option maxRecDepth 100000 in
set_option maxHeartbeats 2000000 in
theorem rowS_any (b : Nat) (op n v a : Int) (sn : ByteArray) (s : InSt) (w : World) (h : StAt w b 102 s) (hv : -64 ≤ v) (hv2 : v ≤ 255) (hu : -1000000 ≤ s.set) (hu2 : s.set ≤ 1000000) (k : Nat) (hk : s.put = k) (hk2 : k ≤ 255) :
    Calls Tryz.prog 95 #[.pointer (some ⟨b, 0, none⟩), .pointer (some ⟨b, 323, none⟩), insVal ⟨op, sn, n, v, a⟩] w (StPost b (s.rowS ⟨op, sn, n, v, a⟩) w) := by
  obtain ⟨G, hG⟩ : ∃ G, G = s.rowS ⟨op, sn, n, v, a⟩ := ⟨_, rfl⟩
  rw [← hG]
  have HG := Lib.hid hG
  have hx := ext_boxI w (.cells #[.int .i64 op, .string sn, .int .i64 n, .int .i64 v, .int .i64 a] 25)
  have hb := Blk.new w 25 #[.int .i64 op, .string sn, .int .i64 n, .int .i64 v, .int .i64 a]
  have h1 := h.ext hx
  have c3 := h1.set
  have f3 := h1.frozen 323
  have H1 := Lib.hid h1
  have H2 := Lib.hid ((h.setSet (s.set - 1)).ext (ext_boxI _ (.cells #[.int .i64 op, .string sn, .int .i64 n, .int .i64 v, .int .i64 a] 25)))
  have HX := Lib.hid hx
  have hbw : b < w.heap.size := h.blk.lt
  have hb2 := Blk.new (w.setCell ⟨b, 323, none⟩ (.int .i64 (s.set - 1))) 25 #[.int .i64 op, .string sn, .int .i64 n, .int .i64 v, .int .i64 a]
  rw [show (w.setCell ⟨b, 323, none⟩ (.int .i64 (s.set - 1))).heap.size = w.heap.size by simp] at hb2
  have HB := Lib.hid hb2
  have HM := Lib.hid (((Mods.refl [b] w).setCell (p := ⟨b, 323, none⟩) (.inl (by simp)) (.int .i64 (s.set - 1))).alloc (.cells #[.int .i64 op, .string sn, .int .i64 n, .int .i64 v, .int .i64 a] 25))
  have e1 : (k : Int) < 256 := by omega
  unfold insVal
  clear hG h h1 hx hb hb2
  by_cases hz : s.set = 0
  · have HR : Hid (G = (false, s)) := HG.out.trans (if_pos hz)
    rw [hz] at c3
    clear hz
    go_enter Tryz.func95, Tryz.ntmps95
    go_wp2_with fail
    go_ret
    exact ⟨by rw [HR.out]; rfl, by rw [HR.out]; exact H1.out, Mods.ext HX.out⟩
  · have hzz : (s.set == 0) = false := by simpa using hz
    obtain ⟨s2, hs2⟩ : ∃ s2 : InSt, { s with set := s.set - 1 } = s2 := ⟨_, rfl⟩
    have HG2 : Hid (G = if (s2.rowV ⟨op, sn, n, v, a⟩).2.set = 0 then ((s2.rowV ⟨op, sn, n, v, a⟩).1, { (s2.rowV ⟨op, sn, n, v, a⟩).2 with x := (s2.rowV ⟨op, sn, n, v, a⟩).2.x.set (s2.rowV ⟨op, sn, n, v, a⟩).2.put.toNat true }) else s2.rowV ⟨op, sn, n, v, a⟩) := by
      rw [← hs2]
      exact HG.out.trans (if_neg hz)
    rw [hs2] at H2
    have HP : Hid (s2.put = k) := by rw [← hs2]; exact hk
    clear HG hz hk hs2
    go_enter Tryz.func95, Tryz.ntmps95
    go_upto_region 4 with fail
    refine wp_abs (fun V => Hid (StAt V b 102 s2) ∧ Hid (Blk V w.heap.size 25 #[.int .i64 op, .string sn, .int .i64 n, .int .i64 v, .int .i64 a]) ∧ Hid (Mods [b] w V)) ⟨H2, HB, HM⟩ ?_
    clear H1 H2 HB HM HX c3 f3 hzz hu hu2
    rintro V ⟨H, HB, HM⟩
    have q0 : V.cell? ⟨w.heap.size, 0, none⟩ = some (.int .i64 op) := HB.out.cell 0
    have q3 : V.cell? ⟨w.heap.size, 3, none⟩ = some (.int .i64 v) := HB.out.cell 3
    have hp0 := fun U : World => ptr_ss (b := b) U
    by_cases o1 : op = 6 ∨ op = 15
    · obtain ⟨r, hr⟩ : ∃ r, s2.learn v = r := ⟨_, rfl⟩
      have hrv : s2.rowV ⟨op, sn, n, v, a⟩ = r := (if_pos o1).trans hr
      have HL := Lib.hid (learn_any b v s2 V H.out hv hv2)
      have hrp : r.2.put = k := by rw [← hr, (learn_t s2 v).2]; exact HP.out
      rw [hrv, hrp, Int.toNat_natCast] at HG2
      rw [hr] at HL
      have HRP := Lib.hid hrp
      clear hr hrv hrp HP
      rcases o1 with rfl | rfl
      all_goals
        go_upto_region 12 with (go_at_call 99; refine HL.out.mono ?_; rintro e W1 ⟨rfl, h1, m1⟩)
        have c6 := h1.put
        rw [HRP.out] at c6
        have H1 := Lib.hid h1
        have M1 := Lib.hid (HM.out.trans m1)
        have c5 := h1.set
        have c0 := h1.x (j := k) (by omega)
        have f0 := h1.frozen k
        clear h1
        by_cases z : r.2.set = 0
        · have HR : Hid (G = (r.1, { r.2 with x := r.2.x.set k true })) := HG2.out.trans (if_pos z)
          have HS := Lib.hid ((st_drew H1.out).setX (j := k) (by omega) true)
          rw [z] at c5
          clear z
          go_upto_region 13 with fail
          go_region
          all_goals
            go_wp2_with fail
            go_ret
            exact ⟨by rw [HR.out]; rfl, by rw [HR.out]; exact HS.out, (M1.out.trans (Mods.ext ((Ext.refl _).drew))).setCell (p := ⟨b, k, none⟩) (.inl (by simp)) _⟩
        · have HR : Hid (G = r) := HG2.out.trans (if_neg z)
          have zz : (r.2.set == 0) = false := by simpa using z
          clear z
          go_wp2_with fail
          go_ret
          exact ⟨by rw [HR.out]; rfl, by rw [HR.out]; exact H1.out, M1.out⟩
    · have p6 : (op == 6) = false := by simp; omega
      have p15 : (op == 15) = false := by simp; omega
      by_cases o2 : op = 7 ∨ op = 16
      · obtain ⟨kn, hkn⟩ : ∃ kn, s2.known v = kn := ⟨_, rfl⟩
        have HKN := Lib.hid (known_any b v s2 V H.out hv hv2)
        rw [hkn] at HKN
        obtain ⟨r, hr⟩ : ∃ r, (kn, s2) = r := ⟨_, rfl⟩
        have hrv : s2.rowV ⟨op, sn, n, v, a⟩ = r := (if_neg o1).trans ((if_pos o2).trans (by rw [hkn, hr]))
        have hrp : r.2.put = k := by rw [← hr]; exact HP.out
        rw [hrv, hrp, Int.toNat_natCast] at HG2
        obtain rfl : s2 = r.2 := by rw [← hr]
        obtain rfl : kn = r.1 := by rw [← hr]
        have HRP := Lib.hid hrp
        clear hr hrv hrp HP hkn o1
        rcases o2 with rfl | rfl
        all_goals
          go_upto_region 12 with (go_at_call 100; refine HKN.out.mono ?_; rintro e W1 ⟨rfl, rfl⟩)
          have h1 := H.out
          have c6 := h1.put
          rw [HRP.out] at c6
          have H1 := Lib.hid h1
          have M1 := Lib.hid HM.out
          have c5 := h1.set
          have c0 := h1.x (j := k) (by omega)
          have f0 := h1.frozen k
          clear h1
          by_cases z : r.2.set = 0
          · have HR : Hid (G = (r.1, { r.2 with x := r.2.x.set k true })) := HG2.out.trans (if_pos z)
            have HS := Lib.hid ((st_drew H1.out).setX (j := k) (by omega) true)
            rw [z] at c5
            clear z
            go_upto_region 13 with fail
            go_region
            all_goals
              go_wp2_with fail
              go_ret
              exact ⟨by rw [HR.out]; rfl, by rw [HR.out]; exact HS.out, (M1.out.trans (Mods.ext ((Ext.refl _).drew))).setCell (p := ⟨b, k, none⟩) (.inl (by simp)) _⟩
          · have HR : Hid (G = r) := HG2.out.trans (if_neg z)
            have zz : (r.2.set == 0) = false := by simpa using z
            clear z
            go_wp2_with fail
            go_ret
            exact ⟨by rw [HR.out]; rfl, by rw [HR.out]; exact H1.out, M1.out⟩
      · have p7 : (op == 7) = false := by simp; omega
        have p16 : (op == 16) = false := by simp; omega
        obtain ⟨r, hr⟩ : ∃ r, (true, s2) = r := ⟨_, rfl⟩
        have hrv : s2.rowV ⟨op, sn, n, v, a⟩ = r := (if_neg o1).trans ((if_neg o2).trans hr)
        have hrp : r.2.put = k := by rw [← hr]; exact HP.out
        rw [hrv, hrp, Int.toNat_natCast] at HG2
        obtain rfl : s2 = r.2 := by rw [← hr]
        have HRT : Hid (r.1 = true) := Lib.hid (by rw [← hr])
        have HRP := Lib.hid hrp
        clear hr hrv hrp HP o1 o2
        go_upto_region 12 with fail
        have h1 := H.out
        have c6 := h1.put
        rw [HRP.out] at c6
        have H1 := Lib.hid h1
        have M1 := Lib.hid HM.out
        have c5 := h1.set
        have c0 := h1.x (j := k) (by omega)
        have f0 := h1.frozen k
        clear h1
        by_cases z : r.2.set = 0
        · have HR : Hid (G = (r.1, { r.2 with x := r.2.x.set k true })) := HG2.out.trans (if_pos z)
          have HS := Lib.hid ((st_drew H1.out).setX (j := k) (by omega) true)
          rw [z] at c5
          clear z
          go_upto_region 13 with fail
          go_region
          all_goals
            go_wp2_with fail
            go_ret
            exact ⟨by rw [HR.out]; show _ = Ending.returned (.bool r.1); rw [HRT.out]; rfl, by rw [HR.out]; exact HS.out, (M1.out.trans (Mods.ext ((Ext.refl _).drew))).setCell (p := ⟨b, k, none⟩) (.inl (by simp)) _⟩
        · have HR : Hid (G = r) := HG2.out.trans (if_neg z)
          have zz : (r.2.set == 0) = false := by simpa using z
          clear z
          go_wp2_with fail
          go_ret
          exact ⟨by rw [HR.out]; show _ = Ending.returned (.bool r.1); rw [HRT.out]; rfl, by rw [HR.out]; exact H1.out, M1.out⟩

end Go.Proofs.YtmnnhdegoapfcaaGreatDoor

/- Layer 16: the walk of flow. -/
namespace Go.Proofs.YtmnnhdegoapfcaaGreatDoor
open Go.RowKit Go.El

theorem call_le (b : Nat) (n left : Int) (s : InSt) (w : World) (h : StAt w b 102 s) (h0 : 0 ≤ n) (hn : n ≤ 16) (hl0 : 0 ≤ left) (hl : left ≤ 64) :
    Calls Tryz.prog 136 #[.pointer (some ⟨b, 0, none⟩), .int .i64 n, .int .i64 left] w (StPost b (s.call n left) w) := by
  by_cases e : left < 64
  · exact call_any b n left s w h h0 hn hl0 e
  · obtain rfl : left = 64 := by omega
    exact call64_any b n s w h h0 hn

/-- What flow asks of an instruction. -/
def FlowOk (op n a : Int) : Prop := (op = 21 ∨ op = 22 → 0 ≤ n ∧ n ≤ 16) ∧ (op = 21 ∨ op = 23 → 0 ≤ a ∧ a ≤ 64)

set_option maxRecDepth 100000 in
set_option maxHeartbeats 1000000 in
theorem flow_any (b : Nat) (op n v a : Int) (sn : ByteArray) (s : InSt) (w : World) (h : StAt w b 102 s) (hq : FlowOk op n a) :
    Calls Tryz.prog 101 #[.pointer (some ⟨b, 0, none⟩), insVal ⟨op, sn, n, v, a⟩] w (StPost b (s.flow ⟨op, sn, n, v, a⟩) w) := by
  obtain ⟨G, hG⟩ : ∃ G, G = s.flow ⟨op, sn, n, v, a⟩ := ⟨_, rfl⟩
  rw [← hG]
  have HG := Lib.hid hG
  have hx := ext_boxI w (.cells #[.int .i64 op, .string sn, .int .i64 n, .int .i64 v, .int .i64 a] 25)
  have hb := Blk.new w 25 #[.int .i64 op, .string sn, .int .i64 n, .int .i64 v, .int .i64 a]
  have H := Lib.hid (h.ext hx)
  have HX := Lib.hid hx
  have q0 := hb.cell 0
  have q2 := hb.cell 2
  have q4 := hb.cell 4
  unfold insVal
  clear hG h hx hb
  by_cases o21 : op = 21
  · subst o21
    have HR : Hid (G = s.call n a) := HG.out
    have HC := Lib.hid (call_le b n a s _ H.out (hq.1 (.inl rfl)).1 (hq.1 (.inl rfl)).2 (hq.2 (.inl rfl)).1 (hq.2 (.inl rfl)).2)
    clear hq
    go_enter Tryz.func101, Tryz.ntmps101
    go_wp2_with (go_at_call 136; refine HC.out.mono ?_; rintro e W1 ⟨rfl, h1, m1⟩)
    go_ret
    exact ⟨by rw [HR.out]; rfl, by rw [HR.out]; exact h1, (Mods.ext HX.out).trans m1⟩
  · have p21 : (op == 21) = false := by simpa using o21
    have HG1 := Lib.hid (HG.out.trans (if_neg o21))
    by_cases o23 : op = 23
    · subst o23
      have HR : Hid (G = s.call 2 a) := HG1.out
      have HC := Lib.hid (call_le b 2 a s _ H.out (by omega) (by omega) (hq.2 (.inr rfl)).1 (hq.2 (.inr rfl)).2)
      clear hq o21
      go_enter Tryz.func101, Tryz.ntmps101
      go_wp2_with (go_at_call 136; refine HC.out.mono ?_; rintro e W1 ⟨rfl, h1, m1⟩)
      go_ret
      exact ⟨by rw [HR.out]; rfl, by rw [HR.out]; exact h1, (Mods.ext HX.out).trans m1⟩
    · have p23 : (op == 23) = false := by simpa using o23
      have HG2 := Lib.hid (HG1.out.trans (if_neg o23))
      by_cases o22 : op = 22
      · subst o22
        have HR : Hid (G = s.end_ n) := HG2.out
        have HC := Lib.hid (end_any b n s _ H.out (hq.1 (.inr rfl)).1 (hq.1 (.inr rfl)).2)
        clear hq o21 o23
        go_enter Tryz.func101, Tryz.ntmps101
        go_wp2_with (go_at_call 137; refine HC.out.mono ?_; rintro e W1 ⟨rfl, h1, m1⟩)
        go_ret
        exact ⟨by rw [HR.out]; rfl, by rw [HR.out]; exact h1, (Mods.ext HX.out).trans m1⟩
      · have p22 : (op == 22) = false := by simpa using o22
        have HG3 := Lib.hid (HG2.out.trans (if_neg o22))
        by_cases o24 : op = 24
        · subst o24
          have HR : Hid (G = s.end_ 2) := HG3.out
          have HC := Lib.hid (end_any b 2 s _ H.out (by omega) (by omega))
          clear hq o21 o23 o22
          go_enter Tryz.func101, Tryz.ntmps101
          go_wp2_with (go_at_call 137; refine HC.out.mono ?_; rintro e W1 ⟨rfl, h1, m1⟩)
          go_ret
          exact ⟨by rw [HR.out]; rfl, by rw [HR.out]; exact h1, (Mods.ext HX.out).trans m1⟩
        · have p24 : (op == 24) = false := by simpa using o24
          have HG4 := Lib.hid (HG3.out.trans (if_neg o24))
          by_cases o25 : op = 25
          · subst o25
            have HR : Hid (G = s.end_ 0) := HG4.out
            have HC := Lib.hid (end_any b 0 s _ H.out (by omega) (by omega))
            clear hq o21 o23 o22 o24
            go_enter Tryz.func101, Tryz.ntmps101
            go_wp2_with (go_at_call 137; refine HC.out.mono ?_; rintro e W1 ⟨rfl, h1, m1⟩)
            go_ret
            exact ⟨by rw [HR.out]; rfl, by rw [HR.out]; exact h1, (Mods.ext HX.out).trans m1⟩
          · have p25 : (op == 25) = false := by simpa using o25
            have HR := Lib.hid (HG4.out.trans (if_neg o25))
            have c3 := H.out.ended
            have f3 := H.out.frozen 326
            have HS := Lib.hid (H.out.setEnded true)
            clear hq o21 o23 o22 o24 o25
            go_enter Tryz.func101, Tryz.ntmps101
            go_wp2_with fail
            go_ret
            exact ⟨by rw [HR.out]; rfl, by rw [HR.out]; exact HS.out, (Mods.ext HX.out).setCell (p := ⟨b, 326, none⟩) (.inl (by simp)) _⟩

end Go.Proofs.YtmnnhdegoapfcaaGreatDoor
