/- Layer 10, the reference: the walk of begins. -/
import Derived.Test.YtgcdhffeacdegaaGreatDoorC40
namespace Go.Proofs.YtgcdhffeacdegaaGreatDoor
open Go.RowKit Go.El

theorem lit_s {s : ByteArray} {c : UInt8} {b : Bool} (h : (s.toList == [c]) = b) : decide (s.data.toList = [c]) = b := by
  rw [ByteArray.toList_eq] at h
  rw [← h]
  by_cases e : s.data.toList = [c]
  · rw [decide_eq_true e, e]; simp
  · rw [decide_eq_false e, beq_eq_false_iff_ne.2 e]
theorem begins_pu (O : Ops) {r : List TokV} {t : TokV} {q : List TokV} (e : r = t :: q) (hk : t.kind = 5) : beginsB O r = ((t.s.toList == [40]) || (t.s.toList == [91]) || (t.s.toList == [123])) := by
  subst e
  simp only [beginsB]
  rw [if_neg (by omega), if_pos hk]
  have h0 : ∀ c : UInt8, isPu (t :: q) c = (t.s.toList == [c]) := fun c => by
    show (decide (t.kind = 5) && decide (t.s.data.toList = [c])) = _
    rw [decide_eq_true hk, lit_s rfl]
    rfl
  rw [h0, h0, h0]
theorem set3_keep {w V : World} (X : Ext w V) {g g3 : Nat} {T : TypeId} {cs : Array Value} (hg : w.heap.size ≤ g) (hne : g3 ≠ g) (B : Blk V g3 T cs) (a b c : Value) : Ext w (((V.setCell ⟨g, 0, none⟩ a).setCell ⟨g, 1, none⟩ b).setCell ⟨g, 2, none⟩ c) ∧ Blk (((V.setCell ⟨g, 0, none⟩ a).setCell ⟨g, 1, none⟩ b).setCell ⟨g, 2, none⟩ c) g3 T cs :=
  ⟨ext_set3 X hg a b c, ((B.far (p := ⟨g, 0, none⟩) (by simpa using hne) a).far (p := ⟨g, 1, none⟩) (by simpa using hne) b).far (p := ⟨g, 2, none⟩) (by simpa using hne) c⟩

set_option maxRecDepth 100000 in
set_option maxHeartbeats 4000000 in
theorem raBegins {f : RF} {w : World} {r : List TokV} {nv : Value} {ns : List ByteArray} {bad : Bool} (h : RaAt f w r nv ns bad) :
    Calls Tryz.prog 150 #[.pointer (some ⟨f.pb, 0, none⟩)] w fun e w' => e = .returned (.bool (beginsB f.O r)) ∧ Ext w w' := by
  obtain ⟨t, q, e⟩ := ToksOk.ne h.suf h.nil
  obtain ⟨b, off, hA, d0, d1, d2, d3, d4⟩ := ra_here h e
  have hlt := plI_lt h.suf h.nil
  have hk := tok_kind (h.toks.head h.suf e)
  obtain ⟨R, hR⟩ : ∃ R, beginsB f.O r = R := ⟨_, rfl⟩
  rw [hR]
  have H := Lib.hid h
  have hL := h.toks.len
  have c0 := h.cells.c0
  have c1 := h.cells.c1
  have c2 := h.cells.c2
  rw [hA] at c0
  have hp : f.pb < w.heap.size := h.blk.lt
  have hbb : b < w.heap.size := cell_lt d0
  have HR := Lib.hid hR
  have HE := Lib.hid e
  have HK := Lib.hid hk
  generalize plI f.L r = k at *
  have hq1 : (k : Int) < (f.L.length : Int) := by omega
  clear h e hA hR hk
  go_enter Tryz.func150, Tryz.ntmps150
  go_upto_region 1 with fail
  go_region
  all_goals
    obtain ⟨xb, kb⟩ := ra_box (W0 := w) t
    have X1 := Lib.hid xb
    have BT := Lib.hid kb
    have c2 := xb.cell c2
    clear c0 c1 d0 d1 d2 d3 d4 xb kb
    generalize (w.alloc (.cells #[.int .i64 t.kind, .string t.s, .int .i64 t.n, .int .i64 t.at_, .bool t.lay] 55)).drew = W1 at *
    generalize w.heap.size = g3 at *
    rcases HK.out with hk | hk | hk | hk | hk | hk
    · have hbe : beginsB f.O r = (!(findO t.s f.I).isSome || (findO t.s f.Q).isSome || opensB q) := by
        rw [HE.out]
        simp only [beginsB]
        rw [if_neg (by omega), if_neg (by omega), if_pos hk]
        rfl
      rw [HR.out] at hbe
      obtain ⟨u, p, hq⟩ := H.out.toks.more H.out.suf HE.out (by omega)
      have HF := fun W (x : Ext w W) => Lib.hid ((H.out.ext x).fi t.s)
      have HQ := fun W (x : Ext w W) => Lib.hid ((H.out.ext x).fq t.s)
      have HO := fun W (x : Ext w W) => Lib.hid (raOpens (H.out.ext x) 1 (by omega) (t := u) (by rw [HE.out, hq]; rfl))
      rw [HE.out] at HO
      simp only [List.drop_succ_cons, List.drop_zero] at HO
      unfold opR opA at HF HQ
      rw [hk] at BT
      have k3 := BT.out.cell
      subst hbe
      generalize (findO t.s f.I).getD zeroO = o1 at *
      generalize (findO t.s f.Q).getD zeroO = o2 at *
      obtain ⟨b1, hb1⟩ : ∃ b1, (findO t.s f.I).isSome = b1 := ⟨_, rfl⟩
      obtain ⟨b2, hb2⟩ : ∃ b2, (findO t.s f.Q).isSome = b2 := ⟨_, rfl⟩
      obtain ⟨b3, hb3⟩ : ∃ b3, opensB q = b3 := ⟨_, rfl⟩
      simp only [hb1] at HF
      simp only [hb2] at HQ
      simp only [hb3] at HO
      have HB := Lib.hid (show (!(findO t.s f.I).isSome || (findO t.s f.Q).isSome || opensB q) = (!b1 || b2 || b3) from by rw [hb1, hb2, hb3])
      clear hk hb1 hb2 hb3 hq HR HE HK
      have G1 : Hid (w.heap.size ≤ W1.heap.size) := Lib.hid X1.out.size
      have G3 : Hid (g3 < W1.heap.size) := Lib.hid BT.out.lt
      have q3 := BT.out.lt
      have qp : f.pb < W1.heap.size := (H.out.ext X1.out).blk.lt
      go_upto_region 10 with fail
      go_cut [5] (fun v5 wx => v5 = .bool b1 ∧ Hid (Ext w wx) ∧ Hid (Blk wx g3 55 #[.int .i64 1, .string t.s, .int .i64 t.n, .int .i64 t.at_, .bool t.lay]))
      case first =>
        go_region_law ((first
          | (go_simp; go_at_call 115; (with_reducible refine (HF _ (X1.out.drew)).out.mono ?_); rintro e V2 ⟨rfl, hx⟩; have X2 := Lib.hid (X1.out.drew.trans hx); have B2 := Lib.hid (BT.out.ext ((Ext.refl _).drew.trans hx)); clear hx)
          | (go_simp; go_at_call 115; refine (HF _ ((X1.out.alloc (.cells #[.int .i64 0, .int .i64 0, .string ⟨#[]⟩] 70)).drew)).out.mono ?_; rintro e V2 ⟨rfl, hx⟩; have X2 := Lib.hid ((X1.out.alloc (.cells #[.int .i64 0, .int .i64 0, .string ⟨#[]⟩] 70)).drew.trans hx); have B2 := Lib.hid (BT.out.ext (((Ext.refl _).alloc (.cells #[.int .i64 0, .int .i64 0, .string ⟨#[]⟩] 70)).drew.trans hx)); have ZB2 : Hid (Blk V2 W1.heap.size 70 #[.int .i64 0, .int .i64 0, .string ⟨#[]⟩]) := Lib.hid ((Blk.new W1 70 #[.int .i64 0, .int .i64 0, .string ⟨#[]⟩]).ext ((Ext.refl _).drew.trans hx)); have zc := ZB2.out.cell; have zf := ZB2.out.frozen; clear hx)))
        all_goals
          first
            | (have K3 := set3_keep X2.out G1.out (Nat.ne_of_lt G3.out) B2.out (.int .i64 o1.p) (.int .i64 o1.t) (.string o1.s)
               have hz := ZB2.out
               go_wp2_with fail
               go_meet
               exact ⟨rfl, Lib.hid K3.1, Lib.hid K3.2⟩)
            | (go_wp2_with fail
               go_meet
               exact ⟨rfl, Lib.hid (X2.out.alloc _), Lib.hid (B2.out.ext (ext_box4 _ _))⟩)
      case rest =>
        obtain ⟨rfl, X3, B3⟩ := hcut
        clear c2 k3 q3 qp
        obtain ⟨W3, rfl⟩ : ∃ W3 : World, W3 = wc := ⟨_, rfl⟩
        have c2 := (H.out.ext X3.out).cells.c2
        have k3 := B3.out.cell
        have G5 : Hid (w.heap.size ≤ W3.heap.size) := Lib.hid X3.out.size
        have G6 : Hid (g3 < W3.heap.size) := Lib.hid B3.out.lt
        have r3 := B3.out.lt
        have rp : f.pb < W3.heap.size := (H.out.ext X3.out).blk.lt
        go_upto_region 11 with fail
        go_cut [7] (fun v7 wx => v7 = .bool b2 ∧ Hid (Ext w wx) ∧ Hid (Blk wx g3 55 #[.int .i64 1, .string t.s, .int .i64 t.n, .int .i64 t.at_, .bool t.lay]))
        case first =>
          go_region_law ((first
            | (go_simp; go_at_call 115; (with_reducible refine (HQ _ (X3.out.drew)).out.mono ?_); rintro e V4 ⟨rfl, hx⟩; have X4 := Lib.hid (X3.out.drew.trans hx); have B4 := Lib.hid (B3.out.ext ((Ext.refl _).drew.trans hx)); clear hx)
            | (go_simp; go_at_call 115; refine (HQ _ ((X3.out.alloc (.cells #[.int .i64 0, .int .i64 0, .string ⟨#[]⟩] 70)).drew)).out.mono ?_; rintro e V4 ⟨rfl, hx⟩; have X4 := Lib.hid ((X3.out.alloc (.cells #[.int .i64 0, .int .i64 0, .string ⟨#[]⟩] 70)).drew.trans hx); have B4 := Lib.hid (B3.out.ext (((Ext.refl _).alloc (.cells #[.int .i64 0, .int .i64 0, .string ⟨#[]⟩] 70)).drew.trans hx)); have ZB4 : Hid (Blk V4 W3.heap.size 70 #[.int .i64 0, .int .i64 0, .string ⟨#[]⟩]) := Lib.hid ((Blk.new W3 70 #[.int .i64 0, .int .i64 0, .string ⟨#[]⟩]).ext ((Ext.refl _).drew.trans hx)); have zc := ZB4.out.cell; have zf := ZB4.out.frozen; clear hx)))
          all_goals
            first
              | (have K3 := set3_keep X4.out G5.out (Nat.ne_of_lt G6.out) B4.out (.int .i64 o2.p) (.int .i64 o2.t) (.string o2.s)
                 have hz := ZB4.out
                 go_wp2_with fail
                 go_meet
                 exact ⟨rfl, Lib.hid K3.1, Lib.hid K3.2⟩)
              | (go_wp2_with fail
                 go_meet
                 exact ⟨rfl, Lib.hid (X4.out.alloc _), Lib.hid (B4.out.ext (ext_box4 _ _))⟩)
        case rest =>
          obtain ⟨rfl, X5, B5⟩ := hcut
          clear c2 k3 r3 rp
          obtain ⟨W5, rfl⟩ : ∃ W5 : World, W5 = wc := ⟨_, rfl⟩
          cases b1
          · go_wp2_with fail
            go_ret
            exact ⟨by rw [HB.out]; rfl, X5.out⟩
          · cases b2
            · go_wp2_with (go_at_call 148; refine (HO _ X5.out).out.mono ?_; rintro e W6 ⟨rfl, x6⟩; have X6 := Lib.hid (X5.out.trans x6); clear x6)
              go_ret
              exact ⟨by rw [HB.out]; cases b3 <;> rfl, X6.out⟩
            · go_wp2_with fail
              go_ret
              exact ⟨by rw [HB.out]; rfl, X5.out⟩
    · have hbe : R = true := by rw [← HR.out, HE.out]; simp only [beginsB]; rw [if_pos (by omega)]
      subst hbe
      rw [hk] at BT
      have k3 := BT.out.cell
      clear hk
      go_wp2_with fail
      go_ret
      exact ⟨rfl, X1.out⟩
    · have hbe : R = true := by rw [← HR.out, HE.out]; simp only [beginsB]; rw [if_pos (by omega)]
      subst hbe
      rw [hk] at BT
      have k3 := BT.out.cell
      clear hk
      go_wp2_with fail
      go_ret
      exact ⟨rfl, X1.out⟩
    · have hbe : R = true := by rw [← HR.out, HE.out]; simp only [beginsB]; rw [if_pos (by omega)]
      subst hbe
      rw [hk] at BT
      have k3 := BT.out.cell
      clear hk
      go_wp2_with fail
      go_ret
      exact ⟨rfl, X1.out⟩
    · have hbe := HR.out
      rw [begins_pu f.O HE.out hk] at hbe
      subst hbe
      rw [hk] at BT
      have k3 := BT.out.cell
      clear hk
      cases h40 : (t.s.toList == [40])
      · have n40 : ¬ t.s.toList = [40] := by simpa using h40
        cases h91 : (t.s.toList == [91])
        · have n91 : ¬ t.s.toList = [91] := by simpa using h91
          have HB := Lib.hid (show (false || false || (t.s.toList == [123])) = (t.s.toList == [123]) from by simp)
          go_wp2_with fail
          go_ret
          exact ⟨by simp [h40, h91], X1.out⟩
        · go_wp2_with fail
          go_ret
          exact ⟨by simp [h40, h91], X1.out⟩
      · go_wp2_with fail
        go_ret
        exact ⟨by simp [h40], X1.out⟩
    · have hbe : R = false := by rw [← HR.out, HE.out]; simp only [beginsB]; rw [if_neg (by omega), if_neg (by omega), if_neg (by omega)]
      subst hbe
      rw [hk] at BT
      have k3 := BT.out.cell
      clear hk
      go_wp2_with fail
      go_ret
      exact ⟨rfl, X1.out⟩
end Go.Proofs.YtgcdhffeacdegaaGreatDoor
