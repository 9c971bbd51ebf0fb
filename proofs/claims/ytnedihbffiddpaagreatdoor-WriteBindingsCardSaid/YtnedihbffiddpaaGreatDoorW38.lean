/- Layer 11: what lives writes. -/
import Derived.Test.YtnedihbffiddpaaGreatDoorW34
import Derived.Test.YtnedihbffiddpaaGreatDoorW35
namespace Go.Proofs.YtnedihbffiddpaaGreatDoor
open Go.RowKit Go.El

def tL : Tm := .mk 4 0 ⟨#[45]⟩ [.mk 2 1 ⟨#[]⟩ [], .mk 4 0 ⟨#[45]⟩ [.mk 2 2 ⟨#[]⟩ [], .mk 1 3 ⟨#[]⟩ []]]
theorem lv_chk : chkT tL = 0 := by decide +kernel
theorem lv_canon : txT none tL 1200 = [45, 40, 49, 44, 45, 40, 50, 44, 95, 51, 41, 41] := by decide +kernel
theorem lv_ren : txT none (rnT tL []) 1200 = [45, 40, 49, 44, 45, 40, 50, 44, 95, 48, 41, 41] := by decide +kernel
theorem lv_text : txT (some (initI, initQ)) tL 1200 = [49, 32, 45, 32, 40, 50, 32, 45, 32, 95, 51, 41] := by decide +kernel
theorem lv_1 : wrtS none tL [] = ⟨#[45, 40, 49, 44, 45, 40, 50, 44, 95, 51, 41, 41]⟩ ∧ wrtE none tL [] = 0 := by
  unfold wrtS wrtE
  rw [if_pos lv_chk, if_pos lv_chk, lv_canon]
  decide +kernel
theorem lv_2 : wrtS (some (initI, initQ)) tL [] = ⟨#[49, 32, 45, 32, 40, 50, 32, 45, 32, 95, 51, 41]⟩ ∧ wrtE (some (initI, initQ)) tL [] = 0 := by
  unfold wrtS wrtE
  rw [if_pos lv_chk, if_pos lv_chk, lv_text]
  decide +kernel
theorem lv_3 : wrtS (some (initI, initQ)) tL [32, 46, 10] = ⟨#[49, 32, 45, 32, 40, 50, 32, 45, 32, 95, 51, 41, 32, 46, 10]⟩ ∧ wrtE (some (initI, initQ)) tL [32, 46, 10] = 0 := by
  unfold wrtS wrtE
  rw [if_pos lv_chk, if_pos lv_chk, lv_text]
  decide +kernel
theorem lv_bdL : (bdL ([⟨#[88]⟩, ⟨#[95]⟩].zip [tL, tL])).1 = [88, 32, 61, 32] ++ txT none (rnT tL []) 1200 := rfl
theorem lv_4 : bndS [⟨#[88]⟩, ⟨#[95]⟩] [tL, tL] = ⟨#[88, 32, 61, 32, 45, 40, 49, 44, 45, 40, 50, 44, 95, 48, 41, 41]⟩ ∧ bndE [⟨#[88]⟩, ⟨#[95]⟩] [tL, tL] = 0 := by
  have h0 : ¬ fstBad [tL, tL] ≠ 0 := by decide +kernel
  have h1 : ¬ ([⟨#[88]⟩, ⟨#[95]⟩] : List ByteArray).length ≠ [tL, tL].length := by decide
  have hb : bndF [⟨#[88]⟩, ⟨#[95]⟩] [tL, tL] = [88, 32, 61, 32, 45, 40, 49, 44, 45, 40, 50, 44, 95, 48, 41, 41] := by
    unfold bndF
    rw [lv_bdL, lv_ren]
    rfl
  unfold bndS bndE
  rw [if_neg h1, if_neg h1, if_neg h0, if_neg h0, hb]
  decide +kernel
theorem lv_6 : wrtE none (.mk 0 0 ⟨#[]⟩ []) [] = 60 := by
  unfold wrtE
  rw [if_neg (by decide +kernel)]
  decide +kernel
theorem init_bd : ∀ p : OpV, p ∈ initI ∨ p ∈ initQ → -1000000 ≤ p.p ∧ p.p ≤ 1000000 := by
  have key : (initI ++ initQ).all (fun p => decide (-1000000 ≤ p.p ∧ p.p ≤ 1000000)) = true := by decide +kernel
  intro p hp
  have := List.all_eq_true.1 key p (by simpa using hp)
  exact of_decide_eq_true this

end Go.Proofs.YtnedihbffiddpaaGreatDoor

/- Layer 11: the walk of lives. -/
namespace Go.Proofs.YtnedihbffiddpaaGreatDoor
open Go.RowKit Go.El

theorem blk_src {w : World} {g : Nat} {t : TypeId} {cs : Array Value} {m k : Nat} (h : Blk w g t cs) (hs : cs.size = m * k) : El.Src w (some ⟨g, 0, none⟩) m k cs.toList :=
  ⟨by simpa using hs, fun _ => ⟨_, rfl, fun j u hu => by
    rw [Addr.add_lit, Nat.zero_add, h.cell]
    simpa using hu⟩⟩
theorem comp2 (p q : TmP) (W : World) (D : Nat → Prop) (hp : TmIn D W p.1 p.2.1 p.2.2) (hq : TmIn D W q.1 q.2.1 q.2.2) (hD : ∀ k, D k → k < W.heap.size) (s : ByteArray) :
    Calls Tryz.prog 18 #[.string s, .slice (some ⟨W.heap.size, 0, none⟩) 2 2] (W.alloc (.cells (tmC p ++ tmC q).toArray 27)) fun e w' => ∃ A' c', e = .returned (.agg #[.int .i64 4, .int .i64 0, .string s, .slice A' 2 c']) ∧ TmIn (fun k => k < w'.heap.size) w' (.mk 4 0 s [p.1, q.1]) A' c' ∧ Ext W w' := by
  have hx := ext_box W (.cells (tmC p ++ tmC q).toArray 27)
  have hs := blk_src (m := 2) (k := 4) (Blk.new W 27 (tmC p ++ tmC q).toArray) rfl
  refine (refComp_any s [p, q] _ 2 _ D (by simpa [flat] using hs) (fun r hr => ?_) (by simp) (by simp) (fun k hk => by rw [World.size_alloc]; have := hD k hk; omega)).mono ?_
  · simp at hr
    rcases hr with rfl | rfl
    · exact hp.ext hx
    · exact hq.ext hx
  · rintro e w' ⟨A', c', h1, h2, h3⟩
    refine ⟨A', c', h1, h2.mono (fun k hk => ?_), hx.trans h3⟩
    rcases hk with hk | hk
    · have := hD k hk
      have := (hx.trans h3).size
      omega
    · exact hk.2
def t1L : Tm := .mk 4 0 ⟨#[45]⟩ [.mk 2 2 ⟨#[]⟩ [], .mk 1 3 ⟨#[]⟩ []]
theorem lvComp1 (W : World) : Calls Tryz.prog 18 #[.string ⟨#[45]⟩, .slice (some ⟨W.heap.size, 0, none⟩) 2 2] (W.alloc (.cells #[.int .i64 2, .int .i64 2, .string ⟨#[]⟩, .slice none 0 0, .int .i64 1, .int .i64 3, .string ⟨#[]⟩, .slice none 0 0] 27)) fun e w' => ∃ A' c', e = .returned (.agg #[.int .i64 4, .int .i64 0, .string ⟨#[45]⟩, .slice A' 2 c']) ∧ TmIn (fun k => k < w'.heap.size) w' t1L A' c' ∧ Ext W w' :=
  comp2 (.mk 2 2 ⟨#[]⟩ [], none, 0) (.mk 1 3 ⟨#[]⟩ [], none, 0) W (fun _ => False) (TmsIn.term (TmsIn.nil _ _ _ _) _ _ _) (TmsIn.term (TmsIn.nil _ _ _ _) _ _ _) (fun _ hk => hk.elim) ⟨#[45]⟩
theorem lvComp2 (W : World) (A : Option Addr) (c : Nat) (ht : TmIn (fun k => k < W.heap.size) W t1L A c) : Calls Tryz.prog 18 #[.string ⟨#[45]⟩, .slice (some ⟨W.heap.size, 0, none⟩) 2 2] (W.alloc (.cells #[.int .i64 2, .int .i64 1, .string ⟨#[]⟩, .slice none 0 0, .int .i64 4, .int .i64 0, .string ⟨#[45]⟩, .slice A 2 c] 27)) fun e w' => ∃ A' c', e = .returned (.agg #[.int .i64 4, .int .i64 0, .string ⟨#[45]⟩, .slice A' 2 c']) ∧ TmIn (fun k => k < w'.heap.size) w' tL A' c' ∧ Ext W w' :=
  comp2 (.mk 2 1 ⟨#[]⟩ [], none, 0) (t1L, A, c) W (fun k => k < W.heap.size) (TmsIn.term (TmsIn.nil _ _ _ _) _ _ _) ht (fun _ hk => hk) ⟨#[45]⟩
theorem lvCanon (A : Option Addr) (c : Nat) (W : World) (D : Nat → Prop) (ht : TmIn D W tL A c) (he : Env W) : Calls Tryz.prog 12 #[.agg #[.int .i64 4, .int .i64 0, .string ⟨#[45]⟩, .slice A 2 c]] W fun e w' => e = .returned (.tuple #[.string ⟨#[45, 40, 49, 44, 45, 40, 50, 44, 95, 51, 41, 41]⟩, .int .i64 0]) ∧ Ext W w' := by
  have := canon_any tL A c W D ht he (by decide)
  rw [lv_1.1, lv_1.2] at this
  exact this
theorem lvOps {W : World} {tb m1 m2 : Nat} (h : TabAt W tb m1 m2 initI initQ) : OpsAt W (some (initI, initQ)) (.pointer (some ⟨tb, 0, none⟩)) := ⟨tb, m1, m2, rfl, h, init_bd⟩
theorem lvText (A : Option Addr) (c : Nat) (W : World) (D : Nat → Prop) (ht : TmIn D W tL A c) (he : Env W) {tb m1 m2 : Nat} (h : TabAt W tb m1 m2 initI initQ) : Calls Tryz.prog 14 #[.agg #[.int .i64 4, .int .i64 0, .string ⟨#[45]⟩, .slice A 2 c], .pointer (some ⟨tb, 0, none⟩)] W fun e w' => e = .returned (.tuple #[.string ⟨#[49, 32, 45, 32, 40, 50, 32, 45, 32, 95, 51, 41]⟩, .int .i64 0]) ∧ Ext W w' := by
  have := text_any tL A c W D initI initQ tb ht he (lvOps h) (by decide)
  rw [lv_2.1, lv_2.2] at this
  exact this
theorem lvClause (A : Option Addr) (c : Nat) (W : World) (D : Nat → Prop) (ht : TmIn D W tL A c) (he : Env W) {tb m1 m2 : Nat} (h : TabAt W tb m1 m2 initI initQ) : Calls Tryz.prog 16 #[.agg #[.int .i64 4, .int .i64 0, .string ⟨#[45]⟩, .slice A 2 c], .pointer (some ⟨tb, 0, none⟩)] W fun e w' => e = .returned (.tuple #[.string ⟨#[49, 32, 45, 32, 40, 50, 32, 45, 32, 95, 51, 41, 32, 46, 10]⟩, .int .i64 0]) ∧ Ext W w' := by
  have := clause_any tL A c W D initI initQ tb ht he (lvOps h) (by decide)
  rw [lv_3.1, lv_3.2] at this
  exact this
theorem lvNil (A : Option Addr) (c : Nat) (W : World) : Calls Tryz.prog 14 #[.agg #[.int .i64 4, .int .i64 0, .string ⟨#[45]⟩, .slice A 2 c], .pointer none] W fun e w' => e = .returned (.tuple #[.string ⟨#[]⟩, .int .i64 1]) ∧ Ext W w' := text_nil tL A c W
theorem lvZero (W : World) (he : Env W) : Calls Tryz.prog 12 #[.agg #[.int .i64 0, .int .i64 0, .string ⟨#[]⟩, .slice none 0 0]] W fun e w' => (∃ s, e = .returned (.tuple #[.string s, .int .i64 60])) ∧ Ext W w' := by
  have := canon_any (.mk 0 0 ⟨#[]⟩ []) none 0 W (fun _ => False) (TmsIn.term (TmsIn.nil _ _ _ _) _ _ _) he (by decide)
  rw [lv_6] at this
  exact this.mono fun e w' h => ⟨⟨_, h.1⟩, h.2⟩
theorem lvBind (A : Option Addr) (c : Nat) (W : World) (D : Nat → Prop) (ht : TmIn D W tL A c) (hD : ∀ k, D k → k < W.heap.size) (he : Env W) :
    Calls Tryz.prog 8 #[.slice (some ⟨W.heap.size, 0, none⟩) 2 2, .slice (some ⟨W.heap.size + 1, 0, none⟩) 2 2] ((W.alloc (.cells #[.string ⟨#[88]⟩, .string ⟨#[95]⟩] 9)).alloc (.cells #[.int .i64 4, .int .i64 0, .string ⟨#[45]⟩, .slice A 2 c, .int .i64 4, .int .i64 0, .string ⟨#[45]⟩, .slice A 2 c] 27)) fun e w' => e = .returned (.tuple #[.string ⟨#[88, 32, 61, 32, 45, 40, 49, 44, 45, 40, 50, 44, 95, 48, 41, 41]⟩, .int .i64 0]) ∧ Ext W w' := by
  have hx := ((Ext.refl W).alloc (.cells #[.string ⟨#[88]⟩, .string ⟨#[95]⟩] 9)).alloc (.cells #[.int .i64 4, .int .i64 0, .string ⟨#[45]⟩, .slice A 2 c, .int .i64 4, .int .i64 0, .string ⟨#[45]⟩, .slice A 2 c] 27)
  have h1 := blk_src (m := 2) (k := 1) ((Blk.new W 9 #[.string ⟨#[88]⟩, .string ⟨#[95]⟩]).alloc (.cells #[.int .i64 4, .int .i64 0, .string ⟨#[45]⟩, .slice A 2 c, .int .i64 4, .int .i64 0, .string ⟨#[45]⟩, .slice A 2 c] 27)) rfl
  have h2 := blk_src (m := 2) (k := 4) (Blk.new (W.alloc (.cells #[.string ⟨#[88]⟩, .string ⟨#[95]⟩] 9)) 27 #[.int .i64 4, .int .i64 0, .string ⟨#[45]⟩, .slice A 2 c, .int .i64 4, .int .i64 0, .string ⟨#[45]⟩, .slice A 2 c]) rfl
  rw [World.size_alloc] at h2
  have ht2 := src_tm (c := 2) (M := [(tL, A, c), (tL, A, c)]) (D := fun k => k < W.heap.size + 2) h2 (fun p hp => by
    simp at hp
    subst hp
    exact (ht.ext hx).mono (fun k hk => by have := hD k hk; omega)) (fun b off e => by injection e with e; injection e with e _ _; omega) (by simp) 0 0 ⟨#[]⟩
  have := bindings_even [⟨#[88]⟩, ⟨#[95]⟩] [tL, tL] _ _ 2 2 _ _ rfl h1 ht2 (he.ext hx) (by decide) (by decide) (by decide)
  rw [lv_4.1, lv_4.2] at this
  exact this.mono fun e w' h => ⟨h.1, hx.trans h.2⟩

set_option maxRecDepth 100000 in
set_option maxHeartbeats 8000000 in
theorem lives_any (w : World) (he : Env w) : Calls Tryz.prog 5 #[] w fun e w' => e = .returned (.bool true) ∧ Ext w w' := by
  have HE := Lib.hid he
  have HX := Lib.hid (Ext.refl w)
  have tok1 : True := trivial
  clear he
  go_enter Tryz.func5, Tryz.ntmps5
  go_upto_region 2 with (first | (go_at_call 19; refine (refInt_any _ _).mono ?_; rintro e W1 ⟨rfl, x1⟩; have HX := Lib.hid (HX.out.trans x1); clear x1) | (go_at_call 20; refine (refVar_any _ _).mono ?_; rintro e W3 ⟨rfl, x1⟩; have HX := Lib.hid (HX.out.trans x1); clear x1) | (go_at_call 18; have _t := tok1; refine (lvComp1 W3).mono ?_; rintro e W4 ⟨A1, c1, rfl, ht1, x1⟩; have HT1 := Lib.hid ht1; have HX := Lib.hid (HX.out.trans x1); clear x1 ht1 tok1) | (go_at_call 18; refine (lvComp2 W4 A1 c1 HT1.out).mono ?_; rintro e W5 ⟨A2, c2, rfl, ht2, x2⟩; have HT2 := Lib.hid ht2; have HX := Lib.hid (HX.out.trans x2); clear x2 ht2))
  refine wp_abs (fun V => Hid (Blk V W5.heap.size 27 #[.int .i64 4, .int .i64 0, .string ⟨#[45]⟩, .slice A2 2 c2]) ∧ Hid (TmIn (fun k => k < V.heap.size) V tL A2 c2) ∧ Hid (Ext w V)) ⟨Blk.new W5 _ _, Lib.hid ((HT2.out.ext (ext_box _ _)).mono (fun k hk => by rw [World.size_alloc]; omega)), HX.out.alloc _⟩ ?_
  clear HT1 HT2 HX
  rintro V ⟨HB, HT, HX⟩
  generalize W5.heap.size = g at *
  have HE := Lib.hid (HE.out.ext HX.out)
  have HR := Lib.hid (Ext.refl V)
  have key := fun (W : World) (x : Ext V W) => (show Hid (W.cell? ⟨g, 0, none⟩ = some (.int .i64 4) ∧ W.cell? ⟨g, 1, none⟩ = some (.int .i64 0) ∧ W.cell? ⟨g, 2, none⟩ = some (.string ⟨#[45]⟩) ∧ W.cell? ⟨g, 3, none⟩ = some (.slice A2 2 c2)) from Lib.hid ⟨(HB.out.ext x).cell 0, (HB.out.ext x).cell 1, (HB.out.ext x).cell 2, (HB.out.ext x).cell 3⟩)
  go_upto_region 3 with (go_at_call 21; refine (pNew_any _).mono ?_; rintro e V1 ⟨tb, m1, m2, rfl, _, _, _, hT, hx⟩; have HO := Lib.hid hT; have X1 := Lib.hid hx; clear hT hx)
  obtain ⟨y0, y1, y2, y3⟩ := (key _ X1.out).out
  go_upto_region 4 with (go_at_call 12; refine (lvCanon A2 c2 V1 _ (HT.out.ext X1.out) (HE.out.ext X1.out)).mono ?_; rintro e V2 ⟨rfl, hx⟩; have X2 := Lib.hid (X1.out.trans hx); have HO2 := Lib.hid (HO.out.ext hx); clear hx)
  clear y0 y1 y2 y3 X1 HO
  obtain ⟨y0, y1, y2, y3⟩ := (key _ X2.out).out
  go_upto_region 5 with (go_at_call 14; refine (lvText A2 c2 V2 _ (HT.out.ext X2.out) (HE.out.ext X2.out) HO2.out).mono ?_; rintro e V3 ⟨rfl, hx⟩; have X3 := Lib.hid (X2.out.trans hx); have HO3 := Lib.hid (HO2.out.ext hx); clear hx)
  clear y0 y1 y2 y3 X2 HO2
  obtain ⟨y0, y1, y2, y3⟩ := (key _ X3.out).out
  go_upto_region 6 with (go_at_call 16; refine (lvClause A2 c2 V3 _ (HT.out.ext X3.out) (HE.out.ext X3.out) HO3.out).mono ?_; rintro e V4 ⟨rfl, hx⟩; have X4 := Lib.hid (X3.out.trans hx); clear hx)
  clear y0 y1 y2 y3 X3 HO3
  obtain ⟨y0, y1, y2, y3⟩ := (key _ X4.out).out
  have n0 := (ext_box V4 (.cells #[.string ⟨#[88]⟩, .string ⟨#[95]⟩] 9)).cell y0
  have n1 := (ext_box V4 (.cells #[.string ⟨#[88]⟩, .string ⟨#[95]⟩] 9)).cell y1
  have n2 := (ext_box V4 (.cells #[.string ⟨#[88]⟩, .string ⟨#[95]⟩] 9)).cell y2
  have n3 := (ext_box V4 (.cells #[.string ⟨#[88]⟩, .string ⟨#[95]⟩] 9)).cell y3
  go_upto_region 7 with (go_at_call 8; refine (lvBind A2 c2 V4 (fun k => k < V.heap.size) (HT.out.ext X4.out) (fun k hk => Nat.lt_of_lt_of_le hk X4.out.size) (HE.out.ext X4.out)).mono ?_; rintro e V5 ⟨rfl, hx⟩; have X5 := Lib.hid (X4.out.trans hx); clear hx)
  clear y0 y1 y2 y3 n0 n1 n2 n3 X4
  obtain ⟨y0, y1, y2, y3⟩ := (key _ X5.out).out
  go_upto_region 8 with (go_at_call 14; refine (lvNil A2 c2 V5).mono ?_; rintro e V6 ⟨rfl, hx⟩; have X6 := Lib.hid (X5.out.trans hx); clear hx)
  clear y0 y1 y2 y3 X5
  have hcat : ((⟨#[49, 32, 45, 32, 40, 50, 32, 45, 32, 95, 51, 41]⟩ : ByteArray) ++ (⟨#[32, 46, 10]⟩ : ByteArray)).toList = [49, 32, 45, 32, 40, 50, 32, 45, 32, 95, 51, 41, 32, 46, 10] := by decide +kernel
  go_wp2_with (go_at_call 12; refine (lvZero V6 (HE.out.ext X6.out)).mono ?_; rintro e V7 ⟨⟨sz, rfl⟩, hx⟩; have X7 := Lib.hid (X6.out.trans hx); clear hx)
  go_ret
  exact ⟨rfl, HX.out.trans X7.out⟩

end Go.Proofs.YtnedihbffiddpaaGreatDoor
