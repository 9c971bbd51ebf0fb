/- Layer 17, the program: the walk of Compile. -/
import Derived.Test.YtmnnhdegoapfcaaGreatDoorP37
import Derived.Test.YtmnnhdegoapfcaaGreatDoorP39
namespace Go.El
open Go.RowKit
theorem plan_lev (c : Cls) (h : planE c = 0) : 0 ≤ (planF c).level ∧ (planF c).level ≤ 1000 := by
 have := lev_bound (slotsF c)
 rw [lev_plan]
 unfold planE at h
 split at h
 ·next h1 => exact absurd h h1
 ·split at h
  ·cases h
  ·omega
theorem plan_slots (c : Cls) (h : planE c = 0) : (planF c).slots.length ≤ 64 := by
 rw [slots_plan, List.length_map]
 unfold planE at h
 split at h
 ·next h1 => exact absurd h h1
 ·split at h
  ·cases h
  ·omega
theorem plan_cnt (c : Cls) : cnt c.gs ≤ (planF c).live.length := by
 rw [live_plan, livL_len]
 have := gath_cnt c.gs (notesS 0 (vsT c.h []) []) 0
 show cnt c.gs ≤ (c.gs.foldl gathG (notesS 0 (vsT c.h []) [], 0)).2
 rw [this]
 omega
theorem base_hi {c : Cls} (h : mayC c = 0) : 0 ≤ baseF c ∧ baseF c ≤ 4096 := by
 obtain ⟨h1, h2, _⟩ := may_parts h
 have hh := (mayT_iff.1 h1).2.2
 have hl := len_szL c.h.l
 have hz := szT_l c.h
 unfold baseF
 split
 ·omega
 ·have key : ∀ (gs : List (Int × Tm)) (n : Int), (∀ g ∈ gs, mayT g.2 = true) → 0 ≤ n → n ≤ 4096 → 0 ≤ gs.foldl (fun n g => max n (arF g)) n ∧ gs.foldl (fun n g => max n (arF g)) n ≤ 4096 := by
   intro gs
   induction gs with
   | nil => intro n _ a b; exact ⟨a, b⟩
   | cons g gs ih =>
    intro n hm a b
    have hg := (mayT_iff.1 (hm g (by simp))).2.2
    have hgl := len_szL g.2.l
    have hgz := szT_l g.2
    have har : arF g ≤ 4096 := by
     unfold arF
     split
     ·omega
     ·split <;> omega
    exact ih (max n (arF g)) (fun x hx => hm x (List.mem_cons_of_mem _ hx)) (by omega) (by omega)
  exact key c.gs _ h2 (by omega) (by omega)
theorem szG_hi : ∀ {gs : List (Int × Tm)}, (∀ g ∈ gs, mayT g.2 = true) → szG gs ≤ gs.length * 4096
 | [], _ => by simp [szG]
 | g :: gs, h => by
  have h1 := (mayT_iff.1 (h g (by simp))).2.2
  have h2 := szG_hi (gs := gs) (fun x hx => h x (List.mem_cons_of_mem _ hx))
  simp only [szG, List.length_cons]
  omega
end Go.El
namespace Go.Proofs.YtmnnhdegoapfcaaGreatDoor
open Go.RowKit Go.El
def CmPost (c : Cls) (w : World) (e : Ending) (w' : World) : Prop :=
 ∃ A k, e = .returned (.tuple #[.slice A (compF c).1.length k, .int .i64 (compF c).2]) ∧ w'.ownsRow 0 25 5 (.slice A (compF c).1.length k) (compF c).1.length (flat insCells (compF c).1) ∧ (∀ b, (Value.slice A (compF c).1.length k).ownBlock = some b → w.heap.size ≤ b) ∧ Ext w w'
theorem cm_bad {c : Cls} {w : World} {pe : Int} (h : compF c = ([], pe)) {w' : World} (x : Ext w w') : CmPost c w (.returned (.tuple #[.slice none 0 0, .int .i64 pe])) w' := by
 unfold CmPost
 rw [h]
 exact ⟨none, 0, rfl, World.ownsRow_nil _ _ _ _, by simp [Value.ownBlock], x⟩
structure CmAt (f : MF) (c : Cls) (hA : Option Addr) (hc : Nat) (gA : Option Addr) (gc : Nat) (w : World) (pb : Nat) (wr : World) (m : Mk) (nv : Value) : Prop where
 at_ : MkAt f wr m nv
 cb : Blk wr w.heap.size 34 #[.int .i64 c.h.k, .int .i64 c.h.n, .string c.h.s, .slice hA c.h.l.length hc, .slice gA c.gs.length gc, .int .i64 c.vars]
 cc : Clr2 f.S nv wr w.heap.size
 pbk : Blk wr pb 83 #[.bool f.p.env, .slice f.A f.p.slots.length f.cA, .int .i64 f.p.level, .slice f.L f.p.live.length f.cL]
 pc : Clr2 f.S nv wr pb
 cl : ClIn (Clr2 f.S nv wr) wr c hA hc gA gc
 ext : Ext w wr
 fs : ∀ k ∈ f.S, w.heap.size ≤ k
 nf : ∀ b, nv.ownBlock = some b → w.heap.size ≤ b
section
variable {f : MF} {c : Cls} {hA gA : Option Addr} {hc gc : Nat} {w : World} {pb : Nat} {wr w' : World} {m m' : Mk} {nv nv' : Value}
theorem CmAt.go (h : CmAt f c hA hc gA gc w pb wr m nv) (hm : MkAt f w' m' nv') (s : PStep f.S nv wr nv' w') : CmAt f c hA hc gA gc w pb w' m' nv' := by
 refine ⟨hm, h.cb.mods s.mods h.cc.no, s.clr h.cc, h.pbk.mods s.mods h.pc.no, s.clr h.pc, h.cl.mods s.mods (fun _ hk => hk.no) (fun _ hk => s.clr hk), (Mods.step (S := []) (Mods.ext h.ext) s.mods (fun x hx => .inr ?_)).toExt (by simp), h.fs, fun b hb => ?_⟩
 ·rcases List.mem_append.1 hx with hx | hx
  ·exact h.fs x hx
  ·exact h.nf x (by simpa [ownL] using hx)
 ·rcases s.own b hb with e | e
  ·exact h.nf b e
  ·exact Nat.le_trans h.ext.size e
theorem CmAt.ext_ (h : CmAt f c hA hc gA gc w pb wr m nv) (x : Ext wr w') : CmAt f c hA hc gA gc w pb w' m nv := h.go (h.at_.ext x) (PStep.ext x)
end
structure PreAt (f : MF) (c : Cls) (hA : Option Addr) (hc : Nat) (gA : Option Addr) (gc : Nat) (w : World) (pb lo : Nat) (wr : World) (n0 : Int) (j : Nat) : Prop where
 pre : MkPre f lo wr n0 j
 cb : Blk wr w.heap.size 34 #[.int .i64 c.h.k, .int .i64 c.h.n, .string c.h.s, .slice hA c.h.l.length hc, .slice gA c.gs.length gc, .int .i64 c.vars]
 pbk : Blk wr pb 83 #[.bool f.p.env, .slice f.A f.p.slots.length f.cA, .int .i64 f.p.level, .slice f.L f.p.live.length f.cL]
 cl : ClIn (fun k => k < w.heap.size) wr c hA hc gA gc
 ext : Ext w wr
 l1 : w.heap.size < pb
 l2 : pb < lo
section
variable {f : MF} {c : Cls} {hA gA : Option Addr} {hc gc : Nat} {w : World} {pb lo : Nat} {wr w' : World} {n0 : Int} {j : Nat}
theorem PreAt.step (h : PreAt f c hA hc gA gc w pb lo wr n0 j) {ps : List (Int × Value)} (hm : MapAt (Value.int .i64) w' f.sm ps) (hs : SlotsIn ps (f.p.slots.take (j + 1))) (hd : Mods [f.sm] wr w') : PreAt f c hA hc gA gc w pb lo w' n0 (j + 1) := by
 have l1 := h.l1
 have l2 := h.l2
 have l3 := h.pre.l2
 exact ⟨h.pre.step hm hs hd, h.cb.mods hd (by simp; omega), h.pbk.mods hd (by simp; omega), h.cl.mods hd (fun k hk => by simp; omega) (fun _ hk => hk), (Mods.step (S := []) (Mods.ext h.ext) hd (fun x hx => .inr (by simp at hx; omega))).toExt (by simp), l1, l2⟩
theorem PreAt.done (h : PreAt f c hA hc gA gc w pb lo wr n0 j) (hj : f.p.slots.length ≤ j) : CmAt f c hA hc gA gc w pb wr ⟨n0, [], []⟩ (.slice none 0 0) := by
 have l1 := h.l1
 have l2 := h.l2
 have k1 := h.pre.l1
 have k3 := h.pre.l3
 have hS : ∀ k, k < lo → k ∉ f.S := fun k hk => by
  simp only [MF.S, List.mem_cons, List.not_mem_nil, or_false]
  omega
 have hlt := h.cb.lt
 exact ⟨h.pre.done hj, h.cb, ⟨hS _ (by omega), by simp [Value.ownBlock], hlt⟩, h.pbk, ⟨hS _ l2, by simp [Value.ownBlock], h.pbk.lt⟩, h.cl.mods (Mods.refl [] wr) (fun _ _ => by simp) (fun k hk => ⟨hS _ (by omega), by simp [Value.ownBlock], by omega⟩), h.ext, fun k hk => by
  simp only [MF.S, List.mem_cons, List.not_mem_nil, or_false] at hk
  omega, fun b hb => by simp [Value.ownBlock] at hb⟩
end
theorem PlPost.good {c : Cls} {w : World} {e : Ending} {w' : World} (h : PlPost c w e w') (h0 : planE c = 0) : PlOk c w e w' := by
 rcases h with ⟨h1, _⟩ | ⟨_, h⟩
 ·exact absurd h0 h1
 ·exact h
set_option maxRecDepth 100000 in
set_option maxHeartbeats 4000000 in
theorem mCompile0 (c : Cls) (hA : Option Addr) (hc : Nat) (gA : Option Addr) (gc : Nat) (D : Nat → Prop) (w : World) (h : ClIn D w c hA hc gA gc) (hz : ClSz c) (hp : planE c ≠ 0) :
  Calls Tryz.prog 13 #[.agg (clC c hA hc gA gc)] w (CmPost c w) := by
 have HO := fun W (x : Ext w W) => Lib.hid ((pOf c hA hc gA gc D W (h.ext x) hz).mono (fun e w' h => h.any))
 have HB0 := Blk.new w 34 (clC c hA hc gA gc)
 have HX0 := ext_box w (.cells (clC c hA hc gA gc) 34)
 have hcf : compF c = ([], planE c) := if_pos hp
 have n0 : (planE c != 0) = true := by simpa using hp
 have q0 : (planE c == 0) = false := by simpa using hp
 have HCF := Lib.hid hcf
 clear h hz hp hcf
 unfold clC at *
 generalize planE c = pe at *
 go_enter Tryz.func13, Tryz.ntmps13
 go_upto_region 1 with fail
 refine wp_abs (fun V => Hid (Blk V w.heap.size 34 #[.int .i64 c.h.k, .int .i64 c.h.n, .string c.h.s, .slice hA c.h.l.length hc, .slice gA c.gs.length gc, .int .i64 c.vars]) ∧ Hid (Ext w V)) ⟨HB0, HX0⟩ ?_
 clear HB0 HX0
 rintro V ⟨HB, HX⟩
 have x9 := HB.out.cell
 have HO1 := HO V HX.out
 clear HO
 go_wp2_with (go_at_call 42; refine HO1.out.mono ?_; rintro e W1 ⟨bb, sA, sn, sc, lv, lA, ln, lc, rfl, x1⟩; have X1 := Lib.hid (HX.out.trans x1); clear x1)
 go_ret2
 exact cm_bad HCF.out (X1.out.alloc _)
theorem plan_may {c : Cls} (h : planE c = 0) : mayC c = 0 := by
 unfold planE at h
 split at h
 ·next h1 => exact absurd h h1
 ·next h1 => exact Decidable.byContradiction h1
def envM (p : PlanV) (n0 : Int) : Mk := if p.env then (⟨n0, [], []⟩ : Mk).add ⟨19, ⟨#[]⟩, p.slots.length, 0, 0⟩ else ⟨n0, [], []⟩
def levM (p : PlanV) (n0 : Int) : Mk := if 0 < p.level then (envM p n0).add ⟨26, ⟨#[]⟩, 0, -p.level, 0⟩ else envM p n0
theorem bd_lev (p : PlanV) (n0 : Int) : (levM p n0).next = n0 ∧ (levM p n0).out.length ≤ 2 ∧ (envM p n0).next = n0 ∧ (envM p n0).out.length ≤ 1 := by
 have h : (envM p n0).next = n0 ∧ (envM p n0).out.length ≤ 1 := by
  unfold envM
  split <;> simp [Mk.add]
 refine ⟨?_, ?_, h⟩
 ·unfold levM
  split
  ·exact h.1
  ·exact h.1
 ·unfold levM
  split
  ·simp [Mk.add]; omega
  ·omega
set_option maxRecDepth 100000 in
set_option maxHeartbeats 8000000 in
theorem mCompile1 (c : Cls) (hA : Option Addr) (hc : Nat) (gA : Option Addr) (gc : Nat) (D : Nat → Prop) (w : World) (h : ClIn D w c hA hc gA gc) (hz : ClSz c) (hp : planE c = 0) :
  Calls Tryz.prog 13 #[.agg (clC c hA hc gA gc)] w (CmPost c w) := by
 have hmay := plan_may hp
 obtain ⟨p1, p2, p3⟩ := may_parts hmay
 have hbh := base_hi hmay
 have hgh := szG_hi p2
 have hhs := (mayT_iff.1 p1).2.2
 have hhl := szT_l c.h
 have hcnt := plan_cnt c
 have hlev := plan_lev c hp
 have hsl := plan_slots c hp
 have hnd := slots_nodup c
 have HO := fun W (x : Ext w W) => Lib.hid ((pOf c hA hc gA gc D W (h.ext x) hz).mono (fun e w' h => h.good hp))
 have HBS := fun W (x : Ext w W) => Lib.hid (mBase c hA hc gA gc D W (h.ext x) hz)
 have HB0 := Blk.new w 34 (clC c hA hc gA gc)
 have HX0 := ext_box w (.cells (clC c hA hc gA gc) 34)
 have hcf : compF c = if (makeF c).full then ([], 62) else ((makeF c).out, 0) := if_neg (by simp [hp])
 have hmk : makeF c = goalsF (planF c) c.gs 0 false (headF (planF c).slots c.h.l 1 (levM (planF c) (baseF c))) := rfl
 have HIN := Lib.hid h.lt
 clear h hz hp hmay p1 p2
 unfold clC at *
 unfold PlOk at HO
 generalize planF c = p at *
 have HCF := Lib.hid hcf
 have HMK := Lib.hid hmk
 have HND := Lib.hid hnd
 generalize baseF c = n0 at *
 clear hcf hmk hnd
 go_enter Tryz.func13, Tryz.ntmps13
 go_upto_region 1 with fail
 refine wp_abs (fun V => Hid (Blk V w.heap.size 34 #[.int .i64 c.h.k, .int .i64 c.h.n, .string c.h.s, .slice hA c.h.l.length hc, .slice gA c.gs.length gc, .int .i64 c.vars]) ∧ Hid (Ext w V)) ⟨HB0, HX0⟩ ?_
 clear HB0 HX0
 rintro V ⟨HB, HX⟩
 have x9 := HB.out.cell
 have HO1 := HO V HX.out
 clear HO
 go_upto_region 4 with (go_at_call 42; refine HO1.out.mono ?_; rintro e W1 ⟨sA, sc, lA, lc, rfl, s1, l1, sf, lf, x1⟩; have X1 := Lib.hid (HX.out.trans x1); have B1 := Lib.hid (HB.out.ext x1); have PI1 : Hid (PreIn W1 W1.heap.size p sA lA) := Lib.hid ⟨s1, l1, fun a ha => (sf a ha).2, fun a ha => (lf a ha).2, Nat.le_refl _⟩; clear x1 s1 l1 sf lf)
 have hwb : w.heap.size < W1.heap.size := B1.out.lt
 refine wp_abs (fun V => Hid (Blk V w.heap.size 34 #[.int .i64 c.h.k, .int .i64 c.h.n, .string c.h.s, .slice hA c.h.l.length hc, .slice gA c.gs.length gc, .int .i64 c.vars]) ∧ Hid (Ext w V) ∧ Hid (Blk V W1.heap.size 83 #[.bool p.env, .slice sA p.slots.length sc, .int .i64 p.level, .slice lA p.live.length lc]) ∧ Hid (PreIn V (W1.heap.size + 1) p sA lA) ∧ Hid (V.heap.size = W1.heap.size + 1)) ⟨B1.out.alloc _, X1.out.alloc _, Blk.new _ _ _, ⟨(PI1.out.ext (ext_box _ _)).hs, (PI1.out.ext (ext_box _ _)).hl, fun a ha => Nat.lt_succ_of_lt (PI1.out.sa a ha), fun a ha => Nat.lt_succ_of_lt (PI1.out.la a ha), by simp⟩, by simp [Hid]⟩ ?_
 clear x9 HO1 HB HX B1 X1 PI1
 rintro V ⟨HB, HX, HP, HPI, HSZ⟩
 generalize W1.heap.size = pb at *
 have k9 := HP.out.cell
 have x9 := HB.out.cell
 have hmm := @run_makeMap Tryz.prog
 go_cut [6] (fun mv wx => ∃ mb sm rm, mv = .pointer (some ⟨mb, 0, none⟩) ∧ Hid (MkPre ⟨mb, sm, rm, p, sA, sc, lA, lc⟩ (pb + 1) wx n0 0 ∧ Ext V wx))
 case first =>
  have k8 := (HP.out.ext ((Ext.refl V).drew)).cell
  have x8 := (HB.out.ext ((Ext.refl V).drew)).cell
  have k7 := (HP.out.ext (((Ext.refl V).alloc (.map #[] 0)).drew)).cell
  have x7 := (HB.out.ext (((Ext.refl V).alloc (.map #[] 0)).drew)).cell
  have k6 := (HP.out.ext ((((Ext.refl V).alloc (.map #[] 0)).alloc (.map #[] 0)).drew)).cell
  have x6 := (HB.out.ext ((((Ext.refl V).alloc (.map #[] 0)).alloc (.map #[] 0)).drew)).cell
  have hlt1 := HP.out.lt
  have hlt2 := HB.out.lt
  (first | (go_region_law ((first
   | (go_simp; go_at_call 26; (with_reducible refine (HBS _ (HX.out.trans ((Ext.refl V).drew))).out.mono ?_); rintro e V5 ⟨rfl, x5⟩; have X5 := Lib.hid x5; have k5 := (HP.out.ext (((Ext.refl V).drew).trans x5)).cell; have k4 := ((HP.out.ext (((Ext.refl V).drew).trans x5)).ext ((Ext.refl V5).alloc (.map #[] 0))).cell; have k3 := ((HP.out.ext (((Ext.refl V).drew).trans x5)).ext (((Ext.refl V5).alloc (.map #[] 0)).alloc (.map #[] 0))).cell; clear x5)
   | (go_simp; go_at_call 26; (with_reducible refine (HBS _ (HX.out.trans (((Ext.refl V).alloc (.map #[] 0)).drew))).out.mono ?_); rintro e V5 ⟨rfl, x5⟩; have X5 := Lib.hid x5; have k5 := (HP.out.ext ((((Ext.refl V).alloc (.map #[] 0)).drew).trans x5)).cell; have k4 := ((HP.out.ext ((((Ext.refl V).alloc (.map #[] 0)).drew).trans x5)).ext ((Ext.refl V5).alloc (.map #[] 0))).cell; have k3 := ((HP.out.ext ((((Ext.refl V).alloc (.map #[] 0)).drew).trans x5)).ext (((Ext.refl V5).alloc (.map #[] 0)).alloc (.map #[] 0))).cell; clear x5)
   | (go_simp; go_at_call 26; (with_reducible refine (HBS _ (HX.out.trans ((((Ext.refl V).alloc (.map #[] 0)).alloc (.map #[] 0)).drew))).out.mono ?_); rintro e V5 ⟨rfl, x5⟩; have X5 := Lib.hid x5; have k5 := (HP.out.ext (((((Ext.refl V).alloc (.map #[] 0)).alloc (.map #[] 0)).drew).trans x5)).cell; have k4 := ((HP.out.ext (((((Ext.refl V).alloc (.map #[] 0)).alloc (.map #[] 0)).drew).trans x5)).ext ((Ext.refl V5).alloc (.map #[] 0))).cell; have k3 := ((HP.out.ext (((((Ext.refl V).alloc (.map #[] 0)).alloc (.map #[] 0)).drew).trans x5)).ext (((Ext.refl V5).alloc (.map #[] 0)).alloc (.map #[] 0))).cell; clear x5)))) | fail "region 4")
  all_goals
   go_wp2_with fail
   go_meet
   first
    | exact ⟨_, _, _, rfl, Lib.hid (pre_A1 HPI.out X5.out)⟩
    | exact ⟨_, _, _, rfl, Lib.hid (pre_A2 HPI.out X5.out)⟩
    | exact ⟨_, _, _, rfl, Lib.hid (pre_B1 HPI.out X5.out)⟩
    | exact ⟨_, _, _, rfl, Lib.hid (pre_B2 HPI.out X5.out)⟩
    | exact ⟨_, _, _, rfl, Lib.hid (pre_C1 HPI.out X5.out)⟩
    | exact ⟨_, _, _, rfl, Lib.hid (pre_C2 HPI.out X5.out)⟩
 case rest =>
  obtain ⟨mb, sm, rm, rfl, HPR⟩ := hcut
  obtain ⟨f, e1, e2, e3, e4, e5, e6, e7, e8⟩ : ∃ f : MF, mb = f.mb ∧ sm = f.sm ∧ rm = f.rm ∧ p = f.p ∧ sA = f.A ∧ sc = f.cA ∧ lA = f.L ∧ lc = f.cL := ⟨⟨mb, sm, rm, p, sA, sc, lA, lc⟩, rfl, rfl, rfl, rfl, rfl, rfl, rfl, rfl⟩
  subst e1 e2 e3 e4 e5 e6 e7 e8
  have HS0 : Hid (PreAt f c hA hc gA gc w pb (pb + 1) wc n0 0) := Lib.hid ⟨HPR.out.1, HB.out.ext HPR.out.2, HP.out.ext HPR.out.2, HIN.out.ext (HX.out.trans HPR.out.2), HX.out.trans HPR.out.2, hwb, Nat.lt_succ_self _⟩
  clear HPR k9 x9 hmm HB HP HX HPI HSZ HIN HBS
  obtain ⟨W0, rfl⟩ : ∃ W0 : World, W0 = wc := ⟨_, rfl⟩
  have y1 : W0.cell? ⟨pb, 1, none⟩ = some (.slice f.A f.p.slots.length f.cA) := HS0.out.pbk.cell 1
  go_upto_region 6 with fail
  go_loopw [29] (fun iv wr => ∃ j : Nat, j ≤ f.p.slots.length ∧ iv = .int .i64 j ∧ Hid (PreAt f c hA hc gA gc w pb (pb + 1) wr n0 j)) (fun iv _ => f.p.slots.length - (intOf iv).toNat)
  case atStart => exact ⟨0, Nat.zero_le _, rfl, HS0⟩
  case round =>
   clear HS0 y1
   obtain ⟨j, hj, rfl, HS⟩ := hrel
   by_cases hlt : j < f.p.slots.length
   ·have ho : f.p.slots[j]? = some f.p.slots[j] := List.getElem?_eq_getElem hlt
    generalize f.p.slots[j] = n at ho
    obtain ⟨lb, lo, hA1, hcell⟩ := El.Src.form HS.out.pre.src (by omega) (by omega)
    have z0 : wr.cell? ⟨lb, lo + j, none⟩ = some (.int .i64 n) := hcell j _ (by rw [List.getElem?_map, ho]; rfl)
    have z5 : wr.cell? ⟨f.mb, 5, none⟩ = some (.map (some f.sm)) := HS.out.pre.blk.cell 5
    obtain ⟨ps, hps, hsi⟩ := HS.out.pre.slots
    have HPS := Lib.hid hps
    have HSI := Lib.hid (hsi.step HND.out ho)
    have hjb : (j : Int) ≤ 64 := by omega
    clear hcell ho hps hsi
    rw [hA1]
    go_wp2_with (at_mapUpdate; refine wpList_mapUpdate_at (P := Tryz.prog) _ rfl _ _ _ 87 rfl (intKind .i64) Tryz.underlying87 Tryz.underlying3 (m := f.sm) (ps := ps) rfl HPS.out n (.int .i64 (-(j : Int) - 1)) rfl rfl ?_; intro w5 hm5 hd5 hs5; have H5 := Lib.hid (HS.out.step hm5 HSI.out hd5); clear hm5 hd5 hs5)
    go_roundw
    case rel => exact ⟨j + 1, hlt, by go_num, H5⟩
    case measure => simp [intOf]; omega
   ·obtain rfl : j = f.p.slots.length := by omega
    have HC := Lib.hid (HS.out.done (Nat.le_refl _))
    clear HS hj hlt
    have y0 : wr.cell? ⟨pb, 0, none⟩ = some (.bool f.p.env) := HC.out.pbk.cell 0
    have y1 : wr.cell? ⟨pb, 1, none⟩ = some (.slice f.A f.p.slots.length f.cA) := HC.out.pbk.cell 1
    have hbl := bd_lev f.p n0
    have HBL := Lib.hid hbl
    clear hbl
    go_upto_if 44 with fail
    go_cut [] (fun wx => ∃ nv, Hid (CmAt f c hA hc gA gc w pb wx (envM f.p n0) nv))
    case first =>
     cases he : f.p.env with
     | true =>
      have HEM : Hid (envM f.p n0 = (⟨n0, [], []⟩ : Mk).add ⟨19, ⟨#[]⟩, f.p.slots.length, 0, 0⟩) := Lib.hid (by unfold envM; rw [he]; rfl)
      have HA := Lib.hid (mAdd ⟨19, ⟨#[]⟩, f.p.slots.length, 0, 0⟩ HC.out.at_ ⟨hbh.1, by have := hbh.2; show n0 + _ ≤ _; omega, by simp⟩)
      unfold insV at HA
      clear he
      go_wp2_with (go_at_call 43; refine HA.out.mono ?_; rintro e W6 ⟨rfl, n6, h6, s6⟩; have P6 := Lib.hid (HC.out.go h6 s6); clear h6 s6)
      go_meet
      exact ⟨n6, Lib.hid (by rw [HEM.out]; exact P6.out)⟩
     | false =>
      have HEM : Hid (envM f.p n0 = ⟨n0, [], []⟩) := Lib.hid (by unfold envM; rw [he]; rfl)
      clear he
      go_wp2_with fail
      go_meet
      exact ⟨_, Lib.hid (by rw [HEM.out]; exact HC.out)⟩
    case rest =>
     clear HC y0 y1
     obtain ⟨nv1, HC⟩ := hcut
     obtain ⟨W1, rfl⟩ : ∃ W1 : World, W1 = wc := ⟨_, rfl⟩
     have y2 : W1.cell? ⟨pb, 2, none⟩ = some (.int .i64 f.p.level) := HC.out.pbk.cell 2
     have hl0 := hlev.1
     have hl1 := hlev.2
     go_upto_if 53 with fail
     go_cut [] (fun wx => ∃ nv, Hid (CmAt f c hA hc gA gc w pb wx (levM f.p n0) nv))
     case first =>
      by_cases hl : 0 < f.p.level
      ·have dl : decide (f.p.level > 0) = true := decide_eq_true hl
       have dl2 : decide (0 < f.p.level) = true := decide_eq_true hl
       have HEM : Hid (levM f.p n0 = (envM f.p n0).add ⟨26, ⟨#[]⟩, 0, -f.p.level, 0⟩) := Lib.hid (by unfold levM; rw [if_pos hl])
       have HA := Lib.hid (mAdd ⟨26, ⟨#[]⟩, 0, -f.p.level, 0⟩ HC.out.at_ ⟨by rw [HBL.out.2.2.1]; exact hbh.1, by rw [HBL.out.2.2.1]; have := hbh.2; omega, by have := HBL.out.2.2.2; omega⟩)
       unfold insV at HA
       go_wp2_with (go_at_call 43; refine HA.out.mono ?_; rintro e W6 ⟨rfl, n6, h6, s6⟩; have P6 := Lib.hid (HC.out.go h6 s6); clear h6 s6)
       go_meet
       exact ⟨n6, Lib.hid (by rw [HEM.out]; exact P6.out)⟩
      ·have dl : decide (f.p.level > 0) = false := decide_eq_false hl
       have dl2 : decide (0 < f.p.level) = false := decide_eq_false hl
       have HEM : Hid (levM f.p n0 = envM f.p n0) := Lib.hid (by unfold levM; rw [if_neg hl])
       go_wp2_with fail
       go_meet
       exact ⟨_, Lib.hid (by rw [HEM.out]; exact HC.out)⟩
     case rest =>
      clear HC y2
      obtain ⟨nv2, HC⟩ := hcut
      obtain ⟨W2, rfl⟩ : ∃ W2 : World, W2 = wc := ⟨_, rfl⟩
      have y3 : W2.cell? ⟨w.heap.size, 3, none⟩ = some (.slice hA c.h.l.length hc) := HC.out.cb.cell 3
      have hn1 := HBL.out.1
      have hn2 := HBL.out.2.1
      generalize levM f.p n0 = m1 at *
      go_upto_region 15 with fail
      go_loopw [64] (fun iv wr => ∃ (j : Nat) (nj : Value), j ≤ c.h.l.length ∧ iv = .int .i64 j ∧ Hid (CmAt f c hA hc gA gc w pb wr (headF f.p.slots (c.h.l.take j) 1 m1) nj)) (fun iv _ => c.h.l.length - (intOf iv).toNat)
      case atStart => exact ⟨0, nv2, Nat.zero_le _, rfl, HC⟩
      case round =>
       clear HC y3
       obtain ⟨j, nj, hj, rfl, HS⟩ := hrel
       have hbd := bd_head f.p.slots (c.h.l.take j) 1 m1
       have hst := szL_take_le c.h.l j
       have hll := len_szL c.h.l
       by_cases hlt : j < c.h.l.length
       ·have ho : c.h.l[j]? = some c.h.l[j] := List.getElem?_eq_getElem hlt
        have hsu := szL_get ho
        have HHT := headF_take f.p.slots 1 m1 ho
        generalize c.h.l[j] = u at ho hsu HHT
        generalize headF f.p.slots (c.h.l.take j) 1 m1 = mj at *
        obtain ⟨bb, off, A', c', rfl, _, hu, q0, q1, q2, q3⟩ := HS.out.cl.hd.child ho
        have RM := Lib.hid (show Rm mj (4 * szT u + 4) from ⟨by have := hbd.lo; omega, by have := hbd.hi; omega, by have := hbd.oh; omega⟩)
        rw [Int.add_comm] at HHT
        have HHT := Lib.hid HHT
        have hjb : (j : Int) ≤ 4096 := by omega
        clear hbd hst hsu ho
        go_upto_region 17 with fail
        refine wp_abs (fun W => Hid (Ext wr W) ∧ Hid (Blk W wr.heap.size 30 #[.int .i64 u.k, .int .i64 u.n, .string u.s, .slice A' u.l.length c'])) ⟨ext_box _ _, Blk.new _ _ _⟩ ?_
        rintro W ⟨HE, HU⟩
        have u9 := HU.out.cell
        have SW := Lib.hid (HS.out.ext_ HE.out)
        have HG := Lib.hid (mGet u ((j : Int) + 1) A' c' SW.out.at_ RM.out ((PStep.ext (S := f.S) (nv := nj) HE.out).tm hu))
        unfold tmVal at HG
        clear q0 q1 q2 q3 hu HS
        go_wp2_with (go_at_call 44; refine HG.out.mono ?_; rintro e W6 ⟨rfl, n6, h6, s6⟩; have P6 := Lib.hid (SW.out.go h6 s6); clear h6 s6)
        go_roundw
        case rel => exact ⟨j + 1, n6, hlt, by go_num, Lib.hid (by rw [HHT.out]; exact P6.out)⟩
        case measure => simp [intOf]; omega
       ·obtain rfl : j = c.h.l.length := by omega
        rw [List.take_length] at HS hbd
        have RM : Hid (Rm (headF f.p.slots c.h.l 1 m1) (5 * szG c.gs + 10)) := Lib.hid ⟨by have := hbd.lo; omega, by have := hbd.hi; omega, by have := hbd.oh; omega⟩
        have z4 : wr.cell? ⟨w.heap.size, 4, none⟩ = some (.slice gA c.gs.length gc) := HS.out.cb.cell 4
        generalize headF f.p.slots c.h.l 1 m1 = m2 at *
        have HG := Lib.hid (mGoals c.gs gA gc HS.out.at_ RM.out HS.out.cl.gs hlev hcnt (by omega))
        clear hbd hst hll hj hlt
        go_upto_region 20 with (go_at_call 45; refine HG.out.mono ?_; rintro e W6 ⟨rfl, n6, h6, s6⟩; have P6 := Lib.hid (HS.out.go h6 s6); clear h6 s6)
        rw [← HMK.out] at P6
        have HFU := Lib.hid (mFull P6.out.at_)
        generalize makeF c = mk at *
        cases hfu : mk.full with
        | true =>
         rw [hfu] at HFU
         have HCM := Lib.hid (HCF.out.trans (if_pos hfu))
         clear hfu HG HS z4
         go_wp2_with (go_at_call 46; refine HFU.out.mono ?_; rintro e V1 ⟨rfl, hv⟩; obtain rfl := hv.symm)
         go_ret2
         exact cm_bad HCM.out P6.out.ext
        | false =>
         rw [hfu] at HFU
         have HCM := Lib.hid (HCF.out.trans (if_neg (by simp [hfu])))
         obtain ⟨Ao, co, rfl⟩ := own_value P6.out.at_.own
         have z7 : W6.cell? ⟨f.mb, 7, none⟩ = some (.slice Ao mk.out.length co) := P6.out.at_.cells.c7
         clear hfu HG HS z4
         go_wp2_with (go_at_call 46; refine HFU.out.mono ?_; rintro e V1 ⟨rfl, hv⟩; obtain rfl := hv.symm)
         go_ret2
         unfold CmPost
         rw [HCM.out]
         exact ⟨Ao, co, rfl, P6.out.at_.own, P6.out.nf, P6.out.ext⟩
theorem mCompile (c : Cls) (hA : Option Addr) (hc : Nat) (gA : Option Addr) (gc : Nat) (D : Nat → Prop) (w : World) (h : ClIn D w c hA hc gA gc) (hz : ClSz c) :
  Calls Tryz.prog 13 #[.agg (clC c hA hc gA gc)] w (CmPost c w) := by
 by_cases hp : planE c = 0
 ·exact mCompile1 c hA hc gA gc D w h hz hp
 ·exact mCompile0 c hA hc gA gc D w h hz hp
end Go.Proofs.YtmnnhdegoapfcaaGreatDoor
