/- Layer 17, the program: rows of compounds that wait, with their registers. -/
import Derived.Test.YtmnnhdegoapfcaaGreatDoorP17
import Derived.Test.YtmnnhdegoapfcaaGreatDoorP01
import Derived.Deep.AppendSrc
namespace Go.Proofs.YtmnnhdegoapfcaaGreatDoor
open Go.RowKit Go.El
structure WiV where
 t : Tm
 v : Int
 A : Option Addr
 c : Nat
def wiC (x : WiV) : List Value := [.int .i64 x.t.k, .int .i64 x.t.n, .string x.t.s, .slice x.A x.t.l.length x.c, .int .i64 x.v]
theorem wiC_one (x : WiV) : ∀ u ∈ wiC x, u.oneCell' = true := by
 intro u hu
 simp only [wiC, List.mem_cons, List.not_mem_nil, or_false] at hu
 rcases hu with rfl | rfl | rfl | rfl | rfl <;> rfl
theorem wiInfo : (Tryz.prog.info? 143).map (fun i => (i.zero, i.size, i.bytes)) = some (some (.agg #[.int .i64 0, .int .i64 0, .string ⟨#[]⟩, .slice none 0 0, .int .i64 0]), 5, 64) := by kernel_rfl
structure WiAt (f : MF) (D : Nat → Prop) (w : World) (nv0 : Value) (x : WiV) (wr : World) (m : Mk) (nv qv : Value) (Q : List WiV) : Prop where
 at_ : MkAt f wr m nv
 st : PStep f.S nv0 w nv wr
 bx : Blk wr w.heap.size 143 #[.int .i64 x.t.k, .int .i64 x.t.n, .string x.t.s, .slice x.A x.t.l.length x.c, .int .i64 x.v]
 tc : Clr2 f.S nv wr w.heap.size
 tm : TmIn (fun k => Clr2 f.S nv wr k ∧ D k) wr x.t x.A x.c
 own : wr.ownsRow 0 143 5 qv Q.length (flat wiC Q)
 low : ∀ k, D k → k < w.heap.size
 far : ∀ k, qv.ownBlock = some k → w.heap.size < k ∧ MkNo f k ∧ nv.ownBlock ≠ some k
 kid : ∀ y ∈ Q, TmIn (fun k => Clr2 f.S nv wr k ∧ D k) wr y.t y.A y.c
theorem WiAt.go {f : MF} {D : Nat → Prop} {w : World} {nv0 : Value} {x : WiV} {wr w' : World} {m m' : Mk} {nv nv' qv : Value} {Q : List WiV} (h : WiAt f D w nv0 x wr m nv qv Q) (hm : MkAt f w' m' nv') (s : PStep f.S nv wr nv' w') : WiAt f D w nv0 x w' m' nv' qv Q := by
 have key : ∀ k, qv.ownBlock = some k → Clr2 f.S nv wr k := fun k hk => ⟨(h.far k hk).2.1.s, (h.far k hk).2.2, own_lt h.own hk⟩
 refine ⟨hm, h.st.trans s, h.bx.mods s.mods h.tc.no, s.clr h.tc, TmIn.mods s.mods (fun _ hk => hk.1.no) (fun _ hk => ⟨s.clr hk.1, hk.2⟩) h.tm, own_mods h.own s.mods (fun b hb => (key b hb).no), h.low, fun k hk => ⟨(h.far k hk).1, (h.far k hk).2.1, (s.clr (key k hk)).2.1⟩, fun y hy => TmIn.mods s.mods (fun _ hk => hk.1.no) (fun _ hk => ⟨s.clr hk.1, hk.2⟩) (h.kid y hy)⟩
theorem WiAt.ext {f : MF} {D : Nat → Prop} {w : World} {nv0 : Value} {x : WiV} {wr w' : World} {m : Mk} {nv qv : Value} {Q : List WiV} (h : WiAt f D w nv0 x wr m nv qv Q) (e : Ext wr w') : WiAt f D w nv0 x w' m nv qv Q :=
 h.go (h.at_.ext e) (PStep.ext e)
theorem MkAt.turn {f : MF} {w w' : World} {m : Mk} {nv : Value} {T : List Nat} (h : MkAt f w m nv) (hd : Mods T w w') (hT : ∀ k ∈ T, MkNo f k ∧ nv.ownBlock ≠ some k) : MkAt f w' m nv := by
 have h1 : f.mb ∉ T := fun e => (hT _ e).1.s (by simp [MF.S])
 have h2 : f.rm ∉ T := fun e => (hT _ e).1.s (by simp [MF.S])
 have hc : ∀ j, Clr2 f.S nv w j → Clr2 f.S nv w' j := fun j hj => ⟨hj.1, hj.2.1, Nat.lt_of_lt_of_le hj.2.2 hd.size⟩
 obtain ⟨ps, g1, g2⟩ := h.slots
 exact ⟨h.blk.mods hd h1, own_mods h.own hd (fun b hb e => (hT b e).2 hb), ⟨ps, g1.mods hd (fun e => (hT _ e).1.m rfl), g2⟩, h.regs.mods hd h2, h.live.mods hd (fun a ha e => (hT _ e).1.l a ha rfl), hc _ h.cs, fun a ha => hc _ (h.cl a ha), h.pm, h.np, h.nm⟩
theorem WiAt.more {f : MF} {D : Nat → Prop} {w : World} {nv0 : Value} {x y : WiV} {wr w' : World} {m : Mk} {nv qv qv' : Value} {Q : List WiV} (h : WiAt f D w nv0 x wr m nv qv Q) (hy : TmIn (fun k => Clr2 f.S nv wr k ∧ D k) wr y.t y.A y.c)
  (ho : w'.ownsRow 0 143 5 qv' (Q.length + 1) (flat wiC Q ++ wiC y)) (hm : Mods (ownL qv) wr w') (hb : qv'.ownBlock = qv.ownBlock ∨ qv'.ownBlock = some wr.heap.size) : WiAt f D w nv0 x w' m nv qv' (Q ++ [y]) := by
 have hT : ∀ k ∈ ownL qv, MkNo f k ∧ nv.ownBlock ≠ some k := fun k hk => (h.far k (mem_ownL2 hk)).2
 have hw : ∀ k ∈ ownL qv, w.heap.size < k := fun k hk => (h.far k (mem_ownL2 hk)).1
 have hc : ∀ j, Clr2 f.S nv wr j → Clr2 f.S nv w' j := fun j hj => ⟨hj.1, hj.2.1, Nat.lt_of_lt_of_le hj.2.2 hm.size⟩
 have hbx := h.bx.lt
 have ht : ∀ {t : Tm} {A : Option Addr} {c : Nat}, TmIn (fun k => Clr2 f.S nv wr k ∧ D k) wr t A c → TmIn (fun k => Clr2 f.S nv w' k ∧ D k) w' t A c := fun g => TmIn.mods hm (fun k hk e => by have := hw k e; have := h.low k hk.2; omega) (fun k hk => ⟨hc k hk.1, hk.2⟩) g
 refine ⟨h.at_.turn hm hT, ⟨h.st.mods.step hm (fun k hk => .inr (Nat.le_of_lt (hw k hk))), h.st.own⟩, h.bx.mods hm (fun e => by have := hw _ e; omega), hc _ h.tc, ht h.tm, ?_, h.low, fun k hk => ?_, fun z hz => ?_⟩
 ·rw [List.length_append, flat_append]
  simpa [flat] using ho
 ·rcases hb with e | e
  ·exact h.far k (e.symm.trans hk)
  ·have e1 := e.symm.trans hk
   injection e1 with e1
   have hn := h.at_.no (k := k) (by omega)
   exact ⟨by omega, hn.1, hn.2⟩
 ·rcases List.mem_append.1 hz with hz | hz
  ·exact ht (h.kid z hz)
  ·simp at hz
   subst hz
   exact ht hy
end Go.Proofs.YtmnnhdegoapfcaaGreatDoor

/- Layer 17, the program: the walk of structure. -/
namespace Go.Proofs.YtmnnhdegoapfcaaGreatDoor
open Go.RowKit Go.El
structure KidAt (f : MF) (D : Nat → Prop) (bx : Nat) (u : Tm) (A : Option Addr) (c : Nat) (w : World) (nv : Value) : Prop where
 blk : Blk w bx 30 #[.int .i64 u.k, .int .i64 u.n, .string u.s, .slice A u.l.length c]
 clr : Clr2 f.S nv w bx
 tm : TmIn (fun k => Clr2 f.S nv w k ∧ D k) w u A c
theorem KidAt.go {f : MF} {D : Nat → Prop} {bx : Nat} {u : Tm} {A : Option Addr} {c : Nat} {w w' : World} {nv nv' : Value} (h : KidAt f D bx u A c w nv) (s : PStep f.S nv w nv' w') : KidAt f D bx u A c w' nv' :=
 ⟨h.blk.mods s.mods h.clr.no, s.clr h.clr, TmIn.mods s.mods (fun _ hk => hk.1.no) (fun _ hk => ⟨s.clr hk.1, hk.2⟩) h.tm⟩
theorem KidAt.ext {f : MF} {D : Nat → Prop} {bx : Nat} {u : Tm} {A : Option Addr} {c : Nat} {w w' : World} {nv : Value} (h : KidAt f D bx u A c w nv) (x : Ext w w') : KidAt f D bx u A c w' nv := h.go (PStep.ext x)
def wiP (y : WiV) : Tm × Int := (y.t, y.v)
theorem szO_len : ∀ q : List (Tm × Int), q.length ≤ szO q
 | [] => Nat.le_refl _
 | x :: q => by
  have := szO_len q
  simp only [List.length_cons, szO]
  omega
theorem WiAt.start {f : MF} {D : Nat → Prop} {w : World} {m : Mk} {nv : Value} {x : WiV} (h : MkAt f w m nv) (hD : ∀ k, D k → k < w.heap.size) (ht : TmIn (fun k => Clr2 f.S nv w k ∧ D k) w x.t x.A x.c) :
  WiAt f D w nv x (w.alloc (.cells #[.int .i64 x.t.k, .int .i64 x.t.n, .string x.t.s, .slice x.A x.t.l.length x.c, .int .i64 x.v] 143)) m nv (.slice none 0 0) [] := by
 have e := ext_box w (.cells #[.int .i64 x.t.k, .int .i64 x.t.n, .string x.t.s, .slice x.A x.t.l.length x.c, .int .i64 x.v] 143)
 have hn := h.no (k := w.heap.size) (Nat.le_refl _)
 refine ⟨h.ext e, PStep.ext e, Blk.new _ _ _, ⟨hn.1.s, hn.2, by simp⟩, TmIn.mods (Mods.ext (S := []) e) (fun _ _ => by simp) (fun k hk => ⟨(PStep.ext e).clr hk.1, hk.2⟩) ht, World.ownsRow_nil _ _ _ _, hD, fun k hk => by simp [Value.ownBlock] at hk, fun y hy => by simp at hy⟩
set_option maxRecDepth 100000 in
set_option maxHeartbeats 4000000 in
theorem mStruc {f : MF} (D : Nat → Prop) (x : WiV) {w : World} {m : Mk} {nv : Value} (h : MkAt f w m nv) (hr : Rm m (2 * szT x.t + 2)) (hD : ∀ k, D k → k < w.heap.size) (ht : TmIn (fun k => Clr2 f.S nv w k ∧ D k) w x.t x.A x.c) :
  Calls Tryz.prog 87 #[.pointer (some ⟨f.mb, 0, none⟩), .agg #[.int .i64 x.t.k, .int .i64 x.t.n, .string x.t.s, .slice x.A x.t.l.length x.c, .int .i64 x.v]] w fun e w' => ∃ nv' qv Q, e = .returned qv ∧ WiAt f D w nv x w' (m.struc f.p.slots (x.t, x.v)).1 nv' qv Q ∧ Q.map wiP = (m.struc f.p.slots (x.t, x.v)).2 := by
 obtain ⟨i0, hi0, hz0, hz1, hz2⟩ := infoP wiInfo
 obtain ⟨t, tv, A, c⟩ := x
 dsimp only at *
 have HS := Lib.hid (WiAt.start (x := ⟨t, tv, A, c⟩) h hD ht)
 have hz := szT_l t
 have hll := len_szL t.l
 have hrb := hr.2.1
 have hrb0 := hr.1
 have HR := Lib.hid hr
 have e0 : m.struc f.p.slots (t, tv) = (m.add ⟨5, t.s, t.l.length, 0, tv⟩).uniS f.p.slots t.l := rfl
 rw [e0]
 have RM1 := Lib.hid (hr.mono (show 1 ≤ 2 * szT t + 2 by omega))
 have B1 := Lib.hid (bd_add m ⟨5, t.s, t.l.length, 0, tv⟩)
 clear h ht hD hr e0
 go_enter Tryz.func87, Tryz.ntmps87
 go_upto_region 1 with fail
 generalize w.alloc (.cells #[.int .i64 t.k, .int .i64 t.n, .string t.s, .slice A t.l.length c, .int .i64 tv] 143) = V at HS ⊢
 have c0 : V.cell? ⟨w.heap.size, 0, none⟩ = some (.int .i64 t.k) := HS.out.bx.cell 0
 have c2 : V.cell? ⟨w.heap.size, 2, none⟩ = some (.string t.s) := HS.out.bx.cell 2
 have c3 : V.cell? ⟨w.heap.size, 3, none⟩ = some (.slice A t.l.length c) := HS.out.bx.cell 3
 have c4 : V.cell? ⟨w.heap.size, 4, none⟩ = some (.int .i64 tv) := HS.out.bx.cell 4
 have HA := Lib.hid (mAdd ⟨5, t.s, t.l.length, 0, tv⟩ HS.out.at_ RM1.out)
 unfold insV at HA
 go_upto_region 3 with (go_at_call 43; refine HA.out.mono ?_; rintro e W1 ⟨rfl, n1, h1, s1⟩; have P1 := Lib.hid (HS.out.go h1 s1); have d3 : W1.cell? ⟨w.heap.size, 3, none⟩ = some (.slice A t.l.length c) := P1.out.bx.cell 3; clear h1 s1)
 generalize hm1 : m.add ⟨5, t.s, t.l.length, 0, tv⟩ = m1 at *
 have HM1 := Lib.hid hm1
 clear hm1 HA HS c0 c2 c3 c4
 go_upto_region 4 with fail
 go_loopw [5, 25] (fun qv i wr => ∃ (j : Nat) (nj : Value) (Q : List WiV), j ≤ t.l.length ∧ i = .int .i64 j ∧ Hid (WiAt f D w nv ⟨t, tv, A, c⟩ wr (m1.uniS f.p.slots (t.l.take j)).1 nj qv Q) ∧ Hid (Q.map wiP = (m1.uniS f.p.slots (t.l.take j)).2)) (fun _ i _ => t.l.length - (intOf i).toNat)
 case atStart => exact ⟨0, n1, [], Nat.zero_le _, rfl, P1, rfl⟩
 case round =>
  clear P1 d3
  obtain ⟨j, nj, Q, hj, rfl, HP, HQ⟩ := hrel
  by_cases hlt : j < t.l.length
  ·have ho : t.l[j]? = some t.l[j] := List.getElem?_eq_getElem hlt
   have hst := uniS_take f.p.slots m1 ho
   have hbd := (bd_uniS f.p.slots (t.l.take j) m1).1
   have htl : (t.l.take j).length = j := by rw [List.length_take]; omega
   rw [htl] at hbd
   have hQn := Nat.le_trans (szO_len _) (Nat.le_trans (Nat.le_add_left _ _) (bd_uniS f.p.slots (t.l.take j) m1).2.2)
   have hsl := szL_take_le t.l j
   generalize t.l[j] = u at ho hst
   have HST := Lib.hid hst
   generalize m1.uniS f.p.slots (t.l.take j) = q at *
   obtain ⟨mj, Lj⟩ := q
   simp only at hbd HP HQ
   have RM2 := Lib.hid (show Rm mj 2 from ⟨by have := hbd.lo; have := B1.out.lo; omega, by have := hbd.hi; have := B1.out.hi; omega, by have := hbd.oh; have := B1.out.oh; have := HR.out.2.2; omega⟩)
   have hbl := RM2.out.1
   have hbh := RM2.out.2.1
   have hQl : Hid (Q.length ≤ 1000000000) := by
    have h1 := congrArg List.length HQ.out
    rw [List.length_map] at h1
    simp only at hQn h1
    show Q.length ≤ _
    omega
   clear hst hbd htl hQn hsl
   obtain ⟨bb, off, A', c', rfl, _, hu, q0, q1, q2, q3⟩ := HP.out.tm.child ho
   clear ho
   go_upto_region 6 with fail
   refine wp_abs (fun W => Hid (Ext wr W) ∧ Hid (Blk W wr.heap.size 30 #[.int .i64 u.k, .int .i64 u.n, .string u.s, .slice A' u.l.length c'])) ⟨ext_box _ _, Blk.new _ _ _⟩ ?_
   rintro W ⟨HE, HU⟩
   have PW := Lib.hid (HP.out.ext HE.out)
   have hxn := HP.out.at_.no (k := wr.heap.size) (Nat.le_refl _)
   have KW : Hid (KidAt f D wr.heap.size u A' c' W nj) := Lib.hid ⟨HU.out, ⟨hxn.1.s, hxn.2, HU.out.lt⟩, TmIn.mods (Mods.ext (S := []) HE.out) (fun _ _ => by simp) (fun k hk => ⟨(PStep.ext HE.out).clr hk.1, hk.2⟩) hu⟩
   clear q0 q1 q2 q3 hu hxn
   have x9 := HU.out.cell
   have x8 := (HU.out.ext ((Ext.refl W).drew)).cell
   have HM2 := fun V (x : Ext W V) => Lib.hid (mSimple u A' c' 6 0 (PW.out.at_.ext x) RM2.out)
   have HSE := fun V => Lib.hid (mUnis V)
   generalize wr.heap.size = bx at *
   unfold tmVal opsV at HM2
   unfold opsV at HSE
   cases hq : mj.simple f.p.slots u 6 0 with
   | some m' =>
    rw [hq] at HM2 HST
    simp only [Option.isSome_some, Option.getD_some] at HM2 HST
    clear hq
    (first | (go_region_law ((first
     | (go_simp; go_at_call 132; refine (HSE _).out.mono ?_; rintro e V1 ⟨rfl, x1⟩; have X1 := Lib.hid ((Ext.refl _).drew.trans x1); have v9 := (HU.out.ext X1.out).cell; clear x1)
     | (go_simp; go_at_call 85; refine (HM2 _ X1.out).out.mono ?_; rintro e V2 ⟨rfl, n2, h2, s2⟩; have P2 := Lib.hid ((PW.out.ext X1.out).go h2 s2); clear h2 s2)))) | fail "region 6")
    all_goals
     go_wp2_with fail
     go_roundw
     case rel => exact ⟨j + 1, n2, Q, hlt, by go_num, Lib.hid (by rw [HST.out]; exact P2.out), Lib.hid (by rw [HST.out]; exact HQ.out)⟩
     case measure => simp [intOf]; omega
   | none =>
    rw [hq] at HM2 HST
    simp only [Option.isSome_none, Option.getD_none] at HM2 HST
    clear hq
    (first | (go_region_law ((first
     | (go_simp; go_at_call 132; refine (HSE _).out.mono ?_; rintro e V1 ⟨rfl, x1⟩; have X1 := Lib.hid ((Ext.refl _).drew.trans x1); have v9 := (HU.out.ext X1.out).cell; clear x1)
     | (go_simp; go_at_call 85; refine (HM2 _ X1.out).out.mono ?_; rintro e V2 ⟨rfl, n2, h2, s2⟩; have P2 := Lib.hid ((PW.out.ext X1.out).go h2 s2); have K2 := Lib.hid ((KW.out.ext X1.out).go s2); clear h2 s2)))) | fail "region 6")
    all_goals
     clear x9 x8 v9 HM2 HSE PW KW HU HE
     have HT := Lib.hid (mTake P2.out.at_ (RM2.out.mono (by omega)))
     go_upto_region 8 with (go_at_call 133; refine HT.out.mono ?_; rintro e V3 ⟨rfl, h3, s3⟩; have P3 := Lib.hid (P2.out.go h3 s3); have K3 := Lib.hid (K2.out.go s3); clear h3 s3)
     have HA := Lib.hid (mAdd ⟨6, ⟨#[]⟩, 0, mj.next + 1, 0⟩ P3.out.at_ (RM2.out.go (a := 1) (b := 0) (k := 1) (bd_take mj)))
     unfold insV at HA
     go_upto_region 9 with (go_at_call 43; refine HA.out.mono ?_; rintro e V4 ⟨rfl, n4, h4, s4⟩; have P4 := Lib.hid (P3.out.go h4 s4); have K4 := Lib.hid (K3.out.go s4); clear h4 s4)
     have z0 : V4.cell? ⟨bx, 0, none⟩ = some (.int .i64 u.k) := K4.out.blk.cell 0
     have z1 : V4.cell? ⟨bx, 1, none⟩ = some (.int .i64 u.n) := K4.out.blk.cell 1
     have z2 : V4.cell? ⟨bx, 2, none⟩ = some (.string u.s) := K4.out.blk.cell 2
     have z3 : V4.cell? ⟨bx, 3, none⟩ = some (.slice A' u.l.length c') := K4.out.blk.cell 3
     obtain ⟨Aq, cq, rfl⟩ := own_value P4.out.own
     have HN := fun (o : Obj) => Lib.hid (P4.out.ext ((Ext.refl V4).alloc o))
     have HK := fun (o : Obj) => Lib.hid (K4.out.ext ((Ext.refl V4).alloc o))
     have hql := hQl.out
     go_wp2_with (at_builtin; refine wpList_append_src (P := Tryz.prog) rfl (.tmp 39) (.tmp 43) 144 rfl 143 i0 _ 5 64 Tryz.underlying144 hi0 hz0 hz1 hz2 rfl (by omega) (.slice Aq Q.length cq) rfl _ _ _ rfl Q.length (flat wiC Q) (HN _).out.own (wiC ⟨u, mj.next + 1, A', c'⟩) (El.Src.new _ #[.int .i64 u.k, .int .i64 u.n, .string u.s, .slice A' u.l.length c', .int .i64 (mj.next + 1)] _ 1 5 rfl) (wiC_one _) (by unfold maxLen; omega) (by omega) ?_; intro v5 w5 ho5 hm5 hb5; have P5 := Lib.hid ((HN _).out.more (y := ⟨u, mj.next + 1, A', c'⟩) (HK _).out.tm ho5 hm5 hb5); clear ho5 hm5 hb5)
     go_roundw
     case rel => exact ⟨j + 1, n4, Q ++ [⟨u, mj.next + 1, A', c'⟩], hlt, by go_num, Lib.hid (by rw [HST.out]; exact P5.out), Lib.hid (by rw [HST.out, List.map_append, HQ.out]; rfl)⟩
     case measure => simp [intOf]; omega
  ·have hje : t.l.length ≤ j := by omega
   rw [List.take_of_length_le hje] at HP HQ
   obtain ⟨Aq, cq, rfl⟩ := own_value HP.out.own
   go_wp2_with fail
   go_ret
   exact ⟨nj, _, Q, rfl, by rw [HM1.out]; exact HP.out, by rw [HM1.out]; exact HQ.out⟩
end Go.Proofs.YtmnnhdegoapfcaaGreatDoor

/- Slices that are cut from their head and appended to: where they lie, whatever their offset. Over any program. -/
namespace Go.El
open Go.RowKit
structure CutAt (w : World) (k b off len cap : Nat) (xs : List Value) : Prop where
 le : len ≤ cap
 xl : xs.length = len * k
 holds : ∀ j u, xs[j]? = some u → w.cell? ⟨b, off + j, none⟩ = some u
 there : ∀ j, j < cap * k → (w.cell? ⟨b, off + j, none⟩).isSome = true ∧ w.frozen? ⟨b, off + j, none⟩ = false
section
variable {w w' : World} {k b off len cap : Nat} {xs : List Value}
theorem CutAt.mods {S : List Nat} (h : CutAt w k b off len cap xs) (hm : Mods S w w') (hb : b ∉ S) (hl : b < w.heap.size) : CutAt w' k b off len cap xs := by
 have e := hm.block b hl hb
 refine ⟨h.le, h.xl, fun j u hu => ?_, fun j hj => ?_⟩
 ·rw [World.cell?_of_block (a := ⟨b, off + j, none⟩) e]
  exact h.holds j u hu
 ·rw [World.cell?_of_block (a := ⟨b, off + j, none⟩) e, World.frozen?_of_block (a := ⟨b, off + j, none⟩) e]
  exact h.there j hj
theorem CutAt.ext (h : CutAt w k b off len cap xs) (x : Ext w w') (hl : b < w.heap.size) : CutAt w' k b off len cap xs := h.mods (S := []) (Mods.ext x) (by simp) hl
theorem CutAt.tail (h : CutAt w k b off len cap xs) (h0 : 0 < len) : CutAt w k b (off + k) (len - 1) (cap - 1) (xs.drop k) := by
 have h1 := h.le
 have h2 := h.xl
 obtain ⟨l, rfl⟩ : ∃ l, len = l + 1 := ⟨len - 1, by omega⟩
 obtain ⟨c, rfl⟩ : ∃ c, cap = c + 1 := ⟨cap - 1, by omega⟩
 refine ⟨by omega, ?_, fun j u hu => ?_, fun j hj => ?_⟩
 ·rw [List.length_drop, h2, Nat.add_sub_cancel, Nat.add_mul]; omega
 ·rw [List.getElem?_drop] at hu
  have := h.holds _ u hu
  rwa [← Nat.add_assoc] at this
 ·rw [Nat.add_sub_cancel] at hj
  have := h.there (k + j) (by rw [Nat.add_mul]; omega)
  rwa [← Nat.add_assoc] at this
theorem CutAt.last (h : CutAt w k b off len 1 xs) (h0 : 0 < len) : CutAt w k b off (len - 1) 0 (xs.drop k) := by
 have h1 := h.le
 have h2 := h.xl
 obtain rfl : len = 1 := by omega
 refine ⟨by omega, ?_, fun j u hu => ?_, fun j hj => by omega⟩
 ·rw [List.length_drop, h2]; omega
 ·rw [List.getElem?_drop] at hu
  have := (List.getElem?_eq_some_iff.1 hu).1
  omega
theorem CutAt.src (h : CutAt w k b off len cap xs) : Src w (some ⟨b, off, none⟩) len k xs :=
 ⟨h.xl, fun _ => ⟨_, rfl, fun j u hu => by rw [Addr.add_lit]; exact h.holds j u hu⟩⟩
theorem CutAt.new (w : World) (cs : Array Value) (t : TypeId) (n k : Nat) (h : cs.size = n * k) : CutAt (w.alloc (.cells cs t)) k w.heap.size 0 n n cs.toList := by
 have hB := Blk.new w t cs
 refine ⟨Nat.le_refl _, by simpa using h, fun j u hu => ?_, fun j hj => ?_⟩
 ·rw [Nat.zero_add, hB.cell]
  simpa using hu
 ·rw [Nat.zero_add, hB.cell]
  refine ⟨?_, hB.frozen j⟩
  rw [Array.getElem?_eq_getElem (by omega)]
  rfl
end
theorem mods_setCells (b : Nat) : ∀ (vs : List Value) (o : Nat) (w : World), Mods [b] w (w.setCells b o vs)
 | [], _, w => Mods.refl _ w
 | v :: r, o, w => by
  rw [World.setCells]
  exact ((Mods.refl [b] w).setCell (p := ⟨b, o, none⟩) (.inl (by simp)) v).trans (mods_setCells b r (o + 1) _)
theorem src_go {P : Program} {w : World} {A : Option Addr} {m c size : Nat} {news : List Value} {t e : TypeId} (ht : P.underlying t = some (.slice e)) (h : Src w A m size news) (h1 : ∀ u ∈ news, u.oneCell' = true) : Go.Src P size t (.slice A m c) m news w := by
 rcases A with _ | a
 ·have hm : m = 0 := by
   rcases Nat.eq_zero_or_pos m with h' | h'
   ·exact h'
   ·obtain ⟨a, ha, _⟩ := h.2 h'
    cases ha
  subst hm
  have hnil : news = [] := List.eq_nil_of_length_eq_zero (by simpa using h.1)
  subst hnil
  exact Go.Src.ofNil w ht c
 ·refine Go.Src.ofSlice w ht a m c news h.1 (fun j u hu => ?_) h1
  rcases Nat.eq_zero_or_pos m with h' | h'
  ·subst h'
   have hnil : news = [] := List.eq_nil_of_length_eq_zero (by simpa using h.1)
   subst hnil
   simp at hu
  ·obtain ⟨a', ha, hc⟩ := h.2 h'
   injection ha with ha
   subst ha
   exact hc j u hu
theorem run_append_cut {P : Program} (w : World) (t ty e : TypeId) (i : TypeInfo) (z : Value) (size bytes : Nat) (ht : P.underlying t = some (.slice e)) (hi : P.info? e = some i) (hz : i.zero = some z)
  (hsize : i.size = size) (hby : i.bytes = bytes) (hzs : z.cells.size = size) (b off len cap : Nat) (xs : List Value) (h : CutAt w size b off len cap xs) (hb : b < w.heap.size)
  (A : Option Addr) (m c : Nat) (news : List Value) (hs : Src w A m size news) (h1 : ∀ u ∈ news, u.oneCell' = true) (h63 : len + m ≤ maxLen) (hbytes : (len + m) * bytes ≤ 140737488355328) :
  ∃ b' off' cap' w', (Builtin.append_ #[t, t] ty #[.slice (some ⟨b, off, none⟩) len cap, .slice A m c]).run P w = .ok (.slice (some ⟨b', off', none⟩) (len + m) cap') w' ∧ CutAt w' size b' off' (len + m) cap' (xs ++ news) ∧ Mods [b] w w' ∧ (b' = b ∨ b' = w.heap.size) ∧ b' < w'.heap.size := by
 subst hsize
 subst hby
 have hS := src_go (P := P) (c := c) ht hs h1
 have hxl := h.xl
 have hnl := hs.1
 have hL : (xs ++ news).length = (len + m) * i.size := by rw [List.length_append, hxl, hnl, Nat.add_mul]
 by_cases hfit : len + m ≤ cap
 ·have hrc : (len + m) * i.size ≤ cap * i.size := Nat.mul_le_mul_right _ hfit
  rw [Nat.add_mul] at hrc
  have hsome : ∀ j, j < news.length → (w.cell? ⟨b, off + len * i.size + j, none⟩).isSome = true := fun j hj => by rw [Nat.add_assoc]; exact (h.there _ (by omega)).1
  have hrun := run_append_room_src (P := P) w t t ty e i ht hi b off len cap (.slice A m c) m news hS hfit hsome (fun j hj => by rw [Nat.add_assoc]; exact (h.there _ (by omega)).2)
  have hmd := mods_setCells b news (off + len * i.size) w
  refine ⟨b, off, cap, _, hrun, ⟨hfit, hL, fun j u hu => ?_, fun j hj => ⟨?_, (World.frozen?_setCells b _ _ _ _).trans (h.there j hj).2⟩⟩, hmd, .inl rfl, Nat.lt_of_lt_of_le hb hmd.size⟩
  ·by_cases hj : j < xs.length
   ·rw [World.cell?_setCells_out b _ _ _ _ (fun _ _ => Or.inl (by show off + j < off + len * i.size; omega))]
    rw [List.getElem?_append_left hj] at hu
    exact h.holds j u hu
   ·rw [List.getElem?_append_right (by omega)] at hu
    have hj2 := (List.getElem?_eq_some_iff.1 hu).1
    have := World.cell?_setCells_in b news (off + len * i.size) w hsome (j - xs.length) hj2
    rw [show off + len * i.size + (j - xs.length) = off + j by omega] at this
    rw [this]
    rw [List.getElem?_eq_getElem hj2] at hu
    exact hu
  ·by_cases hj2 : len * i.size ≤ j ∧ j < len * i.size + news.length
   ·have := World.cell?_setCells_in b news (off + len * i.size) w hsome (j - len * i.size) (by omega)
    rw [show off + len * i.size + (j - len * i.size) = off + j by omega] at this
    rw [this]; rfl
   ·rw [World.cell?_setCells_out b _ _ _ _ (fun _ _ => by show off + j < off + len * i.size ∨ off + len * i.size + news.length ≤ off + j; omega)]
    exact (h.there j hj).1
 ·have hold : (Builtin.firstCells i.size len (.slice (some ⟨b, off, none⟩) len cap)).run P w.drew = .ok xs.toArray w.drew := run_firstCells_some w.drew i.size len ⟨b, off, none⟩ len cap xs hxl (fun j u hu => by rw [Addr.add_lit]; exact h.holds j u hu)
  have hrun := run_append_grow_src (P := P) w t t ty e i z ht hi hz (some ⟨b, off, none⟩) len cap xs hold (.slice A m c) m news hS (by omega) (by unfold maxLen at h63; omega) (growslice_fits (by omega) hbytes)
  have hge := grownCap_ge w (len + m) cap e
  have hB := Blk.new w.drew e ((xs ++ news).toArray ++ Builtin.zeroCells z.cells (grownCap w (len + m) cap e - (len + m)))
  refine ⟨w.heap.size, 0, _, _, hrun, ⟨hge, hL, fun j u hu => ?_, fun j hj => ?_⟩, Mods.ext (((Ext.refl w).drew).alloc _), .inr rfl, hB.lt⟩
  ·rw [Nat.zero_add]
   refine (hB.cell j).trans ?_
   have hj := (List.getElem?_eq_some_iff.1 hu).1
   rw [Array.getElem?_append_left (by simpa using hj)]
   simpa using hu
  ·rw [Nat.zero_add]
   refine ⟨?_, hB.frozen j⟩
   have e1 : (w.drew.alloc (.cells ((xs ++ news).toArray ++ Builtin.zeroCells z.cells (grownCap w (len + m) cap e - (len + m))) e)).cell? ⟨w.heap.size, j, none⟩ = _ := hB.cell j
   rw [e1, Array.getElem?_eq_getElem]
   ·rfl
   ·rw [Array.size_append, size_zeroCells, hzs]
    simp only [List.size_toArray]
    rw [hL, ← Nat.add_mul]
    have : len + m + (grownCap w (len + m) cap e - (len + m)) = grownCap w (len + m) cap e := by omega
    rw [this]
    exact hj
theorem step_append_cut {P : Program} {w : World} {ops : Array Oper} {o : Oper} {a : Act} {K : Act → World → Prop} {Q : Exit → Act → World → Prop} {E : Prop} (hgd : o.guard = none) (s x : Operand) (t : TypeId)
  (ho : o.op = .call { callee := .builtin .append, args := #[s, x], argTypes := #[t, t] })
  (e : TypeId) (i : TypeInfo) (z : Value) (size bytes : Nat) (ht : P.underlying t = some (.slice e)) (hi : P.info? e = some i) (hz : i.zero = some z)
  (hsize : i.size = size) (hby : i.bytes = bytes) (hzs : z.cells.size = size) (b off len cap : Nat) (hs : a.eval s = .slice (some ⟨b, off, none⟩) len cap) (A : Option Addr) (m c : Nat) (hx : a.eval x = .slice A m c)
  (xs : List Value) (hc : CutAt w size b off len cap xs) (hb : b < w.heap.size) (news : List Value) (hr : Src w A m size news) (h1 : ∀ u ∈ news, u.oneCell' = true)
  (h63 : len + m ≤ maxLen) (hbytes : (len + m) * bytes ≤ 140737488355328)
  (h : ∀ b' off' cap' w', CutAt w' size b' off' (len + m) cap' (xs ++ news) → Mods [b] w w' → (b' = b ∨ b' = w.heap.size) → b' < w'.heap.size → K (a.put o.dst (.slice (some ⟨b', off', none⟩) (len + m) cap')) w') :
  if Region.wanted o (yielded ops a.tmps) = true then Oper.wp P o a w K Q else E := by
 have hw : Region.wanted o (yielded ops a.tmps) = true := by simp [Region.wanted, hgd]
 rw [if_pos hw]
 obtain ⟨b', off', cap', w', hrun, h2, h3, h4, h5⟩ := run_append_cut (P := P) w t o.type e i z size bytes ht hi hz hsize hby hzs b off len cap xs hc hb A m c news hr h1 h63 hbytes
 unfold Oper.wp execOp
 simp only [ho, resolve, invoke, builtin, Sem.run_bind, Sem.run_pure, Result.andThen_ok, List.map_toArray, List.map_cons, List.map_nil, hs, hx, hrun]
 exact h _ _ _ w' h2 h3 h4 h5
end Go.El
