/- Layer 17, the program: the walk of get. -/
import Derived.Test.YtmnnhdegoapfcaaGreatDoorP38
import Derived.Deep.LoopGhost
namespace Go.El
open Go.RowKit
def szQ : List (Tm × Int) → Nat
 | [] => 0
 | x :: q => szT x.1 + szQ q
theorem szQ_app : ∀ (a b : List (Tm × Int)), szQ (a ++ b) = szQ a + szQ b
 | [], b => by simp [szQ]
 | x :: a, b => by simp only [List.cons_append, szQ]; rw [szQ_app a b]; omega
theorem szQ_uniS (S : List Int) : ∀ (l : List Tm) (m : Mk), szQ (m.uniS S l).2 ≤ szL l
 | [], m => Nat.le_refl _
 | t :: r, m => by
  simp only [Mk.uniS, szL]
  split
  ·next m' h =>
   have := szQ_uniS S r m'
   omega
  ·have := szQ_uniS S r (m.take.add ⟨6, ⟨#[]⟩, 0, m.next + 1, 0⟩)
   simp only [szQ]
   omega
theorem szQ_struc (S : List Int) (m : Mk) (x : Tm × Int) (q : List (Tm × Int)) : szQ (q ++ (m.struc S x).2) < szQ (x :: q) := by
 have h := szQ_uniS S x.1.l (m.add ⟨5, x.1.s, x.1.l.length, 0, x.2⟩)
 have hz := szT_l x.1
 rw [szQ_app]
 simp only [szQ]
 have e : (m.struc S x).2 = ((m.add ⟨5, x.1.s, x.1.l.length, 0, x.2⟩).uniS S x.1.l).2 := rfl
 rw [e]
 omega
theorem queue_full {S : List Int} {n : Nat} {m : Mk} {q : List (Tm × Int)} (h : m.full = true) : m.queue S n q = m := by
 cases n with
 | zero => rfl
 | succ n => cases q with
  | nil => rfl
  | cons x q => simp only [Mk.queue, h, if_true]
theorem queue_nil {S : List Int} {n : Nat} {m : Mk} : m.queue S n [] = m := by
 cases n <;> rfl
structure QuP (S : List Int) (m0 : Mk) (t : Tm) (a : Int) (m : Mk) (q : List (Tm × Int)) : Prop where
 same : ∃ n, szQ q ≤ n ∧ m0.queue S (szT t) [(t, a)] = m.queue S n q
 lo : m0.next ≤ m.next
 hn : m.next + szN q ≤ m0.next + szL t.l
 ho : m.out.length + szO q ≤ m0.out.length + 1 + 2 * szL t.l
theorem QuP.start (S : List Int) (m : Mk) (t : Tm) (a : Int) : QuP S m t a m [(t, a)] :=
 ⟨⟨_, by simp [szQ], rfl⟩, Int.le_refl _, by simp [szN], by simp [szO]; omega⟩
theorem QuP.step {S : List Int} {m0 : Mk} {t : Tm} {a : Int} {m : Mk} {x : Tm × Int} {q : List (Tm × Int)} (h : QuP S m0 t a m (x :: q)) (hf : m.full = false) : QuP S m0 t a (m.struc S x).1 (q ++ (m.struc S x).2) := by
 obtain ⟨⟨n, hn, he⟩, h1, h2, h3⟩ := h
 obtain ⟨b1, b2, b3⟩ := bd_struc S m x
 have hs := szQ_struc S m x q
 have hlo := b1.lo
 have hhi := b1.hi
 have hoh := b1.oh
 simp only [szN] at h2
 simp only [szO] at h3
 refine ⟨?_, by omega, by rw [szN_app]; omega, by rw [szO_app]; omega⟩
 cases n with
 | zero => omega
 | succ n =>
  refine ⟨n, by omega, ?_⟩
  rw [he]
  simp only [Mk.queue, hf]
  rfl
theorem QuP.done {S : List Int} {m0 : Mk} {t : Tm} {a : Int} {m : Mk} {q : List (Tm × Int)} (h : QuP S m0 t a m q) (hf : m.full = true ∨ q = []) : m0.queue S (szT t) [(t, a)] = m := by
 obtain ⟨⟨n, hn, he⟩, _⟩ := h
 rw [he]
 rcases hf with hf | hf
 ·exact queue_full hf
 ·subst hf; exact queue_nil
end Go.El
namespace Go.Proofs.YtmnnhdegoapfcaaGreatDoor
open Go.RowKit Go.El
structure QAt (f : MF) (lo : Nat) (wr : World) (nv : Value) (b off n cap : Nat) (Q : List WiV) : Prop where
 cut : CutAt wr 5 b off n cap (flat wiC Q)
 len : n = Q.length
 clr : Clr2 f.S nv wr b
 no : MkNo f b
 new : lo ≤ b
 kid : ∀ y ∈ Q, TmIn (fun k => Clr2 f.S nv wr k ∧ k < lo) wr y.t y.A y.c
theorem QAt.go {f : MF} {lo : Nat} {wr w' : World} {nv nv' : Value} {b off n cap : Nat} {Q : List WiV} (h : QAt f lo wr nv b off n cap Q) (s : PStep f.S nv wr nv' w') : QAt f lo w' nv' b off n cap Q :=
 ⟨h.cut.mods s.mods h.clr.no h.clr.2.2, h.len, s.clr h.clr, h.no, h.new, fun y hy => TmIn.mods s.mods (fun _ hk => hk.1.no) (fun _ hk => ⟨s.clr hk.1, hk.2⟩) (h.kid y hy)⟩
structure GetAt (f : MF) (w : World) (nv0 : Value) (wr : World) (m : Mk) (nv : Value) (b off n cap : Nat) (Q : List WiV) : Prop where
 at_ : MkAt f wr m nv
 st : PStep f.S nv0 w nv wr
 q : QAt f w.heap.size wr nv b off n cap Q
theorem GetAt.go {f : MF} {w : World} {nv0 : Value} {wr w' : World} {m m' : Mk} {nv nv' : Value} {b off n cap : Nat} {Q : List WiV} (h : GetAt f w nv0 wr m nv b off n cap Q) (hm : MkAt f w' m' nv') (s : PStep f.S nv wr nv' w') : GetAt f w nv0 w' m' nv' b off n cap Q :=
 ⟨hm, h.st.trans s, h.q.go s⟩
theorem GetAt.ext {f : MF} {w : World} {nv0 : Value} {wr w' : World} {m : Mk} {nv : Value} {b off n cap : Nat} {Q : List WiV} (h : GetAt f w nv0 wr m nv b off n cap Q) (x : Ext wr w') : GetAt f w nv0 w' m nv b off n cap Q :=
 h.go (h.at_.ext x) (PStep.ext x)
theorem GetAt.more {f : MF} {w : World} {nv0 : Value} {wr w' : World} {m : Mk} {nv : Value} {b off n cap b' off' cap' : Nat} {x : WiV} {Q Y : List WiV} (h : GetAt f w nv0 wr m nv b off n cap (x :: Q))
  (hy : ∀ y ∈ Y, TmIn (fun k => Clr2 f.S nv wr k ∧ k < w.heap.size) wr y.t y.A y.c) {n' : Nat} (hn : n' = n - 1 + Y.length)
  (hc : CutAt w' 5 b' off' n' cap' (flat wiC Q ++ flat wiC Y)) (hm : Mods [b] wr w') (hb : b' = b ∨ b' = wr.heap.size) (hlt : b' < w'.heap.size) : GetAt f w nv0 w' m nv b' off' n' cap' (Q ++ Y) := by
 have hl := h.q.len
 simp only [List.length_cons] at hl
 have hnew := h.q.new
 have hT : ∀ k ∈ [b], MkNo f k ∧ nv.ownBlock ≠ some k := fun k hk => by
  simp at hk
  subst hk
  exact ⟨h.q.no, h.q.clr.2.1⟩
 have hcl : ∀ j, Clr2 f.S nv wr j → Clr2 f.S nv w' j := fun j hj => ⟨hj.1, hj.2.1, Nat.lt_of_lt_of_le hj.2.2 hm.size⟩
 have ht : ∀ {t : Tm} {A : Option Addr} {c : Nat}, TmIn (fun k => Clr2 f.S nv wr k ∧ k < w.heap.size) wr t A c → TmIn (fun k => Clr2 f.S nv w' k ∧ k < w.heap.size) w' t A c := fun g => TmIn.mods hm (fun k hk e => by simp at e; omega) (fun k hk => ⟨hcl k hk.1, hk.2⟩) g
 have hsz := h.st.mods.size
 have hno : MkNo f b' ∧ nv.ownBlock ≠ some b' ∧ w.heap.size ≤ b' := by
  rcases hb with rfl | rfl
  ·exact ⟨h.q.no, h.q.clr.2.1, hnew⟩
  ·have := h.at_.no (k := wr.heap.size) (Nat.le_refl _)
   exact ⟨this.1, this.2, hsz⟩
 refine ⟨h.at_.turn hm hT, ⟨h.st.mods.step hm (fun k hk => .inr (by simp at hk; omega)), h.st.own⟩, ⟨by rw [flat_append]; exact hc, by rw [List.length_append]; omega, ⟨hno.1.s, hno.2.1, hlt⟩, hno.1, hno.2.2, fun y hy' => ?_⟩⟩
 rcases List.mem_append.1 hy' with hy' | hy'
 ·exact ht (h.q.kid y (List.mem_cons_of_mem _ hy'))
 ·exact ht (hy y hy')
set_option maxRecDepth 100000 in
set_option maxHeartbeats 8000000 in
theorem mGet (t : Tm) (a : Int) (At : Option Addr) (ct : Nat) {f : MF} {w : World} {m : Mk} {nv : Value} (h : MkAt f w m nv) (hr : Rm m (4 * szT t + 4)) (ht : TmIn (Clr2 f.S nv w) w t At ct) :
  Calls Tryz.prog 44 #[.pointer (some ⟨f.mb, 0, none⟩), tmVal t At ct, .int .i64 a] w fun e w' => e = .returned (.tuple #[]) ∧ MkTo f w nv (m.get f.p.slots t a) w' := by
 obtain ⟨i0, hi0, hz0, hz1, hz2⟩ := infoP wiInfo
 have hz := szT_l t
 have HM := fun W (x : Ext w W) => Lib.hid (mSimple t At ct 1 a (h.ext x) (hr.mono (by omega)))
 have HGE := fun W => Lib.hid (mGets W)
 have HR := Lib.hid hr
 have H := Lib.hid h
 have HT0 := Lib.hid ht
 have hgs : m.get f.p.slots t a = match m.simple f.p.slots t 1 a with
  | some m' => m'
  | none => m.queue f.p.slots (szT t) [(t, a)] := rfl
 rw [hgs]
 unfold tmVal opsV at *
 clear h hr ht hgs
 cases hq : m.simple f.p.slots t 1 a with
 | some m' =>
  rw [hq] at HM
  simp only [Option.isSome_some, Option.getD_some] at HM
  simp only
  clear hq
  go_enter Tryz.func44, Tryz.ntmps44
  go_upto_region 1 with fail
  refine wp_abs (fun V => Hid (Blk V w.heap.size 30 #[.int .i64 t.k, .int .i64 t.n, .string t.s, .slice At t.l.length ct]) ∧ Hid (Ext w V)) ⟨Blk.new _ _ _, ext_box _ _⟩ ?_
  rintro V ⟨HT, HX⟩
  have t9 := HT.out.cell
  have t8 := (HT.out.ext ((Ext.refl V).drew)).cell
  (first | (go_region_law ((first
   | (go_simp; go_at_call 86; refine (HGE _).out.mono ?_; rintro e V1 ⟨rfl, x1⟩; have X1 := Lib.hid ((Ext.refl _).drew.trans x1); have v9 := (HT.out.ext X1.out).cell; clear x1)
   | (go_simp; go_at_call 85; refine (HM _ (HX.out.trans X1.out)).out.mono ?_; rintro e V2 ⟨rfl, nv2, h2, s2⟩; have H2 := Lib.hid h2; have S2 := Lib.hid s2; clear h2 s2)))) | fail "region")
  all_goals
   go_wp2_with fail
   exact bodyPost_ret (results_none rfl _ _ _) rfl ⟨rfl, nv2, H2.out, (PStep.ext (HX.out.trans X1.out)).trans S2.out⟩
 | none =>
  rw [hq] at HM
  simp only [Option.isSome_none, Option.getD_none] at HM
  simp only
  clear hq
  go_enter Tryz.func44, Tryz.ntmps44
  go_upto_region 1 with fail
  refine wp_abs (fun V => Hid (Blk V w.heap.size 30 #[.int .i64 t.k, .int .i64 t.n, .string t.s, .slice At t.l.length ct]) ∧ Hid (Ext w V)) ⟨Blk.new _ _ _, ext_box _ _⟩ ?_
  rintro V ⟨HT, HX⟩
  have t9 := HT.out.cell
  have t8 := (HT.out.ext ((Ext.refl V).drew)).cell
  (first | (go_region_law ((first
   | (go_simp; go_at_call 86; refine (HGE _).out.mono ?_; rintro e V1 ⟨rfl, x1⟩; have X1 := Lib.hid ((Ext.refl _).drew.trans x1); have v9 := (HT.out.ext X1.out).cell; clear x1)
   | (go_simp; go_at_call 85; refine (HM _ (HX.out.trans X1.out)).out.mono ?_; rintro e V2 ⟨rfl, nv2, h2, s2⟩; have H2 := Lib.hid h2; have S2 := Lib.hid s2; clear h2 s2)))) | fail "region")
  all_goals
   have hno := (H.out.no (k := w.heap.size) (Nat.le_refl _))
   have hwV : w.heap.size < V.heap.size := HT.out.lt
   have C1 : Clr2 f.S nv V1 w.heap.size := ⟨hno.1.s, hno.2, Nat.lt_of_lt_of_le hwV X1.out.size⟩
   have HT2 := Lib.hid ((HT.out.ext X1.out).mods S2.out.mods C1.no)
   have S02 := Lib.hid ((PStep.ext (S := f.S) (nv := nv) (HX.out.trans X1.out)).trans S2.out)
   have u0 : V2.cell? ⟨w.heap.size, 0, none⟩ = some (.int .i64 t.k) := HT2.out.cell 0
   have u1 : V2.cell? ⟨w.heap.size, 1, none⟩ = some (.int .i64 t.n) := HT2.out.cell 1
   have u2 : V2.cell? ⟨w.heap.size, 2, none⟩ = some (.string t.s) := HT2.out.cell 2
   have u3 : V2.cell? ⟨w.heap.size, 3, none⟩ = some (.slice At t.l.length ct) := HT2.out.cell 3
   have hT2 : TmIn (fun k => Clr2 f.S nv2 V2 k ∧ k < w.heap.size) V2 t At ct := TmIn.mods S02.out.mods (fun _ hk => hk.no) (fun _ hk => ⟨S02.out.clr hk, hk.2.2⟩) HT0.out
   have hG : ∀ cs : Array Value, cs = #[.int .i64 t.k, .int .i64 t.n, .string t.s, .slice At t.l.length ct, .int .i64 a] → Hid (GetAt f w nv (V2.alloc (.cells cs 143)) m nv2 V2.heap.size 0 1 1 [⟨t, a, At, ct⟩]) := fun cs hcs => by
    subst hcs
    have xa := ext_box V2 (.cells #[.int .i64 t.k, .int .i64 t.n, .string t.s, .slice At t.l.length ct, .int .i64 a] 143)
    have hn2 := H2.out.no (k := V2.heap.size) (Nat.le_refl _)
    refine ⟨H2.out.ext xa, S02.out.trans (PStep.ext xa), ⟨CutAt.new V2 _ 143 1 5 rfl, rfl, ⟨hn2.1.s, hn2.2, by simp⟩, hn2.1, S02.out.mods.size, fun y hy => ?_⟩⟩
    simp at hy
    subst hy
    exact TmIn.mods (Mods.ext (S := []) xa) (fun _ _ => by simp) (fun k hk => ⟨(PStep.ext xa).clr hk.1, hk.2⟩) hT2
   have HG := hG _ rfl
   clear t9 t8 v9 hno C1 HT2 S02 hT2 H2 S2 X1 HT HX HM HGE HT0 H hG
   go_upto_region 3 with fail
   generalize V2.alloc (.cells #[.int .i64 t.k, .int .i64 t.n, .string t.s, .slice At t.l.length ct, .int .i64 a] 143) = V4 at HG ⊢
   generalize V2.heap.size = b0 at HG ⊢
   clear u0 u1 u2 u3
   go_loopg [6] (szT t) (fun k qv wr => ∃ (b off n cap : Nat) (Q : List WiV) (mj : Mk) (nj : Value), qv = .slice (some ⟨b, off, none⟩) n cap ∧ Hid (GetAt f w nv wr mj nj b off n cap Q) ∧ Hid (QuP f.p.slots m t a mj (Q.map wiP)) ∧ Hid (szQ (Q.map wiP) = k))
   case atStart => exact ⟨b0, 0, 1, 1, _, m, nv2, rfl, HG, Lib.hid (QuP.start _ _ _ _), Lib.hid (by simp [szQ, wiP])⟩
   case round =>
    clear HG
    obtain ⟨b, off, n, cap, Q, mj, nj, rfl, HG, HQ, HK⟩ := hrel
    cases Q with
    | nil =>
     obtain rfl : n = 0 := HG.out.q.len
     go_wp2_with fail
     go_end0
     exact ⟨rfl, nj, by rw [HQ.out.done (.inr rfl)]; exact HG.out.at_, HG.out.st⟩
    | cons x Q =>
     obtain ⟨u, v, A', c'⟩ := x
     have hnq : n = Q.length + 1 := HG.out.q.len
     have hn0 : 0 < n := by omega
     have q0 : decide ((n : Int) > 0) = true := decide_eq_true (by omega)
     have HFU := Lib.hid (mFull HG.out.at_)
     cases hfu : mj.full with
     | true =>
      rw [hfu] at HFU
      clear hnq
      go_wp2_with (go_at_call 46; refine HFU.out.mono ?_; rintro e V1 ⟨rfl, hv⟩; obtain rfl := hv.symm)
      go_end0
      exact ⟨rfl, nj, by rw [HQ.out.done (.inl hfu)]; exact HG.out.at_, HG.out.st⟩
     | false =>
      rw [hfu] at HFU
      have HQS := Lib.hid (HQ.out.step hfu)
      have h1 := HQ.out.lo
      have h2 := HQ.out.hn
      have h3 := HQ.out.ho
      have h4 := szQ_struc f.p.slots mj (u, v) (Q.map wiP)
      have h5 := (bd_struc f.p.slots mj (u, v)).2.2
      have h6 := szO_len (mj.struc f.p.slots (u, v)).2
      have h7 := szO_len (Q.map wiP)
      have h8 := szT_l u
      have h9 := HR.out.1
      have h10 := HR.out.2.1
      have h11 := HR.out.2.2
      simp only [List.map_cons, wiP, szN, szO] at h2 h3
      rw [List.length_map] at h7
      simp only at h5
      have RM := Lib.hid (show Rm mj (2 * szT u + 2) from ⟨by omega, by omega, by omega⟩)
      have HYB : Hid ((mj.struc f.p.slots (u, v)).2.length ≤ 1000000000) := by show _ ≤ _; omega
      have HSZ : Hid (szQ (Q.map wiP ++ (mj.struc f.p.slots (u, v)).2) < gk) := by
       have := HK.out
       simp only [List.map_cons, wiP] at this
       rw [← this]
       exact h4
      have hnl : n ≤ 1000000001 := by omega
      have HNQ := Lib.hid hnq
      have y0 : wr.cell? ⟨b, off, none⟩ = some (.int .i64 u.k) := HG.out.q.cut.holds 0 _ rfl
      have y1 : wr.cell? ⟨b, off + 1, none⟩ = some (.int .i64 u.n) := HG.out.q.cut.holds 1 _ rfl
      have y2 : wr.cell? ⟨b, off + 2, none⟩ = some (.string u.s) := HG.out.q.cut.holds 2 _ rfl
      have y3 : wr.cell? ⟨b, off + 3, none⟩ = some (.slice A' u.l.length c') := HG.out.q.cut.holds 3 _ rfl
      have y4 : wr.cell? ⟨b, off + 4, none⟩ = some (.int .i64 v) := HG.out.q.cut.holds 4 _ rfl
      have hbl : b < wr.heap.size := HG.out.q.clr.2.2
      have KX := Lib.hid (HG.out.q.kid ⟨u, v, A', c'⟩ (by simp))
      have hlo := HG.out.st.mods.size
      clear hfu hnq h1 h2 h3 h4 h5 h6 h7 h8 h9 h10 h11 HQ HK
      go_upto_region 4 with (go_at_call 46; refine HFU.out.mono ?_; rintro e V1 ⟨rfl, hv⟩; obtain rfl := hv.symm)
      go_upto_region 5 with fail
      refine wp_abs (fun W => Hid (Ext wr W) ∧ Hid (Blk W wr.heap.size 143 #[.int .i64 u.k, .int .i64 u.n, .string u.s, .slice A' u.l.length c', .int .i64 v])) ⟨ext_box _ _, Blk.new _ _ _⟩ ?_
      rintro W ⟨HE, HU⟩
      have GW := Lib.hid (HG.out.ext HE.out)
      have hsz := HE.out.size
      have HS := fun V (e : Ext W V) => Lib.hid (mStruc (fun k => k < w.heap.size) ⟨u, v, A', c'⟩ (GW.out.at_.ext e) RM.out (fun k hk => by have := e.size; omega) (TmIn.mods (Mods.ext (S := []) (HE.out.trans e)) (fun _ _ => by simp) (fun k hk => ⟨(PStep.ext (HE.out.trans e)).clr hk.1, hk.2⟩) KX.out))
      have x9 := HU.out.cell
      have x8 := (HU.out.ext ((Ext.refl W).drew)).cell
      simp only at HS
      clear y0 y1 y2 y3 y4 HG KX HFU hbl hlo hsz q0
      generalize wr.heap.size = bx at *
      have hn1 : (1 : Int) ≤ (n : Int) := by omega
      clear hv
      by_cases hc1 : cap = 1
      ·subst hc1
       (first | (go_region_law ((first
        | (go_simp; go_at_call 87; refine (HS _ ((Ext.refl W).drew)).out.mono ?_; rintro e V5 ⟨n5, qv5, Y, rfl, h5, hY⟩; obtain ⟨Ay, cy, rfl⟩ := own_value h5.own; have G5 := Lib.hid ((GW.out.ext ((Ext.refl W).drew)).go h5.at_ h5.st); have K5 := Lib.hid h5.kid; have S5 := Lib.hid (El.Src.of_own h5.own); have Y5 := Lib.hid hY; have hYl : Y.length ≤ 1000000000 := Nat.le_trans (Nat.le_of_eq ((List.length_map wiP).symm.trans (congrArg List.length hY))) HYB.out; clear h5 hY)
        | (refine step_append_cut (P := Tryz.prog) rfl (.tmp 29) (.tmp 32) 144 rfl 143 i0 _ 5 64 Tryz.underlying144 hi0 hz0 hz1 hz2 rfl b off (n - 1) 0 rfl Ay Y.length cy rfl _ (G5.out.q.cut.last hn0) G5.out.q.clr.2.2 (flat wiC Y) S5.out (flat_one wiC_one Y) (by unfold maxLen; omega) (by omega) ?_; intro b6 off6 cap6 w6 hc6 hm6 hb6 hl6; have G6 := Lib.hid (G5.out.more K5.out rfl hc6 hm6 hb6 hl6); clear hc6 hm6 hb6 hl6)))) | fail "region 5")
       all_goals
        go_wp2_with fail
        go_roundg (szQ (Q.map wiP ++ (mj.struc f.p.slots (u, v)).2))
        case measure => exact HSZ.out
        case rel => exact ⟨b6, off6, _, cap6, Q ++ Y, _, n5, rfl, G6, Lib.hid (by rw [List.map_append, Y5.out]; exact HQS.out), Lib.hid (by rw [List.map_append, Y5.out])⟩
      ·(first | (go_region_law ((first
        | (go_simp; go_at_call 87; refine (HS _ ((Ext.refl W).drew)).out.mono ?_; rintro e V5 ⟨n5, qv5, Y, rfl, h5, hY⟩; obtain ⟨Ay, cy, rfl⟩ := own_value h5.own; have G5 := Lib.hid ((GW.out.ext ((Ext.refl W).drew)).go h5.at_ h5.st); have K5 := Lib.hid h5.kid; have S5 := Lib.hid (El.Src.of_own h5.own); have Y5 := Lib.hid hY; have hYl : Y.length ≤ 1000000000 := Nat.le_trans (Nat.le_of_eq ((List.length_map wiP).symm.trans (congrArg List.length hY))) HYB.out; clear h5 hY)
        | (refine step_append_cut (P := Tryz.prog) rfl (.tmp 29) (.tmp 32) 144 rfl 143 i0 _ 5 64 Tryz.underlying144 hi0 hz0 hz1 hz2 rfl b (off + 5) (n - 1) (cap - 1) rfl Ay Y.length cy rfl _ (G5.out.q.cut.tail hn0) G5.out.q.clr.2.2 (flat wiC Y) S5.out (flat_one wiC_one Y) (by unfold maxLen; omega) (by omega) ?_; intro b6 off6 cap6 w6 hc6 hm6 hb6 hl6; have G6 := Lib.hid (G5.out.more K5.out rfl hc6 hm6 hb6 hl6); clear hc6 hm6 hb6 hl6)))) | fail "region 5")
       all_goals
        go_wp2_with fail
        go_roundg (szQ (Q.map wiP ++ (mj.struc f.p.slots (u, v)).2))
        case measure => exact HSZ.out
        case rel => exact ⟨b6, off6, _, cap6, Q ++ Y, _, n5, rfl, G6, Lib.hid (by rw [List.map_append, Y5.out]; exact HQS.out), Lib.hid (by rw [List.map_append, Y5.out])⟩
end Go.Proofs.YtmnnhdegoapfcaaGreatDoor
