/- Layer 17, the program: the walk of goals. -/
import Derived.Test.YtmnnhdegoapfcaaGreatDoorP17
import Derived.Test.YtmnnhdegoapfcaaGreatDoorP20
import Derived.Test.YtmnnhdegoapfcaaGreatDoorP13
import Derived.Test.YtmnnhdegoapfcaaGreatDoorP12
namespace Go.El
open Go.RowKit
structure GoP (p : PlanV) (m0 : Mk) (gs0 : List (Int × Tm)) (k : Nat) (last : Bool) (m : Mk) (gs : List (Int × Tm)) : Prop where
 same : goalsF p gs0 0 false m0 = goalsF p gs k last m
 lo : m0.next ≤ m.next
 hn : m.next + szG gs ≤ m0.next + szG gs0
 ho : m.out.length + 5 * szG gs ≤ m0.out.length + 5 * szG gs0
 lv : k + cnt gs ≤ p.live.length
theorem GoP.start {p : PlanV} {m : Mk} {gs : List (Int × Tm)} (h : cnt gs ≤ p.live.length) : GoP p m gs 0 false m gs :=
 ⟨rfl, Int.le_refl _, Int.le_refl _, Nat.le_refl _, by omega⟩
theorem GoP.call {p : PlanV} {m0 m : Mk} {gs0 r : List (Int × Tm)} {k : Nat} {last : Bool} {g : Int × Tm} (h : GoP p m0 gs0 k last m (g :: r)) (hg : g.1 ≠ 2) : GoP p m0 gs0 (k + 1) r.isEmpty (callF p m g (if r.isEmpty then -1 else p.live.getD k 0)) r ∧ k < p.live.length := by
 obtain ⟨h0, h1, h2, h3, h4⟩ := h
 have hb := bd_call p m g (if r.isEmpty then -1 else p.live.getD k 0)
 have b1 := hb.lo
 have b2 := hb.hi
 have b3 := hb.oh
 have hz := szT_pos g.2
 rw [cnt_cons, if_neg hg] at h4
 simp only [szG] at h2 h3
 refine ⟨⟨?_, by omega, by omega, by omega, by omega⟩, by omega⟩
 rw [h0]
 simp only [goalsF, if_pos hg]
theorem GoP.cut {p : PlanV} {m0 m : Mk} {gs0 r : List (Int × Tm)} {k : Nat} {last : Bool} {g : Int × Tm} (h : GoP p m0 gs0 k last m (g :: r)) (hg : g.1 = 2) : GoP p m0 gs0 k last (m.add (if k = 0 then ⟨28, ⟨#[]⟩, 0, 0, 0⟩ else ⟨29, ⟨#[]⟩, 0, -p.level, 0⟩)) r := by
 obtain ⟨h0, h1, h2, h3, h4⟩ := h
 have hz := szT_pos g.2
 rw [cnt_cons, if_pos hg] at h4
 simp only [szG] at h2 h3
 have e1 : ∀ i, (m.add i).out.length = m.out.length + 1 := fun i => by simp [Mk.add]
 refine ⟨?_, h1, by show m.next + _ ≤ _; omega, by rw [e1]; omega, by omega⟩
 rw [h0]
 simp only [goalsF, if_neg (show ¬ g.1 ≠ 2 by simp [hg])]
 split <;> rfl
structure GoalsIn (D : Nat → Prop) (w : World) (gs : List (Int × Tm)) (A : Option Addr) (c : Nat) : Prop where
 le : gs.length ≤ c
 at_ : ∀ (j : Nat) (k : Int) (t : Tm), gs[j]? = some (k, t) → ∃ b off A' c', A = some ⟨b, off, none⟩ ∧ D b ∧ TmIn D w t A' c' ∧ w.cell? ⟨b, off + j * 5, none⟩ = some (.int .i64 k) ∧ w.cell? ⟨b, off + j * 5 + 1, none⟩ = some (.int .i64 t.k) ∧ w.cell? ⟨b, off + j * 5 + 2, none⟩ = some (.int .i64 t.n) ∧ w.cell? ⟨b, off + j * 5 + 3, none⟩ = some (.string t.s) ∧ w.cell? ⟨b, off + j * 5 + 4, none⟩ = some (.slice A' t.l.length c')
theorem GoalsIn.mods {D D' : Nat → Prop} {S : List Nat} {w w' : World} {gs : List (Int × Tm)} {A : Option Addr} {c : Nat} (h : GoalsIn D w gs A c) (hm : Mods S w w') (hS : ∀ k, D k → k ∉ S) (hD : ∀ k, D k → D' k) : GoalsIn D' w' gs A c := by
 refine ⟨h.le, fun j k t hj => ?_⟩
 obtain ⟨b, off, A', c', h1, h2, h3, q0, q1, q2, q3, q4⟩ := h.at_ j k t hj
 exact ⟨b, off, A', c', h1, hD b h2, TmIn.mods hm hS hD h3, hm.cell q0 (hS b h2), hm.cell q1 (hS b h2), hm.cell q2 (hS b h2), hm.cell q3 (hS b h2), hm.cell q4 (hS b h2)⟩
theorem GoalsIn.ext {D : Nat → Prop} {w w' : World} {gs : List (Int × Tm)} {A : Option Addr} {c : Nat} (h : GoalsIn D w gs A c) (x : Ext w w') : GoalsIn D w' gs A c := h.mods (S := []) (Mods.ext x) (fun _ _ => by simp) (fun _ h => h)
theorem PStep.goals {S : List Nat} {nv nv' : Value} {w w' : World} (s : PStep S nv w nv' w') {gs : List (Int × Tm)} {A : Option Addr} {c : Nat} (h : GoalsIn (Clr2 S nv w) w gs A c) : GoalsIn (Clr2 S nv' w') w' gs A c := h.mods s.mods (fun _ hk => hk.no) (fun _ hk => s.clr hk)
end Go.El
namespace Go.Proofs.YtmnnhdegoapfcaaGreatDoor
open Go.RowKit Go.El
structure GosAt (f : MF) (w : World) (nv0 : Value) (gs : List (Int × Tm)) (A : Option Addr) (c : Nat) (wr : World) (m : Mk) (nv : Value) : Prop where
 at_ : MkAt f wr m nv
 st : PStep f.S nv0 w nv wr
 gs : GoalsIn (Clr2 f.S nv wr) wr gs A c
theorem GosAt.go {f : MF} {w : World} {nv0 : Value} {gs : List (Int × Tm)} {A : Option Addr} {c : Nat} {wr w' : World} {m m' : Mk} {nv nv' : Value} (h : GosAt f w nv0 gs A c wr m nv) (hm : MkAt f w' m' nv') (s : PStep f.S nv wr nv' w') : GosAt f w nv0 gs A c w' m' nv' :=
 ⟨hm, h.st.trans s, s.goals h.gs⟩
theorem GosAt.ext {f : MF} {w : World} {nv0 : Value} {gs : List (Int × Tm)} {A : Option Addr} {c : Nat} {wr w' : World} {m : Mk} {nv : Value} (h : GosAt f w nv0 gs A c wr m nv) (x : Ext wr w') : GosAt f w nv0 gs A c w' m nv :=
 h.go (h.at_.ext x) (PStep.ext x)
set_option maxRecDepth 100000 in
set_option maxHeartbeats 8000000 in
theorem mGoals (gs : List (Int × Tm)) (A : Option Addr) (c : Nat) {f : MF} {w : World} {m : Mk} {nv : Value} (h : MkAt f w m nv) (hr : Rm m (5 * szG gs + 10)) (hg : GoalsIn (Clr2 f.S nv w) w gs A c) (hlv : 0 ≤ f.p.level ∧ f.p.level ≤ 1000) (hcnt : cnt gs ≤ f.p.live.length) (hlen : gs.length ≤ 1000000000) :
  Calls Tryz.prog 45 #[.pointer (some ⟨f.mb, 0, none⟩), .slice A gs.length c] w fun e w' => e = .returned (.tuple #[]) ∧ MkTo f w nv (goalsF f.p gs 0 false m) w' := by
 have HP0 : Hid (GosAt f w nv gs A c w m nv) := Lib.hid ⟨h, .refl _ _ _, hg⟩
 have HR := Lib.hid hr
 have HL := Lib.hid hlv
 have HC := Lib.hid hcnt
 clear h hr hg hlv hcnt
 go_enter Tryz.func45, Tryz.ntmps45
 go_upto_region 2 with fail
 go_loopw [4, 5, 11] (fun cv lv iv wr => ∃ (j k : Nat) (last : Bool) (mj : Mk) (nj : Value), j ≤ gs.length ∧ iv = .int .i64 j ∧ cv = .int .i64 k ∧ lv = .bool last ∧ k ≤ j ∧ Hid (GosAt f w nv gs A c wr mj nj) ∧ Hid (GoP f.p m gs k last mj (gs.drop j))) (fun _ _ iv _ => gs.length - (intOf iv).toNat)
 case atStart => exact ⟨0, 0, false, m, nv, Nat.zero_le _, rfl, rfl, rfl, Nat.le_refl _, HP0, Lib.hid (GoP.start HC.out)⟩
 case round =>
  clear HP0
  obtain ⟨j, k, last, mj, nj, hj, rfl, rfl, rfl, hkj, HP, HG⟩ := hrel
  by_cases hlt : j < gs.length
  ·obtain ⟨g, r, hd⟩ : ∃ g r, gs.drop j = g :: r := by
    cases hq : gs.drop j with
    | nil =>
     have := congrArg List.length hq
     simp at this
     omega
    | cons g r => exact ⟨g, r, rfl⟩
   have ho : gs[j]? = some g := by
    have := congrArg (fun l => l[0]?) hd
    simpa using this
   have hd1 : gs.drop (j + 1) = r := by
    have := congrArg List.tail hd
    simpa using this
   have hrl : r.length = gs.length - (j + 1) := by rw [← hd1]; simp
   obtain ⟨kg, t⟩ := g
   have HD1 := Lib.hid hd1
   rw [hd] at HG
   obtain ⟨bb, off, A', c', rfl, _, hu, q0, q1, q2, q3, q4⟩ := HP.out.gs.at_ j kg t ho
   have g1 := HG.out.lo
   have g2 := HG.out.hn
   have g3 := HG.out.ho
   simp only [szG] at g2 g3
   have hz := szT_pos t
   have r1 := HR.out.1
   have r2 := HR.out.2.1
   have r3 := HR.out.2.2
   have RM := Lib.hid (show Rm mj (4 * szT t + 4) from ⟨by omega, by omega, by omega⟩)
   clear g1 g2 g3 r1 r2 r3 ho hd hd1
   go_upto_region 5 with fail
   refine wp_abs (fun W => Hid (Ext wr W) ∧ Hid (Blk W wr.heap.size 42 #[.int .i64 kg, .int .i64 t.k, .int .i64 t.n, .string t.s, .slice A' t.l.length c'])) ⟨ext_box _ _, Blk.new _ _ _⟩ ?_
   rintro W ⟨HE, HU⟩
   have PW := Lib.hid (HP.out.ext HE.out)
   have x0 : W.cell? ⟨wr.heap.size, 0, none⟩ = some (.int .i64 kg) := HU.out.cell 0
   have x1 : W.cell? ⟨wr.heap.size, 1, none⟩ = some (.int .i64 t.k) := HU.out.cell 1
   have x2 : W.cell? ⟨wr.heap.size, 2, none⟩ = some (.int .i64 t.n) := HU.out.cell 2
   have x3 : W.cell? ⟨wr.heap.size, 3, none⟩ = some (.string t.s) := HU.out.cell 3
   have x4 : W.cell? ⟨wr.heap.size, 4, none⟩ = some (.slice A' t.l.length c') := HU.out.cell 4
   have HT := Lib.hid ((PStep.ext (S := f.S) (nv := nj) HE.out).tm hu)
   clear q0 q1 q2 q3 q4 hu HE HU HP
   generalize wr.heap.size = bx at *
   by_cases hk : kg = 2
   ·have HC2 := Lib.hid (HG.out.cut hk)
    subst hk
    by_cases hk0 : k = 0
    ·subst hk0
     simp only [if_true] at HC2
     have HA := Lib.hid (mAdd ⟨28, ⟨#[]⟩, 0, 0, 0⟩ PW.out.at_ (RM.out.mono (by omega)))
     unfold insV at HA
     go_wp2_with (go_at_call 43; refine HA.out.mono ?_; rintro e W6 ⟨rfl, n6, h6, s6⟩; have P6 := Lib.hid (PW.out.go h6 s6); clear h6 s6)
     go_roundw
     case rel => exact ⟨j + 1, 0, last, _, n6, hlt, by go_num, rfl, rfl, by omega, P6, by rw [HD1.out]; exact HC2⟩
     case measure => simp [intOf]; omega
    ·have qk : ((k : Int) == 0) = false := by simpa using hk0
     rw [if_neg hk0] at HC2
     have l2 := PW.out.at_.cells.c2
     have hl1 := HL.out.1
     have hl2 := HL.out.2
     have HA := Lib.hid (mAdd ⟨29, ⟨#[]⟩, 0, -f.p.level, 0⟩ PW.out.at_ (RM.out.mono (by omega)))
     unfold insV at HA
     go_wp2_with (go_at_call 43; refine HA.out.mono ?_; rintro e W6 ⟨rfl, n6, h6, s6⟩; have P6 := Lib.hid (PW.out.go h6 s6); clear h6 s6)
     go_roundw
     case rel => exact ⟨j + 1, k, last, _, n6, hlt, by go_num, rfl, rfl, by omega, P6, by rw [HD1.out]; exact HC2⟩
     case measure => simp [intOf]; omega
   ·obtain ⟨hgc, hkl⟩ := HG.out.call hk
    obtain ⟨lk, hlk⟩ : ∃ lk, lk = f.p.live.getD k 0 := ⟨_, rfl⟩
    rw [← hlk] at hgc
    have HGC := Lib.hid hgc
    have qk : (kg == 2) = false := by simpa using hk
    have l3 := PW.out.at_.cells.c3
    obtain ⟨lb, lo, hL, hlc⟩ := El.Src.form PW.out.at_.live (by omega) (by omega)
    rw [hL] at l3
    have y0 : W.cell? ⟨lb, lo + k, none⟩ = some (.int .i64 lk) := hlc k _ (by rw [hlk, List.getElem?_map, List.getElem?_eq_getElem hkl]; simp [hkl])
    clear hlc hL hgc hlk
    cases r with
    | nil =>
     simp only [List.length_nil] at hrl
     have qe : ((j : Int) == (gs.length : Int) - 1) = true := by rw [beq_iff_eq]; omega
     have HC := Lib.hid (mCall (kg, t) A' c' (-1) PW.out.at_ RM.out HT.out HL.out)
     unfold goalV at HC
     simp only at HC
     simp only [List.isEmpty_nil, if_true] at HGC
     clear HG hrl
     go_wp2_with (go_at_call 88; refine HC.out.mono ?_; rintro e W6 ⟨rfl, n6, h6, s6⟩; have P6 := Lib.hid (PW.out.go h6 s6); clear h6 s6)
     go_roundw
     case rel => exact ⟨j + 1, k + 1, true, _, n6, hlt, by go_num, by go_num, rfl, by omega, P6, by rw [HD1.out]; exact HGC⟩
     case measure => simp [intOf]; omega
    | cons g2 r =>
     simp only [List.length_cons] at hrl
     have qe : ((j : Int) == (gs.length : Int) - 1) = false := by rw [beq_eq_false_iff_ne]; omega
     have HC := Lib.hid (mCall (kg, t) A' c' lk PW.out.at_ RM.out HT.out HL.out)
     unfold goalV at HC
     simp only at HC
     simp only [List.isEmpty_cons, Bool.false_eq_true, if_false] at HGC
     clear HG hrl
     go_wp2_with (go_at_call 88; refine HC.out.mono ?_; rintro e W6 ⟨rfl, n6, h6, s6⟩; have P6 := Lib.hid (PW.out.go h6 s6); clear h6 s6)
     go_roundw
     case rel => exact ⟨j + 1, k + 1, false, _, n6, hlt, by go_num, by go_num, rfl, by omega, P6, by rw [HD1.out]; exact HGC⟩
     case measure => simp [intOf]; omega
  ·obtain rfl : j = gs.length := by omega
   rw [List.drop_length] at HG
   have g1 := HG.out.lo
   have g2 := HG.out.hn
   have g3 := HG.out.ho
   have r1 := HR.out.1
   have r2 := HR.out.2.1
   have r3 := HR.out.2.2
   simp only [szG] at g2 g3
   have RM := Lib.hid (show Rm mj 2 from ⟨by omega, by omega, by omega⟩)
   have HGS := Lib.hid HG.out.same
   clear g1 g2 g3 r1 r2 r3 HG
   simp only [goalsF] at HGS
   cases last with
   | true =>
    simp only [if_true] at HGS
    go_wp2_with fail
    go_end0
    exact ⟨rfl, nj, by rw [HGS.out]; exact HP.out.at_, HP.out.st⟩
   | false =>
    simp only [Bool.false_eq_true, if_false] at HGS
    have HL1 := Lib.hid (mLeave HP.out.at_ (RM.out.mono (by omega)))
    have hbl := bd_leave f.p mj
    have RML := Lib.hid (show Rm (leaveF f.p mj) 1 from ⟨by have := hbl.lo; have := RM.out.1; omega, by have := hbl.hi; have := RM.out.2.1; omega, by have := hbl.oh; have := RM.out.2.2; omega⟩)
    clear hbl
    go_upto_region 17 with (go_at_call 89; refine HL1.out.mono ?_; rintro e W2 ⟨rfl, n2, h2, s2⟩; have P2 := Lib.hid (HP.out.go h2 s2); clear h2 s2)
    have HA := Lib.hid (mAdd ⟨25, ⟨#[]⟩, 0, 0, 0⟩ P2.out.at_ RML.out)
    unfold insV at HA
    go_wp2_with (go_at_call 43; refine HA.out.mono ?_; rintro e W6 ⟨rfl, n6, h6, s6⟩; have P6 := Lib.hid (P2.out.go h6 s6); clear h6 s6)
    go_end0
    exact ⟨rfl, n6, by rw [HGS.out]; exact P6.out.at_, P6.out.st⟩
end Go.Proofs.YtmnnhdegoapfcaaGreatDoor

/- Layer 14, the reference: the walks of goal, Body. -/
namespace Go.El
theorem bodyF_bad {t : Tm} (h : chkT t ≠ 0) : bodyF t = none := by
 unfold bodyF
 rw [if_pos h]
theorem bodyF_long {t : Tm} (h : 64 < (flatN (szT t) t).length) : bodyF t = none := by
 unfold bodyF
 split
 ·rfl
 ·rfl
theorem bodyF_int {t : Tm} {x : Tm} (hx : x ∈ flatN (szT t) t) (hk : x.k = 2) : bodyF t = none := by
 unfold bodyF
 split
 ·rfl
 ·split
  ·rfl
  ·rw [if_pos]
   exact List.any_eq_true.2 ⟨x, hx, decide_eq_true hk⟩
theorem bodyF_some {t : Tm} (h : chkT t = 0) (hl : ¬ 64 < (flatN (szT t) t).length) (hi : ∀ x ∈ flatN (szT t) t, ¬ x.k = 2) : bodyF t = some ((flatN (szT t) t).map fun x => (goalK x, x)) := by
 unfold bodyF
 rw [if_neg (by simpa using h), if_neg hl, if_neg]
 rw [Bool.not_eq_true]
 refine List.any_eq_false.2 (fun x hx => ?_)
 simpa using hi x hx
end Go.El
namespace Go.Proofs.YtmnnhdegoapfcaaGreatDoor
open Go.RowKit Go.El
theorem tm_at4 {w : World} {A : Option Addr} {M : List TmP} (h : El.Src w A M.length 4 (flat tmC M)) {k : Nat} {p : TmP} (hk : M[k]? = some p) : ∃ b off, A = some ⟨b, off, none⟩ ∧ w.cell? ⟨b, off + k * 4, none⟩ = some (.int .i64 (Tm.k p.1)) ∧ w.cell? ⟨b, off + k * 4 + 1, none⟩ = some (.int .i64 (Tm.n p.1)) ∧ w.cell? ⟨b, off + k * 4 + 2, none⟩ = some (.string (Tm.s p.1)) ∧ w.cell? ⟨b, off + k * 4 + 3, none⟩ = some (.slice p.2.1 (Tm.l p.1).length p.2.2) := by
 have hlt : k < M.length := (List.getElem?_eq_some_iff.1 hk).1
 obtain ⟨b, off, rfl, hc⟩ := El.Src.form h (by omega) (by omega)
 have hlen : ∀ x : TmP, (tmC x).length = 4 := fun _ => rfl
 exact ⟨b, off, rfl, hc (k * 4) _ (flat_at hlen M k 0 p hk (by omega)), hc (k * 4 + 1) _ (flat_at hlen M k 1 p hk (by omega)), hc (k * 4 + 2) _ (flat_at hlen M k 2 p hk (by omega)), hc (k * 4 + 3) _ (flat_at hlen M k 3 p hk (by omega))⟩
theorem goInfo : (Tryz.prog.info? 42).map (fun i => (i.zero, i.size, i.bytes)) = some (some (.agg #[.int .i64 0, .int .i64 0, .int .i64 0, .string ⟨#[]⟩, .slice none 0 0]), 5, 64) := by kernel_rfl
def goC (p : TmP) : List Value := [.int .i64 (goalK p.1), .int .i64 p.1.k, .int .i64 p.1.n, .string p.1.s, .slice p.2.1 p.1.l.length p.2.2]
theorem goC_one (p : TmP) : ∀ u ∈ goC p, u.oneCell' = true := by
 intro u hu
 simp only [goC, List.mem_cons, List.not_mem_nil, or_false] at hu
 rcases hu with rfl | rfl | rfl | rfl | rfl <;> rfl
theorem goals_done {wr : World} {A : Option Addr} {c : Nat} {M : List TmP} {D : Nat → Prop} (own : wr.ownsRow 0 42 5 (.slice A M.length c) M.length (flat goC M)) (kid : ∀ p ∈ M, TmIn D wr p.1 p.2.1 p.2.2) (hD : ∀ b, (Value.slice A M.length c).ownBlock = some b → D b) : GoalsIn D wr (M.map fun p => (goalK p.1, p.1)) A c := by
 refine ⟨by rw [List.length_map]; exact own_cap own, fun j k t hj => ?_⟩
 rw [List.getElem?_map] at hj
 obtain ⟨p, hp, he⟩ := Option.map_eq_some_iff.1 hj
 injection he with h1 h2
 subst h1
 subst h2
 have hlt : j < M.length := (List.getElem?_eq_some_iff.1 hp).1
 obtain ⟨b, off, rfl, hc⟩ := El.Src.form (El.Src.of_own own) (by omega) (by omega)
 have hlen : ∀ x : TmP, (goC x).length = 5 := fun _ => rfl
 exact ⟨b, off, p.2.1, p.2.2, rfl, hD b rfl, kid p (List.mem_of_getElem? hp), hc (j * 5) _ (flat_at hlen M j 0 p hp (by omega)), hc (j * 5 + 1) _ (flat_at hlen M j 1 p hp (by omega)), hc (j * 5 + 2) _ (flat_at hlen M j 2 p hp (by omega)), hc (j * 5 + 3) _ (flat_at hlen M j 3 p hp (by omega)), hc (j * 5 + 4) _ (flat_at hlen M j 4 p hp (by omega))⟩
set_option maxRecDepth 100000 in
set_option maxHeartbeats 4000000 in
theorem refGoal_any (t : Tm) (A : Option Addr) (c : Nat) (w : World) :
  Calls Tryz.prog 79 #[tmVal t A c] w fun e w' => e = .returned (goalV (goalK t, t) A c) ∧ Ext w w' := by
 have HS := fun W => Lib.hid (refCompI_any t A c ⟨#[59]⟩ 2 W)
 have HI := fun W => Lib.hid (refCompI_any t A c ⟨#[45, 62]⟩ 2 W)
 have HN := fun W => Lib.hid (refCompI_any t A c ⟨#[92, 43]⟩ 1 W)
 have hK : goalK t = if t.k = 1 then 4 else if t.k = 3 ∧ t.s = cutB then 2 else if isC t ⟨#[59]⟩ 2 = true ∨ isC t ⟨#[45, 62]⟩ 2 = true ∨ isC t ⟨#[92, 43]⟩ 1 = true then 3 else 1 := rfl
 unfold goalV tmVal at *
 generalize isC t ⟨#[59]⟩ 2 = b1 at *
 generalize isC t ⟨#[45, 62]⟩ 2 = b2 at *
 generalize isC t ⟨#[92, 43]⟩ 1 = b3 at *
 simp only
 generalize goalK t = K at *
 generalize t.l.length = m at *
 generalize t.s = s at *
 generalize t.n = n at *
 generalize t.k = k at *
 go_enter Tryz.func79, Tryz.ntmps79
 go_upto_region 1 with fail
 refine wp_abs (fun V => Hid (Blk V w.heap.size 30 #[.int .i64 k, .int .i64 n, .string s, .slice A m c]) ∧ Hid (Blk V (w.heap.size + 1) 42 #[.int .i64 0, .int .i64 0, .int .i64 0, .string ⟨#[]⟩, .slice none 0 0]) ∧ Hid (Ext w V)) ⟨Lib.hid ((Blk.new w _ _).alloc _), Lib.hid sh2b, Lib.hid (((Ext.refl w).alloc _).alloc _)⟩ ?_
 rintro V ⟨HB, HZ, HW⟩
 have HB2 := fun (W : World) (x : Ext V W) => Lib.hid (HB.out.ext x).cell
 have HZ2 := fun (W : World) (x : Ext V W) => Lib.hid (HZ.out.ext x)
 have HF : ∀ (W : World) (kk : Int), Ext V W → Hid (Blk (((((W.setCell ⟨w.heap.size + 1, 0, none⟩ (.int .i64 kk)).setCell ⟨w.heap.size + 1, 1, none⟩ (.int .i64 k)).setCell ⟨w.heap.size + 1, 2, none⟩ (.int .i64 n)).setCell ⟨w.heap.size + 1, 3, none⟩ (.string s)).setCell ⟨w.heap.size + 1, 4, none⟩ (.slice A m c)) (w.heap.size + 1) 42 #[.int .i64 kk, .int .i64 k, .int .i64 n, .string s, .slice A m c] ∧ Ext w (((((W.setCell ⟨w.heap.size + 1, 0, none⟩ (.int .i64 kk)).setCell ⟨w.heap.size + 1, 1, none⟩ (.int .i64 k)).setCell ⟨w.heap.size + 1, 2, none⟩ (.int .i64 n)).setCell ⟨w.heap.size + 1, 3, none⟩ (.string s)).setCell ⟨w.heap.size + 1, 4, none⟩ (.slice A m c))) := fun W kk x =>
  have h : w.heap.size ≤ w.heap.size + 1 := by omega
  Lib.hid ⟨(((((HZ2 W x).out.set_ 0 (.int .i64 kk)).set_ 1 (.int .i64 k)).set_ 2 (.int .i64 n)).set_ 3 (.string s)).set_ 4 (.slice A m c), (((((HW.out.trans x).setCell (p := ⟨w.heap.size + 1, 0, none⟩) h _).setCell (p := ⟨w.heap.size + 1, 1, none⟩) h _).setCell (p := ⟨w.heap.size + 1, 2, none⟩) h _).setCell (p := ⟨w.heap.size + 1, 3, none⟩) h _).setCell (p := ⟨w.heap.size + 1, 4, none⟩) h _⟩
 have XR := Lib.hid (Ext.refl V)
 have x9 := HB.out.cell
 have xz := HZ.out.cell
 have xf := HZ.out.frozen
 have hne : ¬ w.heap.size = w.heap.size + 1 := by omega
 have HKK := Lib.hid hK
 clear hK
 by_cases k1 : k = 1
 ·subst k1
  have e := HKK.out
  rw [if_pos rfl] at e
  have HE := Lib.hid e
  clear e HKK
  go_wp2_with fail
  obtain ⟨kb, kx⟩ := (HF V 4 XR.out).out
  have kc := kb.cell
  exact bodyPost_ret (v := .agg #[.int .i64 4, .int .i64 1, .int .i64 n, .string s, .slice A m c]) (by simp [results, Tryz.results79, go_sem, kc]) rfl ⟨by rw [HE.out], kx⟩
 have q1 : (k == 1) = false := by simpa using k1
 have e := HKK.out
 rw [if_neg k1] at e
 by_cases k3 : k = 3 ∧ s = cutB
 ·rw [if_pos k3] at e
  have HE := Lib.hid e
  obtain ⟨rfl, hs⟩ := k3
  have q2 : (s.toList == [33]) = true := by rw [str_lit]; exact decide_eq_true hs
  clear e HKK hs
  go_wp2_with fail
  obtain ⟨kb, kx⟩ := (HF V 2 XR.out).out
  have kc := kb.cell
  exact bodyPost_ret (v := .agg #[.int .i64 2, .int .i64 3, .int .i64 n, .string s, .slice A m c]) (by simp [results, Tryz.results79, go_sem, kc]) rfl ⟨by rw [HE.out], kx⟩
 rw [if_neg k3] at e
 have HE := Lib.hid e
 have HQ : Hid ((k == 3) = true → (s.toList == [33]) = false) := Lib.hid (fun h => by rw [str_lit]; exact decide_eq_false (fun e => k3 ⟨by simpa using h, e⟩))
 clear e HKK k3
 by_cases k3 : k = 3
 case' pos =>
  have q3 : (k == 3) = true := by simpa using k3
  have q2 := HQ.out q3
 case' neg => have q3 : (k == 3) = false := by simpa using k3
 all_goals
  clear HQ k3
  cases b1
  ·cases b2
   ·cases b3
    ·go_wp2_with (first | (go_at_call 34; (with_reducible refine (HS _).out.mono ?_); rintro e W1 ⟨rfl, x⟩; have z9 := (HB2 _ (XR.out.trans x)).out; have X1 := Lib.hid (XR.out.trans x); have zf1 := (HZ2 _ X1.out).out.frozen; have zc1 := (HZ2 _ X1.out).out.cell; clear x) | (go_at_call 34; (with_reducible refine (HI _).out.mono ?_); rintro e W2 ⟨rfl, x⟩; have y9 := (HB2 _ (X1.out.trans x)).out; have X2 := Lib.hid (X1.out.trans x); have zf2 := (HZ2 _ X2.out).out.frozen; have zc2 := (HZ2 _ X2.out).out.cell; clear x) | (go_at_call 34; (with_reducible refine (HN _).out.mono ?_); rintro e W3 ⟨rfl, x⟩; have u9 := (HB2 _ (X2.out.trans x)).out; have X3 := Lib.hid (X2.out.trans x); have zf := (HZ2 _ X3.out).out.frozen; have zc := (HZ2 _ X3.out).out.cell; clear x))
     obtain ⟨kb, kx⟩ := (HF W3 1 X3.out).out
     have kc := kb.cell
     exact bodyPost_ret (v := .agg #[.int .i64 1, .int .i64 k, .int .i64 n, .string s, .slice A m c]) (by simp [results, Tryz.results79, go_sem, kc]) rfl ⟨by rw [HE.out]; rfl, kx⟩
    ·go_wp2_with (first | (go_at_call 34; (with_reducible refine (HS _).out.mono ?_); rintro e W1 ⟨rfl, x⟩; have z9 := (HB2 _ (XR.out.trans x)).out; have X1 := Lib.hid (XR.out.trans x); have zf1 := (HZ2 _ X1.out).out.frozen; have zc1 := (HZ2 _ X1.out).out.cell; clear x) | (go_at_call 34; (with_reducible refine (HI _).out.mono ?_); rintro e W2 ⟨rfl, x⟩; have y9 := (HB2 _ (X1.out.trans x)).out; have X2 := Lib.hid (X1.out.trans x); have zf2 := (HZ2 _ X2.out).out.frozen; have zc2 := (HZ2 _ X2.out).out.cell; clear x) | (go_at_call 34; (with_reducible refine (HN _).out.mono ?_); rintro e W3 ⟨rfl, x⟩; have u9 := (HB2 _ (X2.out.trans x)).out; have X3 := Lib.hid (X2.out.trans x); have zf := (HZ2 _ X3.out).out.frozen; have zc := (HZ2 _ X3.out).out.cell; clear x))
     obtain ⟨kb, kx⟩ := (HF W3 3 X3.out).out
     have kc := kb.cell
     exact bodyPost_ret (v := .agg #[.int .i64 3, .int .i64 k, .int .i64 n, .string s, .slice A m c]) (by simp [results, Tryz.results79, go_sem, kc]) rfl ⟨by rw [HE.out]; rfl, kx⟩
   ·go_wp2_with (first | (go_at_call 34; (with_reducible refine (HS _).out.mono ?_); rintro e W1 ⟨rfl, x⟩; have z9 := (HB2 _ (XR.out.trans x)).out; have X1 := Lib.hid (XR.out.trans x); have zf1 := (HZ2 _ X1.out).out.frozen; have zc1 := (HZ2 _ X1.out).out.cell; clear x) | (go_at_call 34; (with_reducible refine (HI _).out.mono ?_); rintro e W2 ⟨rfl, x⟩; have y9 := (HB2 _ (X1.out.trans x)).out; have X2 := Lib.hid (X1.out.trans x); have zf2 := (HZ2 _ X2.out).out.frozen; have zc2 := (HZ2 _ X2.out).out.cell; clear x))
    obtain ⟨kb, kx⟩ := (HF W2 3 X2.out).out
    have kc := kb.cell
    exact bodyPost_ret (v := .agg #[.int .i64 3, .int .i64 k, .int .i64 n, .string s, .slice A m c]) (by simp [results, Tryz.results79, go_sem, kc]) rfl ⟨by rw [HE.out]; rfl, kx⟩
  ·go_wp2_with (first | (go_at_call 34; (with_reducible refine (HS _).out.mono ?_); rintro e W1 ⟨rfl, x⟩; have z9 := (HB2 _ (XR.out.trans x)).out; have X1 := Lib.hid (XR.out.trans x); have zf1 := (HZ2 _ X1.out).out.frozen; have zc1 := (HZ2 _ X1.out).out.cell; clear x))
   obtain ⟨kb, kx⟩ := (HF W1 3 X1.out).out
   have kc := kb.cell
   exact bodyPost_ret (v := .agg #[.int .i64 3, .int .i64 k, .int .i64 n, .string s, .slice A m c]) (by simp [results, Tryz.results79, go_sem, kc]) rfl ⟨by rw [HE.out]; rfl, kx⟩
end Go.Proofs.YtmnnhdegoapfcaaGreatDoor

/- Layer 14, the reference: the walk of Body. -/
namespace Go.Proofs.YtmnnhdegoapfcaaGreatDoor
open Go.RowKit Go.El
def BoPost (D : Nat → Prop) (w : World) (o : Option (List (Int × Tm))) (e : Ending) (w' : World) : Prop :=
 (o = none ∧ (∃ (k n : Int) (s : ByteArray) (A : Option Addr) (m c : Nat), e = .returned (.tuple #[.slice none 0 0, .agg #[.int .i64 k, .int .i64 n, .string s, .slice A m c], .bool false])) ∧ Ext w w')
 ∨ ∃ (gs : List (Int × Tm)) (A : Option Addr) (c : Nat), o = some gs ∧ e = .returned (.tuple #[.slice A gs.length c, .agg #[.int .i64 0, .int .i64 0, .string ⟨#[]⟩, .slice none 0 0], .bool true]) ∧ GoalsIn (fun b => D b ∨ (w.heap.size ≤ b ∧ b < w'.heap.size)) w' gs A c ∧ Ext w w'
structure BoAt (V : World) (ML : List TmP) (j : Nat) (wr : World) (v : Value) : Prop where
 own : wr.ownsRow 0 42 5 v j (flat goC (ML.take j))
 new : ∀ b, v.ownBlock = some b → V.heap.size ≤ b
 ext : Ext V wr
 no : ∀ p ∈ ML.take j, ¬ p.1.k = 2
theorem BoAt.more {V : World} {ML : List TmP} {j : Nat} {wr w1 w2 : World} {v v2 : Value} {p : TmP} (h : BoAt V ML j wr v) (hp : ML[j]? = some p) (hk : ¬ p.1.k = 2) (x : Ext wr w1) (ho : w2.ownsRow 0 42 5 v2 (j + 1) (flat goC (ML.take j) ++ goC p)) (hm : Mods (ownL v) w1 w2) (hb : v2.ownBlock = v.ownBlock ∨ v2.ownBlock = some w1.heap.size) : BoAt V ML (j + 1) w2 v2 := by
 have ht : ML.take (j + 1) = ML.take j ++ [p] := by
  obtain ⟨hj, he⟩ := List.getElem?_eq_some_iff.1 hp
  rw [List.take_succ_eq_append_getElem hj, he]
 have hx := h.ext.trans x
 refine ⟨?_, fun b hbb => ?_, ext_mods hx hm (fun k hk => h.new k (mem_ownL hk)), fun q hq => ?_⟩
 ·rw [ht]
  simpa [flat] using ho
 ·rcases hb with hb | hb
  ·exact h.new b (hb ▸ hbb)
  ·have := hb.symm.trans hbb
   injection this with this
   have := hx.size
   omega
 ·rw [ht] at hq
  rcases List.mem_append.1 hq with hq | hq
  ·exact h.no q hq
  ·simp only [List.mem_cons, List.not_mem_nil, or_false] at hq
   rw [hq]
   exact hk
set_option maxRecDepth 100000 in
set_option maxHeartbeats 8000000 in
theorem refBody_any (t : Tm) (A : Option Addr) (c : Nat) (w : World) (D : Nat → Prop) (hD : ∀ k, D k → k < w.heap.size) (ht : TmIn D w t A c) (hbig : szT t ≤ 1000000) :
  Calls Tryz.prog 41 #[tmVal t A c] w (BoPost D w (bodyF t)) := by
 obtain ⟨i1, hi1, hz0, hz1, hz2⟩ := infoP goInfo
 have HCK := fun (W : World) (x : Ext w W) => Lib.hid (refCheck_any t A c W D (ht.ext x) (by omega))
 have HFL := fun (W : World) (x : Ext w W) => Lib.hid (refFlat_any (szT t) t (Nat.le_refl _) hbig A c W D (fun k hk => Nat.lt_of_lt_of_le (hD k hk) x.size) (ht.ext x))
 have H := Lib.hid ht
 have HD := Lib.hid hD
 have HB0 := Lib.hid (@bodyF_bad t)
 have HB1 := Lib.hid (@bodyF_long t)
 have HB2 := Lib.hid (fun (x : Tm) (h1 : x ∈ flatN (szT t) t) (h2 : x.k = 2) => bodyF_int h1 h2)
 have HB3 := Lib.hid (@bodyF_some t)
 unfold tmVal at HCK HFL ⊢
 generalize bodyF t = RR at *
 generalize chkT t = ck at *
 generalize flatN (szT t) t = L at *
 generalize t.l.length = m at *
 generalize t.s = s at *
 generalize t.n = n at *
 generalize t.k = k at *
 clear ht hD
 go_enter Tryz.func41, Tryz.ntmps41
 go_upto_region 1 with fail
 refine wp_abs (fun V => Hid (Blk V w.heap.size 30 #[.int .i64 k, .int .i64 n, .string s, .slice A m c]) ∧ Hid (Blk V (w.heap.size + 1) 30 #[.int .i64 0, .int .i64 0, .string ⟨#[]⟩, .slice none 0 0]) ∧ Hid (Ext w V)) ⟨Lib.hid ((Blk.new w _ _).alloc _), Lib.hid sh2b, Lib.hid (((Ext.refl w).alloc _).alloc _)⟩ ?_
 rintro V ⟨HB, HZ, HX⟩
 have x9 := HB.out.cell
 have HC1 := HCK V HX.out
 have hne : ¬ w.heap.size = w.heap.size + 1 := by omega
 by_cases hck : ck = 0
 case' neg =>
  have q1 : (ck != 0) = true := by simpa using hck
  have HR := Lib.hid (HB0.out hck)
  clear hck HB0 HB1 HB2 HB3 HFL
  go_wp2_with (first | (go_at_call 15; refine HC1.out.mono ?_; rintro e W1 ⟨rfl, x⟩; have X1 := Lib.hid (HX.out.trans x); have Z1 := Lib.hid (HZ.out.ext x); clear x) | (go_at_call 32; refine (refBSize_any _).mono ?_; rintro e W9 ⟨k9, n9, s9, A9, m9, c9, rfl, x⟩; have z0 := Z1.out.ext x; have Z9 := Lib.hid z0; have X9 := Lib.hid (X1.out.trans x); have zc := z0.cell; have zf := z0.frozen; clear x z0))
  have kb := st4_blk Z9.out k9 n9 s9 A9 m9 c9
  have kx := st4_ext X9.out (show w.heap.size ≤ w.heap.size + 1 by omega) k9 n9 s9 A9 m9 c9
  unfold st4 at kb kx
  have kc := kb.cell
  exact bodyPost_ret (v := .tuple #[.slice none 0 0, .agg #[.int .i64 k9, .int .i64 n9, .string s9, .slice A9 m9 c9], .bool false]) (by simp [results, Tryz.results41, go_sem, kc]) rfl (.inl ⟨HR.out, ⟨_, _, _, _, _, _, rfl⟩, kx⟩)
 subst hck
 go_upto_region 3 with (go_at_call 15; refine HC1.out.mono ?_; rintro e W1 ⟨rfl, x⟩; have X1 := Lib.hid (HX.out.trans x); have Z1 := Lib.hid (HZ.out.ext x); have B1 := Lib.hid (HB.out.ext x); clear x)
 refine wp_abs (fun V => Hid (Blk V w.heap.size 30 #[.int .i64 k, .int .i64 n, .string s, .slice A m c]) ∧ Hid (Blk V (w.heap.size + 1) 30 #[.int .i64 0, .int .i64 0, .string ⟨#[]⟩, .slice none 0 0]) ∧ Hid (Ext w V)) ⟨B1, Z1, X1⟩ ?_
 clear x9 HC1 HCK HB HZ HX B1 Z1 X1
 rintro V1 ⟨HB, HZ, HX⟩
 have x9 := HB.out.cell
 have HF1 := HFL V1 HX.out
 clear HFL
 go_upto_region 4 with (go_at_call 35; refine HF1.out.mono ?_; rintro e W2 ⟨ML, AL, cL, rfl, e2, o2, t2, b2, x2⟩; have E2 := Lib.hid e2; have O2 := Lib.hid o2; have T2 := Lib.hid t2; have X2 := Lib.hid x2; clear e2 o2 t2 b2 x2)
 have Z2 := Lib.hid (HZ.out.ext X2.out)
 have XW := Lib.hid (HX.out.trans X2.out)
 have hlen : ML.length = L.length := by rw [← E2.out, List.length_map]
 clear HB HZ HX x9 HF1
 have zf2 := Z2.out.frozen
 have zc2 := Z2.out.cell
 by_cases h64 : 64 < ML.length
 ·have HR := Lib.hid (HB1.out (by omega))
  have q1 : (64 : Int) < (ML.length : Int) := by omega
  clear HB0 HB1 HB2 HB3
  go_wp2_with (go_at_call 32; refine (refBSize_any _).mono ?_; rintro e W9 ⟨k9, n9, s9, A9, m9, c9, rfl, x⟩; have z0 := Z2.out.ext x; have Z9 := Lib.hid z0; have X9 := Lib.hid (XW.out.trans x); have zc := z0.cell; have zf := z0.frozen; clear x z0)
  have kb := st4_blk Z9.out k9 n9 s9 A9 m9 c9
  have kx := st4_ext X9.out (show w.heap.size ≤ w.heap.size + 1 by omega) k9 n9 s9 A9 m9 c9
  unfold st4 at kb kx
  have kc := kb.cell
  exact bodyPost_ret (v := .tuple #[.slice none 0 0, .agg #[.int .i64 k9, .int .i64 n9, .string s9, .slice A9 m9 c9], .bool false]) (by simp [results, Tryz.results41, go_sem, kc]) rfl (.inl ⟨HR.out, ⟨_, _, _, _, _, _, rfl⟩, kx⟩)
 have q64 : ¬ (64 : Int) < (ML.length : Int) := by omega
 go_wp2_with fail
 go_loopw [6, 7] (fun ov iv wr => ∃ (j : Nat) (v : Value), j ≤ ML.length ∧ iv = .int .i64 j ∧ ov = v ∧ Hid (BoAt W2 ML j wr v)) (fun _ iv _ => ML.length - (intOf iv).toNat)
 case atStart => exact ⟨0, .slice none 0 0, Nat.zero_le _, rfl, rfl, Lib.hid ⟨World.ownsRow_nil _ _ _ _, fun b hb => by simp [Value.ownBlock] at hb, Ext.refl _, fun p hp => by simp at hp⟩⟩
 case round =>
  obtain ⟨j, v, hj, rfl, rfl, HR⟩ := hrel
  clear zf2 zc2
  by_cases hlt : j < ML.length
  ·have ho : ML[j]? = some ML[j] := List.getElem?_eq_getElem hlt
   generalize ML[j] = p at ho
   obtain ⟨b, off, rfl, d0, d1, d2, d3⟩ := tm_at4 ((El.Src.of_own O2.out).ext HR.out.ext) ho
   have HPM := Lib.hid (show p.1 ∈ L from E2.out ▸ List.mem_map.2 ⟨p, List.mem_of_getElem? ho, rfl⟩)
   have HO := Lib.hid ho
   clear ho
   by_cases hk : p.1.k = 2
   ·have HRN := Lib.hid (HB2.out p.1 HPM.out hk)
    have q1 : (p.1.k == 2) = true := by simpa using hk
    have HZ3 := Lib.hid (Z2.out.ext HR.out.ext)
    have HX3 := Lib.hid (XW.out.trans HR.out.ext)
    clear hk HB0 HB1 HB2 HB3
    go_wp2_with (go_at_call 37; refine (refType_any _ _ _ _ _ _ _ _).mono ?_; rintro e W9 ⟨k9, n9, s9, A9, m9, c9, rfl, x⟩; have z0 := HZ3.out.ext x; have Z9 := Lib.hid z0; have X9 := Lib.hid (HX3.out.trans x); have zc := z0.cell; have zf := z0.frozen; clear x z0)
    have kb := st4_blk Z9.out k9 n9 s9 A9 m9 c9
    have kx := st4_ext X9.out (show w.heap.size ≤ w.heap.size + 1 by omega) k9 n9 s9 A9 m9 c9
    unfold st4 at kb kx
    have kc := kb.cell
    exact bodyPost_ret (v := .tuple #[.slice none 0 0, .agg #[.int .i64 k9, .int .i64 n9, .string s9, .slice A9 m9 c9], .bool false]) (by simp [results, Tryz.results41, go_sem, kc]) rfl (.inl ⟨HRN.out, ⟨_, _, _, _, _, _, rfl⟩, kx⟩)
   ·have q1 : (p.1.k == 2) = false := by simpa using hk
    have HK := Lib.hid hk
    have HG := fun W => Lib.hid (refGoal_any p.1 p.2.1 p.2.2 W)
    unfold goalV tmVal at HG
    simp only at HG
    obtain ⟨Av, cv, rfl⟩ := own_value HR.out.own
    clear hk HB0 HB1 HB2 HB3
    go_wp2_with (first
     | (go_at_call 79; refine (HG _).out.mono ?_; rintro e W3 ⟨rfl, x⟩; have X3 := Lib.hid x; clear x)
     | (at_builtin; refine wpList_append_src (P := Tryz.prog) rfl (.tmp 35) (.tmp 41) 32 rfl 42 i1 _ 5 64 Tryz.underlying32 hi1 hz0 hz1 hz2 rfl (by omega) (.slice Av j cv) rfl _ _ _ rfl j (flat goC (ML.take j)) (own_ext HR.out.own (X3.out.alloc _)) (goC p) (El.Src.new W3 #[.int .i64 (goalK p.1), .int .i64 p.1.k, .int .i64 p.1.n, .string p.1.s, .slice p.2.1 p.1.l.length p.2.2] 42 1 5 rfl) (goC_one p) (by unfold maxLen; omega) (by omega) ?_; intro v3 w3 ho3 hm3 hb3; have R3 := Lib.hid (HR.out.more HO.out HK.out (X3.out.alloc _) ho3 hm3 hb3); clear ho3 hm3 hb3))
    go_roundw
    case rel => exact ⟨j + 1, v3, hlt, by go_num, rfl, R3⟩
    case measure => simp [intOf]; omega
  ·obtain rfl : j = ML.length := by omega
   have hown := HR.out.own
   have hno := HR.out.no
   have hnew := HR.out.new
   have hxr := HR.out.ext
   rw [List.take_length] at hown hno
   obtain ⟨A3, c3, rfl⟩ := own_value hown
   have hgd : GoalsIn (fun b => D b ∨ (W2.heap.size ≤ b ∧ b < wr.heap.size)) wr (ML.map fun p => (goalK p.1, p.1)) A3 c3 := goals_done hown (fun p hp => (TmIn.ext hxr (T2.out p hp)).mono (fun k hk => .inl hk)) (fun b hb => .inr ⟨hnew b hb, own_lt hown hb⟩)
   have HR3 := Lib.hid (HB3.out trivial (by omega) (fun x hx => by rw [← E2.out] at hx; obtain ⟨p, hp, rfl⟩ := List.mem_map.1 hx; exact hno p hp))
   have HGD := Lib.hid hgd
   have HZ3 := Lib.hid (Z2.out.ext hxr)
   have HX3 := Lib.hid (XW.out.trans hxr)
   have zc := HZ3.out.cell
   have zf := HZ3.out.frozen
   have hw2 := Z2.out.lt
   have hwr := hxr.size
   clear hgd hown hno hnew hxr HR HB0 HB1 HB2 HB3
   go_wp2_with fail
   have kb := st4_blk HZ3.out 0 0 ⟨#[]⟩ none 0 0
   have kx := st4_ext HX3.out (show w.heap.size ≤ w.heap.size + 1 by omega) 0 0 ⟨#[]⟩ none 0 0
   have kg := HGD.out.mods (S := [w.heap.size + 1]) (D' := fun b => D b ∨ (w.heap.size ≤ b ∧ b < (st4 wr (w.heap.size + 1) 0 0 ⟨#[]⟩ none 0 0).heap.size)) (w' := st4 wr (w.heap.size + 1) 0 0 ⟨#[]⟩ none 0 0) (((((Mods.refl _ wr).setCell (p := ⟨w.heap.size + 1, 0, none⟩) (.inl (by simp)) _).setCell (p := ⟨w.heap.size + 1, 1, none⟩) (.inl (by simp)) _).setCell (p := ⟨w.heap.size + 1, 2, none⟩) (.inl (by simp)) _).setCell (p := ⟨w.heap.size + 1, 3, none⟩) (.inl (by simp)) _) (fun k hk => by rcases hk with hk | hk; have := HD.out k hk; simp; omega; simp; omega) (fun k hk => by rcases hk with hk | hk; exact .inl hk; exact .inr ⟨by omega, by simp only [st4, World.size_setCell]; exact hk.2⟩)
   unfold st4 at kb kx kg
   have kc := kb.cell
   refine bodyPost_ret (v := .tuple #[.slice A3 ML.length c3, .agg #[.int .i64 0, .int .i64 0, .string ⟨#[]⟩, .slice none 0 0], .bool true]) (by simp [results, Tryz.results41, go_sem, kc]) rfl (.inr ⟨L.map fun x => (goalK x, x), A3, c3, HR3.out, by rw [List.length_map, ← hlen], ?_, kx⟩)
   rw [← E2.out, List.map_map]
   exact kg
end Go.Proofs.YtmnnhdegoapfcaaGreatDoor
