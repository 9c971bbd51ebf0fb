/- Clauses that come in, opened; the reference's size of terms, and its Large of clauses. -/
import Derived.Test.YtkenjhchfidpbaaGreatDoorC41
import Derived.Test.YtkenjhchfidpbaaGreatDoorC38
import Derived.Test.YtkenjhchfidpbaaGreatDoorC37
import Derived.Deep.RegionLaw
import Derived.Great.Walk
import Derived.Laws.OwnMore
import Derived.OwnWalk
namespace Go.El
open Go.RowKit Go.ChangeShapes Go.WideShapes Go.ChangeAt Go.Deep Go.Joins

/-- A goal: its kind, its term, where its arguments lie. -/
abbrev GoP := Int × TmP
def goC (q : GoP) : List Value := .int .i64 q.1 :: tmC q.2
theorem goC_len (q : GoP) : (goC q).length = 5 := by simp [goC, tmC_len]
/-- The cells of a clause. -/
def clV (h : TmP) (B : Option Addr) (G : List GoP) (cb : Nat) (v : Int) : Value :=
  .agg #[.int .i64 h.1.k, .int .i64 h.1.n, .string h.1.s, .slice h.2.1 h.1.l.length h.2.2, .slice B G.length cb, .int .i64 v]

section
variable {H : Type} {enc : TypeId × Value → H} {P : Program} {w : World} {base : Nat} {spare : Nat → Bool} {held : Bool}
/-- The types of goals and clauses, as a program lays them. -/
structure ClType (P : Program) (tc tg tgl tt ti : TypeId) : Prop where
  goal : ∃ f0 f1 : Field, P.underlying tg = some (.struct #[f0, f1]) ∧ f0.type = ti ∧ f1.type = tt ∧ f0.offset = 0 ∧ f1.offset = 1
  cl : ∃ f0 f1 f2 : Field, P.underlying tc = some (.struct #[f0, f1, f2]) ∧ f0.type = tt ∧ f1.type = tgl ∧ f2.type = ti ∧ f0.offset = 0 ∧ f1.offset = 4 ∧ f2.offset = 5
  sl : P.underlying tgl = some (.slice tg)
  cg : P.cellsOf tg = 5
  cc : P.cellsOf tc = 6
  cgl : P.cellsOf tgl = 1
variable {tc tg tgl tt tsl ti ts : TypeId}

theorem goal_of_trod (T : TmType P tt tsl ti ts) (L : ClType P tc tg tgl tt ti) {fuel : Nat} {cs : List Value} {x : DataW H × List MemPlace} (h : DataW.trod enc P w base spare held fuel tg cs = some x) : ∃ q : GoP, cs = goC q ∧ TmRead w q.2 := by
  obtain ⟨f0, f1, hu, t0, t1, o0, o1⟩ := L.goal
  obtain ⟨xs, n, _, _, hl, hlen, hf⟩ := DataW.trod_struct hu h
  rw [L.cg] at hl
  match cs, hl with
  | [c0, c1, c2, c3, c4], _ =>
    have h0 := hf 0 f0 rfl
    have h1 := hf 1 f1 rfl
    match xs, hlen with
    | [x0, x1], _ =>
      rw [t0, o0, T.ci] at h0
      rw [t1, o1, T.c] at h1
      simp only [List.drop_zero, List.drop_succ_cons, List.take_succ_cons, List.take_zero, List.getElem?_cons_zero, List.getElem?_cons_succ] at h0 h1
      obtain ⟨k, e0, _, _⟩ := DataW.trod_int T.int h0
      obtain ⟨p, e1, r1⟩ := tm_of_trod T n n (Nat.le_refl _) _ _ h1
      simp only [List.cons.injEq, and_true] at e0
      exact ⟨(k, p), by rw [e0, e1]; rfl, r1⟩
theorem goals_of_trod (T : TmType P tt tsl ti ts) (L : ClType P tc tg tgl tt ti) {fuel : Nat} {cs : List Value} {x : DataW H × List MemPlace} (h : DataW.trod enc P w base spare held fuel tgl cs = some x) :
    ∃ (A : Option Addr) (G : List GoP) (c : Nat), cs = [.slice A G.length c] ∧ (∀ q ∈ G, TmRead w q.2) ∧ Src w A G.length 5 (flat goC G) ∧ G.length ≤ maxLen := by
  rcases DataW.trod_slice L.sl h with ⟨h2, _⟩ | ⟨a, len, cap, elems, rest, n, hn, hcs, _, hb, hl, hm, hlen, hall, _, _⟩
  · exact ⟨none, [], 0, h2, fun p hp => by simp at hp, Src.none _ _ _, Nat.zero_le _⟩
  · obtain ⟨G, hG, hp⟩ := list_of_all (p := fun i (q : GoP) => w.cells? base (a.add (i * 5)) 5 = some (goC q) ∧ TmRead w q.2) len (fun i hil => by
      have hi := hall i hil
      rw [List.getElem?_eq_getElem (by omega), L.cg] at hi
      obtain ⟨cs', h1, h2⟩ := Option.bind_eq_some_iff.1 hi
      obtain ⟨q, e, g⟩ := goal_of_trod T L h2
      rw [e] at h1
      exact ⟨q, h1, g⟩)
    subst hG
    have hsrc : Src w (some a) G.length 5 (flat goC G) := src_of_cells goC_len (by omega) (fun i q hq j u hu => by
      obtain ⟨_, _, hat⟩ := World.cells?_some (hp i q hq).1
      have hj : j < 5 := by
        have := (List.getElem?_eq_some_iff.1 hu).1
        rwa [goC_len] at this
      rw [← Go.Deep.add_add]
      exact (hat j hj).trans hu)
    refine ⟨some a, G, cap, hcs, fun q hq => ?_, hsrc, by omega⟩
    obtain ⟨i, hi⟩ := List.mem_iff_getElem?.1 hq
    exact (hp i q hi).2
theorem open_cl (T : TmType P tt tsl ti ts) (L : ClType P tc tg tgl tt ti) {r : Reach} {b0 : Nat} {v : Value} {d : DataW H} {ps : List MemPlace} (hv : Value.okWide P w r b0 tc v) (h : DataW.Trod enc P w base spare held tc v d ps) :
    ∃ (p : TmP) (B : Option Addr) (G : List GoP) (cb : Nat) (n : Int), v = clV p B G cb n ∧ TmRead w p ∧ (∀ q ∈ G, TmRead w q.2) ∧ Src w B G.length 5 (flat goC G) ∧ G.length ≤ maxLen := by
  obtain ⟨f0, f1, f2, hu, t0, t1, t2, o0, o1, o2⟩ := L.cl
  obtain ⟨cs, rfl, _⟩ := okWide_struct hu hv
  obtain ⟨fuel, hf⟩ := h
  obtain ⟨l⟩ := cs
  simp only [Value.cells] at hf
  obtain ⟨xs, n, _, _, hl, hlen, hf⟩ := DataW.trod_struct hu hf
  rw [L.cc] at hl
  match l, hl with
  | [c0, c1, c2, c3, c4, c5], _ =>
    have h0 := hf 0 f0 rfl
    have h1 := hf 1 f1 rfl
    have h2 := hf 2 f2 rfl
    match xs, hlen with
    | [x0, x1, x2], _ =>
      rw [t0, o0, T.c] at h0
      rw [t1, o1, L.cgl] at h1
      rw [t2, o2, T.ci] at h2
      simp only [List.drop_zero, List.drop_succ_cons, List.take_succ_cons, List.take_zero, List.getElem?_cons_zero, List.getElem?_cons_succ] at h0 h1 h2
      obtain ⟨p, e0, r0⟩ := tm_of_trod T n n (Nat.le_refl _) _ _ h0
      obtain ⟨B, G, cb, e1, r1, s1, m1⟩ := goals_of_trod T L h1
      obtain ⟨k, e2, _, _⟩ := DataW.trod_int T.int h2
      simp only [tmC, List.cons.injEq, and_true] at e0 e1 e2
      obtain ⟨rfl, rfl, rfl, rfl⟩ := e0
      subst e1 e2
      exact ⟨p, B, G, cb, k, rfl, r0, r1, s1, m1⟩
end

/-- A goal of a row. -/
theorem src_goal {w : World} {B : Option Addr} {G : List GoP} (h : Src w B G.length 5 (flat goC G)) {j : Nat} {q : GoP} (hj : G[j]? = some q) :
    ∃ b o, B = some ⟨b, o, none⟩ ∧ w.cell? ⟨b, o + j * 5, none⟩ = some (.int .i64 q.1) ∧ w.cell? ⟨b, o + j * 5 + 1, none⟩ = some (.int .i64 q.2.1.k) ∧ w.cell? ⟨b, o + j * 5 + 2, none⟩ = some (.int .i64 q.2.1.n) ∧
      w.cell? ⟨b, o + j * 5 + 3, none⟩ = some (.string q.2.1.s) ∧ w.cell? ⟨b, o + j * 5 + 4, none⟩ = some (.slice q.2.2.1 q.2.1.l.length q.2.2.2) := by
  have hlt : j < G.length := (List.getElem?_eq_some_iff.1 hj).1
  obtain ⟨b, o, rfl, hc⟩ := Src.form h (by omega) (by omega)
  have e (i : Nat) (hi : i < 5) (u : Value) (hu : (goC q)[i]? = some u) : w.cell? ⟨b, o + (j * 5 + i), none⟩ = some u := hc _ u (by rw [flat_at goC_len G j i _ hj hi]; exact hu)
  refine ⟨b, o, rfl, e 0 (by omega) _ rfl, ?_, ?_, ?_, ?_⟩
  · have := e 1 (by omega) _ rfl; rwa [← Nat.add_assoc] at this
  · have := e 2 (by omega) _ rfl; rwa [← Nat.add_assoc] at this
  · have := e 3 (by omega) _ rfl; rwa [← Nat.add_assoc] at this
  · have := e 4 (by omega) _ rfl; rwa [← Nat.add_assoc] at this
end Go.El
namespace Go.Proofs.YtkenjhchfidpbaaGreatDoor
open Go.RowKit Go.El

set_option maxRecDepth 100000 in
set_option maxHeartbeats 4000000 in
theorem refSize_any : ∀ (N : Nat) (t : Tm), szT t ≤ N → szT t ≤ 1000000000 → ∀ (A : Option Addr) (c : Nat) (w : World) (D : Nat → Prop), TmIn D w t A c →
    Calls Tryz.prog 19 #[tmVal t A c] w fun e w' => e = .returned (.int .i64 (szT t)) ∧ Ext w w'
  | 0, t, h => by
    have := szT_pos t
    omega
  | N + 1, .mk k n s l, hN => by
    intro hbig A c w D ht
    have IH := refSize_any N
    simp only [szT] at hN hbig
    have hlen := len_szL l
    have H := Lib.hid ht
    have hx := ext_box w (.cells #[.int .i64 k, .int .i64 n, .string s, .slice A l.length c] 24)
    unfold tmVal
    simp only [Tm.k, Tm.n, Tm.s, Tm.l]
    have hsz : szT (.mk k n s l) = 1 + szL l := by simp only [szT]
    rw [hsz]
    have HB1 := Lib.hid (Blk.new w 24 #[.int .i64 k, .int .i64 n, .string s, .slice A l.length c])
    clear hsz ht
    go_enter Tryz.func19, Tryz.ntmps19
    go_upto_region 3 with fail
    refine wp_abs (fun V => Hid (Blk V w.heap.size 24 #[.int .i64 k, .int .i64 n, .string s, .slice A l.length c]) ∧ Hid (Ext w V)) ⟨HB1, hx⟩ ?_
    clear HB1 hx
    rintro V ⟨HB1, H1⟩
    go_loopw [3, 4] (fun d i wr => ∃ j : Nat, j ≤ l.length ∧ i = .int .i64 j ∧ d = .int .i64 (1 + (szL (l.take j) : Int)) ∧ Hid (Ext V wr)) (fun _ i _ => l.length - (intOf i).toNat)
    case atStart => exact ⟨0, Nat.zero_le _, rfl, by simp [szL], Lib.hid (Ext.refl _)⟩
    case round =>
      obtain ⟨j, hj, rfl, rfl, HV⟩ := hrel
      have z3 : wr.cell? ⟨w.heap.size, 3, none⟩ = some (.slice A l.length c) := (HB1.out.ext HV.out).cell 3
      by_cases hlt : j < l.length
      · have ho : l[j]? = some l[j] := List.getElem?_eq_getElem hlt
        have hsu := szL_get ho
        have htk := szL_take ho
        have hle := szL_take_le l (j + 1)
        generalize l[j] = u at *
        obtain ⟨ba, oa, A', c', rfl, _, hu, p0, p1, p2, p3⟩ := (H.out.ext (H1.out.trans HV.out)).child (j := j) ho
        have HC := Lib.hid (IH u (by omega) (by omega) A' c' wr D hu)
        unfold tmVal at HC
        clear ho hu
        generalize szT u = du at *
        generalize szL (l.take j) = dj at *
        generalize hdn : szL (l.take (j + 1)) = dn at *
        have HTK := Lib.hid htk
        have HDN := Lib.hid hdn
        have hb : (dj : Int) + (du : Int) ≤ 1000000000 := by omega
        clear htk hdn
        go_wp2_with (go_at_call 19; refine HC.out.mono ?_; rintro e W1 ⟨rfl, h1⟩; have H2 := Lib.hid (HV.out.trans h1); clear h1)
        go_roundw
        case rel => exact ⟨j + 1, hlt, by go_num, by rw [HDN.out, HTK.out]; go_num, H2⟩
        case measure => simp [intOf]; omega
      · obtain rfl : j = l.length := by omega
        rw [List.take_length]
        go_wp2_with fail
        go_ret
        exact ⟨congrArg Ending.returned (congrArg (Value.int .i64) (by omega)), H1.out.trans HV.out⟩

end Go.Proofs.YtkenjhchfidpbaaGreatDoor

/- The reference's Large of a clause. -/
namespace Go.Proofs.YtkenjhchfidpbaaGreatDoor
open Go.RowKit Go.El

/-- A clause in a box. -/
def clC (p : TmP) (B : Option Addr) (G : List GoP) (cb : Nat) (n : Int) : Array Value := #[.int .i64 p.1.k, .int .i64 p.1.n, .string p.1.s, .slice p.2.1 p.1.l.length p.2.2, .slice B G.length cb, .int .i64 n]

/-- Is one of them large, or all together? -/
def bigG : List GoP → Nat → Bool
  | [], _ => false
  | q :: l, n => bigT q.2.1 || (decide (8000 < n + szT q.2.1) || bigG l (n + szT q.2.1))
def bigC (p : TmP) (G : List GoP) : Bool := bigT p.1 || (decide (80 < G.length) || bigG G (szT p.1))
theorem bigG_at {G : List GoP} {j m : Nat} {q : GoP} (h : G[j]? = some q) : bigG (G.drop j) m = (bigT q.2.1 || (decide (8000 < m + szT q.2.1) || bigG (G.drop (j + 1)) (m + szT q.2.1))) := by
  obtain ⟨hlt, he⟩ := List.getElem?_eq_some_iff.1 h
  rw [List.drop_eq_getElem_cons hlt, he]
  rfl

set_option maxRecDepth 100000 in
set_option maxHeartbeats 4000000 in
theorem large15_any (p : TmP) (B : Option Addr) (G : List GoP) (cb : Nat) (n : Int) (w : World) (hp : TmRead w p) (hG : ∀ q ∈ G, TmRead w q.2) (hS : El.Src w B G.length 5 (flat goC G)) (hm : G.length ≤ 9223372036854775807) :
    Calls Tryz.prog 4 #[clV p B G cb n] w fun e w' => e = .returned (.bool (bigC p G)) ∧ Ext w w' := by
  generalize hX : bigC p G = X
  have HXX := Lib.hid hX
  clear hX
  have HL := fun (q : TmP) (W : World) (h : TmRead w q) (x : Ext w W) => Lib.hid (refLarge_any q.1 q.2.1 q.2.2 W _ (h.1.ext x) h.2)
  have HZ := fun (q : TmP) (W : World) (h : TmRead w q) (x : Ext w W) (hb : bigT q.1 = false) => Lib.hid (refSize_any (szT q.1) q.1 (Nat.le_refl _) (by have := bigT_no hb; omega) q.2.1 q.2.2 W _ (h.1.ext x))
  have HP := Lib.hid hp
  have HG := Lib.hid hG
  have HS := Lib.hid hS
  have HM := Lib.hid hm
  obtain ⟨t, A, c⟩ := p
  have hx := ext_box w (.cells (clC (t, A, c) B G cb n) 27)
  have hb := Blk.new w 27 (clC (t, A, c) B G cb n)
  have HL0 := HL (t, A, c) _ hp hx
  have HZ0 := fun (W : World) (x : Ext w W) (hb : bigT t = false) => HZ (t, A, c) W hp x hb
  have hzb : bigT t = false → szT t ≤ 6000 := bigT_no
  have HZB := Lib.hid hzb
  have HXC : Hid (X = (bigT t || (decide (80 < G.length) || bigG G (szT t)))) := Lib.hid HXX.out.symm
  clear HXX
  unfold tmVal at HL0 HZ0
  simp only at HL0 HZ0
  unfold clC at hx hb HL0
  unfold clV
  simp only
  clear hp hG hS hzb
  cases hbt : bigT t with
  | true =>
    rw [hbt] at HL0
    clear HZ0 HL HZ
    go_enter Tryz.func4, Tryz.ntmps4
    go_wp2_with (go_at_call 18; refine HL0.out.mono ?_; rintro e W1 ⟨rfl, x⟩; have X1 := Lib.hid (hx.trans x); clear x)
    go_ret
    exact ⟨by rw [HXC.out, hbt]; rfl, X1.out⟩
  | false =>
    rw [hbt] at HL0
    have hz0 := HZB.out hbt
    by_cases hg : 80 < G.length
    · have q1 : (80 : Int) < (G.length : Int) := by omega
      clear HZ0 HL HZ
      go_enter Tryz.func4, Tryz.ntmps4
      go_wp2_with (go_at_call 18; refine HL0.out.mono ?_; rintro e W1 ⟨rfl, x⟩; have X1 := Lib.hid (hx.trans x); have z4 := (hb.ext x).cell 4; clear x)
      go_ret
      exact ⟨by rw [HXC.out, decide_eq_true hg]; simp, X1.out⟩
    · have q1 : ¬ (80 : Int) < (G.length : Int) := by omega
      have HB := Lib.hid hb
      clear hb
      go_enter Tryz.func4, Tryz.ntmps4
      go_upto_region 3 with (go_at_call 18; refine HL0.out.mono ?_; rintro e W1 ⟨rfl, x⟩; have X1 := Lib.hid (hx.trans x); have HB1 := Lib.hid (HB.out.ext x); have z4 := HB1.out.cell 4; clear x)
      have k0 := HB1.out.cell 0
      have k1 := HB1.out.cell 1
      have k2 := HB1.out.cell 2
      have k3 := HB1.out.cell 3
      have HZ1 := HZ0 W1 X1.out hbt
      go_upto_region 4 with (go_at_call 19; refine HZ1.out.mono ?_; rintro e W2 ⟨rfl, x⟩; have X2 := Lib.hid (X1.out.trans x); have HB2 := Lib.hid (HB1.out.ext x); clear x)
      clear k0 k1 k2 k3 z4 HZ1 HB1 X1 HL0 HB HZ0
      have HXG : Hid (X = bigG (G.drop 0) (szT t)) := Lib.hid (by rw [HXC.out, hbt, decide_eq_false hg]; rfl)
      clear HXC
      generalize hsz : szT t = sz at *
      go_wp2_with fail
      go_loopw [3, 4] (fun s i wr => ∃ (j m : Nat), j ≤ G.length ∧ i = .int .i64 j ∧ s = .int .i64 m ∧ m ≤ 20000 ∧ Hid (X = bigG (G.drop j) m) ∧ Hid (Ext w wr) ∧ Hid (Blk wr w.heap.size 27 #[.int .i64 t.k, .int .i64 t.n, .string t.s, .slice A t.l.length c, .slice B G.length cb, .int .i64 n])) (fun _ i _ => G.length - (intOf i).toNat)
      case atStart => exact ⟨0, sz, Nat.zero_le _, rfl, rfl, by omega, HXG, X2, HB2⟩
      case round =>
        obtain ⟨j, m, hj, rfl, rfl, hm2, HXJ, HX, HBR⟩ := hrel
        have z4 := HBR.out.cell 4
        by_cases hlt : j < G.length
        · have ho : G[j]? = some G[j] := List.getElem?_eq_getElem hlt
          have hq := HG.out G[j] (List.getElem_mem hlt)
          generalize G[j] = q at *
          have HXQ := Lib.hid (HXJ.out.trans (bigG_at ho))
          clear HXJ
          obtain ⟨b, o, rfl, d0, d1, d2, d3, d4⟩ := src_goal (HS.out.ext HX.out) ho
          obtain ⟨qk, qt, qA, qc⟩ := q
          have HLj := HL (qt, qA, qc) wr hq HX.out
          unfold tmVal at HLj
          simp only at HLj d0 d1 d2 d3 d4
          cases hbj : bigT qt with
          | true =>
            rw [hbj] at HLj
            clear HL HZ
            go_wp2_with (go_at_call 18; refine HLj.out.mono ?_; rintro e W3 ⟨rfl, x⟩; have X3 := Lib.hid (HX.out.trans x); clear x)
            go_ret
            exact ⟨by rw [HXQ.out]; show _ = Ending.returned (.bool (bigT qt || _)); rw [hbj]; rfl, X3.out⟩
          | false =>
            rw [hbj] at HLj
            have hzj := bigT_no hbj
            have HSZ := fun (W : World) (x : Ext w W) => HZ (qt, qA, qc) W hq x hbj
            unfold tmVal at HSZ
            simp only at HSZ
            have HXR : Hid (X = (decide (8000 < m + szT qt) || bigG (G.drop (j + 1)) (m + szT qt))) := Lib.hid (by rw [HXQ.out]; show (bigT qt || _) = _; rw [hbj]; rfl)
            clear HXQ
            generalize szT qt = sj at *
            have HD1 := Lib.hid d1
            have HD2 := Lib.hid d2
            have HD3 := Lib.hid d3
            have HD4 := Lib.hid d4
            clear HL HZ
            go_upto_region 9 with (go_at_call 18; refine HLj.out.mono ?_; rintro e W3 ⟨rfl, x⟩; have X3 := Lib.hid (HX.out.trans x); have HB3 := Lib.hid (HBR.out.ext x); have e1 := x.cell HD1.out; have e2 := x.cell HD2.out; have e3 := x.cell HD3.out; have e4 := x.cell HD4.out; clear x)
            clear d0 d1 d2 d3 d4 z4 HLj
            have z4 := HB3.out.cell 4
            have HSj := HSZ W3 X3.out
            clear HSZ
            go_upto_region 10 with (go_at_call 19; refine HSj.out.mono ?_; rintro e W4 ⟨rfl, x⟩; have X4 := Lib.hid (X3.out.trans x); have HB4 := Lib.hid (HB3.out.ext x); clear x)
            clear e1 e2 e3 e4 z4 HSj HB3 X3
            by_cases hbig : 8000 < m + sj
            · have q2 : (8000 : Int) < (m : Int) + (sj : Int) := by omega
              go_wp2_with fail
              go_ret
              exact ⟨by rw [HXR.out, decide_eq_true hbig]; rfl, X4.out⟩
            · have q2 : ¬ (8000 : Int) < (m : Int) + (sj : Int) := by omega
              go_wp2_with fail
              go_roundw
              case rel => exact ⟨j + 1, m + sj, hlt, by go_num, by go_num, by omega, Lib.hid (by rw [HXR.out, decide_eq_false hbig]; rfl), X4, HB4⟩
              case measure => simp [intOf]; omega
        · obtain rfl : j = G.length := by omega
          go_wp2_with fail
          go_ret
          exact ⟨by rw [HXJ.out, List.drop_length]; rfl, HX.out⟩
end Go.Proofs.YtkenjhchfidpbaaGreatDoor

/- A nil machine: whatever is asked of it. -/
namespace Go.Proofs.YtkenjhchfidpbaaGreatDoor
open Go.RowKit Go.El

theorem mmade_nil (w : World) : Calls Tryz.prog 25 #[.pointer none] w fun e w' => e = .returned (.bool false) ∧ Ext w w' := by
  go_enter Tryz.func25, Tryz.ntmps25
  go_wp2_with fail
  go_ret
  exact ⟨rfl, Ext.refl _⟩

set_option maxRecDepth 100000 in
theorem mload_nil (v : Array Value) (w : World) : Calls Tryz.prog 6 #[.pointer none, .agg v] w fun e w' => e = .returned (.tuple #[.int .i64 0, .int .i64 6]) ∧ Ext w w' := by
  have hx := ext_box w (.cells v 27)
  have HM := mmade_nil (w.alloc (.cells v 27))
  go_enter Tryz.func6, Tryz.ntmps6
  go_wp2_with (go_at_call 25; refine HM.mono ?_; rintro e W1 ⟨rfl, x⟩; have X := Lib.hid (hx.trans x); clear x)
  go_ret2
  exact ⟨rfl, X.out⟩
set_option maxRecDepth 100000 in
theorem mask_nil (t : Tm) (A : Option Addr) (c : Nat) (w : World) : Calls Tryz.prog 7 #[.pointer none, tmVal t A c, .slice none 0 0] w fun e w' => e = .returned (.int .i64 6) ∧ Ext w w' := by
  have hx := ext_box w (.cells #[.int .i64 t.k, .int .i64 t.n, .string t.s, .slice A t.l.length c] 24)
  have HM := mmade_nil (w.alloc (.cells #[.int .i64 t.k, .int .i64 t.n, .string t.s, .slice A t.l.length c] 24))
  unfold tmVal
  go_enter Tryz.func7, Tryz.ntmps7
  go_wp2_with (go_at_call 25; refine HM.mono ?_; rintro e W1 ⟨rfl, x⟩; have X := Lib.hid (hx.trans x); clear x)
  go_ret
  exact ⟨rfl, X.out⟩
set_option maxRecDepth 100000 in
theorem mstep_nil (w : World) : Calls Tryz.prog 8 #[.pointer none] w fun e w' => e = .returned (.bool false) ∧ Ext w w' := by
  have HM := mmade_nil w
  go_enter Tryz.func8, Tryz.ntmps8
  go_wp2_with (go_at_call 25; refine HM.mono ?_; rintro e W1 ⟨rfl, x⟩; have X := Lib.hid x; clear x)
  go_ret
  exact ⟨rfl, X.out⟩
set_option maxRecDepth 100000 in
theorem mstate_nil (w : World) : Calls Tryz.prog 10 #[.pointer none] w fun e w' => e = .returned (.int .i64 0) ∧ Ext w w' := by
  have HM := mmade_nil w
  go_enter Tryz.func10, Tryz.ntmps10
  go_wp2_with (go_at_call 25; refine HM.mono ?_; rintro e W1 ⟨rfl, x⟩; have X := Lib.hid x; clear x)
  go_ret
  exact ⟨rfl, X.out⟩
set_option maxRecDepth 100000 in
theorem msteps_nil (w : World) : Calls Tryz.prog 11 #[.pointer none] w fun e w' => e = .returned (.int .i64 0) ∧ Ext w w' := by
  have HM := mmade_nil w
  go_enter Tryz.func11, Tryz.ntmps11
  go_wp2_with (go_at_call 25; refine HM.mono ?_; rintro e W1 ⟨rfl, x⟩; have X := Lib.hid x; clear x)
  go_ret
  exact ⟨rfl, X.out⟩
set_option maxRecDepth 100000 in
theorem mevents_nil (w : World) : Calls Tryz.prog 12 #[.pointer none] w fun e w' => e = .returned (.slice none 0 0) ∧ Ext w w' := by
  have HM := mmade_nil w
  go_enter Tryz.func12, Tryz.ntmps12
  go_wp2_with (go_at_call 25; refine HM.mono ?_; rintro e W1 ⟨rfl, x⟩; have X := Lib.hid x; clear x)
  go_ret
  exact ⟨rfl, X.out⟩
set_option maxRecDepth 100000 in
theorem mheap_nil (w : World) : Calls Tryz.prog 13 #[.pointer none] w fun e w' => e = .returned (.pointer none) ∧ Ext w w' := by
  have HM := mmade_nil w
  go_enter Tryz.func13, Tryz.ntmps13
  go_wp2_with (go_at_call 25; refine HM.mono ?_; rintro e W1 ⟨rfl, x⟩; have X := Lib.hid x; clear x)
  go_ret
  exact ⟨rfl, X.out⟩
set_option maxRecDepth 100000 in
theorem mstack_nil (w : World) : Calls Tryz.prog 14 #[.pointer none] w fun e w' => e = .returned (.pointer none) ∧ Ext w w' := by
  have HM := mmade_nil w
  go_enter Tryz.func14, Tryz.ntmps14
  go_wp2_with (go_at_call 25; refine HM.mono ?_; rintro e W1 ⟨rfl, x⟩; have X := Lib.hid x; clear x)
  go_ret
  exact ⟨rfl, X.out⟩
set_option maxRecDepth 100000 in
theorem mbase_nil (w : World) : Calls Tryz.prog 15 #[.pointer none] w fun e w' => e = .returned (.pointer none) ∧ Ext w w' := by
  have HM := mmade_nil w
  go_enter Tryz.func15, Tryz.ntmps15
  go_wp2_with (go_at_call 25; refine HM.mono ?_; rintro e W1 ⟨rfl, x⟩; have X := Lib.hid x; clear x)
  go_ret
  exact ⟨rfl, X.out⟩
set_option maxRecDepth 100000 in
theorem mwords_nil (w : World) : Calls Tryz.prog 16 #[.pointer none] w fun e w' => e = .returned (.slice none 0 0) ∧ Ext w w' := by
  have HM := mmade_nil w
  go_enter Tryz.func16, Tryz.ntmps16
  go_wp2_with (go_at_call 25; refine HM.mono ?_; rintro e W1 ⟨rfl, x⟩; have X := Lib.hid x; clear x)
  go_ret
  exact ⟨rfl, X.out⟩
set_option maxRecDepth 100000 in
theorem mplaces_nil (w : World) : Calls Tryz.prog 17 #[.pointer none] w fun e w' => e = .returned (.slice none 0 0) ∧ Ext w w' := by
  have HM := mmade_nil w
  go_enter Tryz.func17, Tryz.ntmps17
  go_wp2_with (go_at_call 25; refine HM.mono ?_; rintro e W1 ⟨rfl, x⟩; have X := Lib.hid x; clear x)
  go_ret
  exact ⟨rfl, X.out⟩
set_option maxRecDepth 100000 in
theorem mrun_nil (n : Int) (w : World) : Calls Tryz.prog 9 #[.pointer none, .int .i64 n] w fun e w' => e = .returned (.int .i64 0) ∧ Ext w w' := by
  have HM := fun W => Lib.hid (mstate_nil W)
  go_enter Tryz.func9, Tryz.ntmps9
  go_wp2_with fail
  go_loopw [5] (fun d wr => d = .int .i64 0 ∧ wr = w) (fun _ _ => 1)
  case atStart => exact ⟨rfl, rfl⟩
  case round =>
    obtain ⟨rfl, rfl⟩ := hrel
    by_cases h : 0 < n
    · go_wp2_with (go_at_call 10; refine (HM _).out.mono ?_; rintro e W1 ⟨rfl, x⟩; have X := Lib.hid x; clear x)
      go_ret
      exact ⟨rfl, X.out⟩
    · go_wp2_with fail
      go_ret
      exact ⟨rfl, Ext.refl _⟩

set_option maxRecDepth 100000 in
set_option maxHeartbeats 4000000 in
/-- The law, where its lives holds. -/
theorem machineNobody_any (p : TmP) (B : Option Addr) (G : List GoP) (cb : Nat) (n k : Int) (w : World) (hp : TmRead w p) (hG : ∀ q ∈ G, TmRead w q.2) (hS : El.Src w B G.length 5 (flat goC G)) (hm : G.length ≤ 9223372036854775807)
    (hlv : ∀ W, Ext w W → Calls Tryz.prog 5 #[] W fun e W' => e = .returned (.bool true) ∧ Ext W W') :
    Calls Tryz.prog 3 #[clV p B G cb n, .int .i64 k] w fun e w' => e = .returned (.bool true) ∧ Ext w w' := by
  have HLV := fun W (x : Ext w W) => Lib.hid (hlv W x)
  obtain ⟨t, A, c⟩ := p
  have hx := ext_box w (.cells (clC (t, A, c) B G cb n) 27)
  have hb := Blk.new w 27 (clC (t, A, c) B G cb n)
  have HL := Lib.hid (large15_any (t, A, c) B G cb n (w.alloc (.cells (clC (t, A, c) B G cb n) 27)) ⟨hp.1.ext hx, hp.2⟩ (fun q hq => ⟨(hG q hq).1.ext hx, (hG q hq).2⟩) (hS.ext hx) hm)
  have HA := fun W => Lib.hid (mask_nil t A c W)
  have HLo := fun W => Lib.hid (mload_nil #[.int .i64 t.k, .int .i64 t.n, .string t.s, .slice A t.l.length c, .slice B G.length cb, .int .i64 n] W)
  have HR := fun W => Lib.hid (mrun_nil k W)
  have HB := Lib.hid hb
  unfold clV at HL ⊢
  unfold clC at hx HL HB
  unfold tmVal at HA
  simp only at HL HA ⊢
  clear hlv hp hG hS hm hb
  generalize bigC (t, A, c) G = b at *
  cases b with
  | true =>
    go_enter Tryz.func3, Tryz.ntmps3
    go_wp2_with (first
      | (go_at_call 4; refine HL.out.mono ?_; rintro e W1 ⟨rfl, x⟩; have X1 := Lib.hid (hx.trans x); have HV := HLV W1 X1.out; clear x)
      | (go_at_call 5; refine HV.out.mono ?_; rintro e W2 ⟨rfl, x⟩; have X2 := Lib.hid (X1.out.trans x); clear x))
    go_ret
    exact ⟨rfl, X2.out⟩
  | false =>
    go_enter Tryz.func3, Tryz.ntmps3
    go_upto_region 4 with (go_at_call 4; refine HL.out.mono ?_; rintro e W1 ⟨rfl, x⟩; have X1 := Lib.hid (hx.trans x); have HB1 := Lib.hid (HB.out.ext x); clear x)
    clear HL HB
    have z0 := HB1.out.cell 0
    have z1 := HB1.out.cell 1
    have z2 := HB1.out.cell 2
    have z3 := HB1.out.cell 3
    have z4 := HB1.out.cell 4
    have z5 := HB1.out.cell 5
    go_wp2_with (first
      | (go_at_call 6; refine (HLo _).out.mono ?_; rintro e W3 ⟨rfl, x⟩; have X3 := Lib.hid (X1.out.trans x); have HB3 := Lib.hid (HB1.out.ext x); have HV := HLV W3 X3.out; clear z0 z1 z2 z3 z4 z5; clear x)
      | (go_at_call 5; refine HV.out.mono ?_; rintro e W2 ⟨rfl, x⟩; have X2 := Lib.hid (X3.out.trans x); have HB2 := Lib.hid (HB3.out.ext x); have z0 := HB2.out.cell 0; have z1 := HB2.out.cell 1; have z2 := HB2.out.cell 2; have z3 := HB2.out.cell 3; clear x)
      | (go_at_call 7; refine (HA _).out.mono ?_; rintro e W4 ⟨rfl, x⟩; have X4 := Lib.hid (X2.out.trans x); clear x)
      | (go_at_call 8; refine (mstep_nil _).mono ?_; rintro e W5 ⟨rfl, x⟩; have X5 := Lib.hid (X4.out.trans x); clear x)
      | (go_at_call 9; refine (HR _).out.mono ?_; rintro e W6 ⟨rfl, x⟩; have X6 := Lib.hid (X5.out.trans x); clear x)
      | (go_at_call 10; refine (mstate_nil _).mono ?_; rintro e W7 ⟨rfl, x⟩; have X7 := Lib.hid (X6.out.trans x); clear x)
      | (go_at_call 11; refine (msteps_nil _).mono ?_; rintro e W8 ⟨rfl, x⟩; have X8 := Lib.hid (X7.out.trans x); clear x)
      | (go_at_call 12; refine (mevents_nil _).mono ?_; rintro e W9 ⟨rfl, x⟩; have X9 := Lib.hid (X8.out.trans x); clear x)
      | (go_at_call 13; refine (mheap_nil _).mono ?_; rintro e W10 ⟨rfl, x⟩; have X10 := Lib.hid (X9.out.trans x); clear x)
      | (go_at_call 14; refine (mstack_nil _).mono ?_; rintro e W11 ⟨rfl, x⟩; have X11 := Lib.hid (X10.out.trans x); clear x)
      | (go_at_call 15; refine (mbase_nil _).mono ?_; rintro e W12 ⟨rfl, x⟩; have X12 := Lib.hid (X11.out.trans x); clear x)
      | (go_at_call 16; refine (mwords_nil _).mono ?_; rintro e W13 ⟨rfl, x⟩; have X13 := Lib.hid (X12.out.trans x); clear x)
      | (go_at_call 17; refine (mplaces_nil _).mono ?_; rintro e W14 ⟨rfl, x⟩; have X14 := Lib.hid (X13.out.trans x); clear x))
    go_ret
    exact ⟨rfl, X14.out⟩
end Go.Proofs.YtkenjhchfidpbaaGreatDoor
