/- Layer 11, the reference: the walk of operated, by an operator between two. -/
import Derived.Test.YtnedihbffiddpaaGreatDoorV6
import Derived.Test.YtnedihbffiddpaaGreatDoorW22
namespace Go.El
theorem left_zero {p t : Int} (h : p ≤ 0) : leftI p t = 0 := by
  have hm : mayB p t = false := by
    cases hm : mayB p t
    · rfl
    · have := (of_decide_eq_true hm : _)
      omega
  unfold leftI
  rw [if_pos (.inl hm)]
end Go.El
namespace Go.Proofs.YtnedihbffiddpaaGreatDoor
open Go.RowKit Go.El

theorem left_two {I Q : List OpV} {x : OpV} {a d : Tm} : leftF I Q x [a, d] = if x.p ≤ opnF I Q a then 0 else leftI x.p x.t := by
  unfold leftF opnF
  simp only [List.head?_cons, Option.bind_some]
  cases h : oprT I Q a with
  | none =>
    dsimp only
    split
    · rename_i h0
      exact left_zero h0
    · rfl
  | some y => rfl
theorem ret_sb {s s' : ByteArray} {b : Bool} (h : s = s') : Ending.returned (.tuple #[.string s, .bool b]) = .returned (.tuple #[.string s', .bool b]) := by rw [h]
theorem fin_yes {A M B : List UInt8} {sa sm sd : ByteArray} {p q : Int} (ha : strB A = sa) (hm : sm = strB M) (hd : strB B = sd) (h : p < q) : (⟨#[40]⟩ : ByteArray) ++ (sa ++ sm ++ sd) ++ (⟨#[41]⟩ : ByteArray) = strB (brk (decide (p < q)) (A ++ M ++ B)) := by
  rw [decide_eq_true h, ← ha, hm, ← hd, show (⟨#[40]⟩ : ByteArray) = strB [40] from rfl, show (⟨#[41]⟩ : ByteArray) = strB [41] from rfl, strB_app, strB_app, strB_app, strB_app]
  rfl
theorem fin_no {A M B : List UInt8} {sa sm sd : ByteArray} {p q : Int} (ha : strB A = sa) (hm : sm = strB M) (hd : strB B = sd) (h : ¬ p < q) : sa ++ sm ++ sd = strB (brk (decide (p < q)) (A ++ M ++ B)) := by
  rw [decide_eq_false h, ← ha, hm, ← hd, strB_app, strB_app]
  rfl
theorem left_bd2 (p t : Int) (hp : -1000000 ≤ p ∧ p ≤ 1000000) : -1000000000 ≤ leftI p t ∧ leftI p t ≤ 1000000000 := by
  unfold leftI
  split
  · omega
  · split <;> omega
theorem right_bd2 (p t : Int) (hp : -1000000 ≤ p ∧ p ≤ 1000000) : -1000000000 ≤ rightI p t ∧ rightI p t ≤ 1000000000 := by
  unfold rightI
  split
  · omega
  · split <;> omega

set_option maxRecDepth 100000 in
set_option maxHeartbeats 16000000 in
theorem refOp_two (N : Nat) (IH : RTxC N) (t : Tm) (hN : szT t ≤ N + 1) (hok : okT t = true) (hb : szT t ≤ 100000) (hk : t.k = 4) (a d : Tm) (hla : t.l = [a, d]) (w : World) (I Q : List OpV) (x : OpV) (hfx : findO t.s I = some x) (p : Option Addr) (most : Int) (A : Option Addr) (c : Nat) (D : Nat → Prop) (hR : RfAt w (some (I, Q)) p) (ht : TmIn D w t A c) :
    Calls Tryz.prog 58 #[tmVal t A c, .pointer p, .int .i64 most] w fun e w' => e = .returned (.tuple #[.string (strB (brk (decide (most < x.p)) (brk (bareT (some (I, Q)) a) (txT (some (I, Q)) a (leftF I Q x [a, d])) ++ midF t.s ++ brk (bareT (some (I, Q)) d) (txT (some (I, Q)) d (rightI x.p x.t))))), .bool true]) ∧ Ext w w' := by
  have hx := ext_box w (.cells #[.int .i64 t.k, .int .i64 t.n, .string t.s, .slice A t.l.length c] 27)
  have hbd : -1000000 ≤ x.p ∧ x.p ≤ 1000000 := by
    obtain ⟨_, _, _, _, _, _, hb⟩ := hR
    exact hb x (.inl (find_mem hfx))
  have hlb := left_bd2 x.p x.t hbd
  have hrb := right_bd2 x.p x.t hbd
  obtain ⟨hpk, hokl⟩ := okT_parts' hok
  rw [hla] at hokl
  simp only [okL, Bool.and_true, Bool.and_eq_true] at hokl
  have hsz : szT t = 1 + (szT a + szT d) := by
    cases t with
    | mk k n s l =>
      simp only [Tm.l] at hla
      subst hla
      simp [szT, szL]
  have hs64 : t.s.size ≤ 64 := (part_bd hpk).2.2
  have hqs := quoF_le t.s.data.toList
  have hsl : t.s.data.toList.length = t.s.size := by simp
  have HL := Lib.hid (left_two (I := I) (Q := Q) (x := x) (a := a) (d := d))
  have HFI := fun (W : World) (x : Ext w W) => Lib.hid (foundI (hR.ext x) t.s)
  have HFQ := fun (W : World) (x : Ext w W) => Lib.hid (foundQ (hR.ext x) t.s)
  rw [hfx] at HFI
  have HQ := fun (W : World) => Lib.hid (rQuote_any t.s.data.toList W (by omega))
  rw [strB_mk] at HQ
  have HLE := fun (W : World) => Lib.hid (rLeft_any x.p x.t x.s W)
  have HRI := fun (W : World) => Lib.hid (rRight_any x.p x.t x.s W)
  obtain ⟨bb, off, Aa, ca, rfl, _, ta, p0, p1, p2, p3⟩ := ht.child (j := 0) (u := a) (by rw [hla]; rfl)
  obtain ⟨bb', off', Ab, cb, hAu', _, tb, r0, r1, r2, r3⟩ := ht.child (j := 1) (u := d) (by rw [hla]; rfl)
  injection hAu' with hAu'
  injection hAu' with e1 e2
  subst e1 e2
  rw [Nat.zero_mul, Nat.add_zero] at p0 p1 p2 p3
  rw [Nat.one_mul] at r0 r1 r2 r3
  have HOP := fun (W : World) (x : Ext w W) => Lib.hid (refOpen_any a Aa ca W D I Q p (ta.ext x) (hR.ext x))
  have HCA := fun (W : World) (x : Ext w W) (m : Int) (h1 : -1000000000 ≤ m) (h2 : m ≤ 1000000000) => Lib.hid (IH a (by omega) hokl.1 (by omega) W (some (I, Q)) p m true Aa ca D (hR.ext x) (fun _ => by simp) (ta.ext x) h1 h2)
  have HCD := fun (W : World) (x : Ext w W) (m : Int) (h1 : -1000000000 ≤ m) (h2 : m ≤ 1000000000) => Lib.hid (IH d (by omega) hokl.2 (by omega) W (some (I, Q)) p m true Ab cb D (hR.ext x) (fun _ => by simp) (tb.ext x) h1 h2)
  simp only [Bool.true_and] at HCA HCD
  have hla0 := fun m => Nat.le_trans (brk_le (bareT (some (I, Q)) a) (txT (some (I, Q)) a m)) (txT_le (some (I, Q)) a m hokl.1)
  have hld0 := fun m => Nat.le_trans (brk_le (bareT (some (I, Q)) d) (txT (some (I, Q)) d m)) (txT_le (some (I, Q)) d m hokl.2)
  have hzs := fun l => strB_size l
  have hlen : t.l.length = 2 := by rw [hla]; rfl
  have hbw := sq_ways t.s.data.toList [123, 125] t.s rfl
  have hcw := sq_ways t.s.data.toList [44] t.s rfl
  have hmid : midF t.s = if t.s.data.toList = [44] then [44, 32] else [32] ++ quoF t.s.data.toList ++ [32] := rfl
  have HP := Lib.hid (show w.cell? ⟨bb, off, none⟩ = some (.int .i64 a.k) ∧ w.cell? ⟨bb, off + 1, none⟩ = some (.int .i64 a.n) ∧ w.cell? ⟨bb, off + 2, none⟩ = some (.string a.s) ∧ w.cell? ⟨bb, off + 3, none⟩ = some (.slice Aa a.l.length ca) ∧ w.cell? ⟨bb, off + 4, none⟩ = some (.int .i64 d.k) ∧ w.cell? ⟨bb, off + 4 + 1, none⟩ = some (.int .i64 d.n) ∧ w.cell? ⟨bb, off + 4 + 2, none⟩ = some (.string d.s) ∧ w.cell? ⟨bb, off + 4 + 3, none⟩ = some (.slice Ab d.l.length cb) from ⟨p0, p1, p2, p3, r0, r1, r2, r3⟩)
  have HCA' := Lib.hid HCA
  have HCD' := Lib.hid HCD
  have HZ := Lib.hid hzs
  have HLA := Lib.hid hla0
  have HLD := Lib.hid hld0
  have HMID := Lib.hid hmid
  unfold tmVal
  rw [hk, hlen] at hx ⊢
  generalize midF t.s = mid at *
  generalize quoF t.s.data.toList = QL at *
  generalize hoQ : (findO t.s Q).getD zeroO = oQ at *
  generalize hbQ : (findO t.s Q).isSome = sQ at *
  generalize opnF I Q a = opn at *
  generalize leftF I Q x [a, d] = lf at *
  generalize t.n = n at *
  generalize t.s = s at *
  generalize hTX : brk (decide (most < x.p)) (brk (bareT (some (I, Q)) a) (txT (some (I, Q)) a lf) ++ mid ++ brk (bareT (some (I, Q)) d) (txT (some (I, Q)) d (rightI x.p x.t))) = TX
  have HTX := Lib.hid hTX
  clear hTX
  have hqz := strB_size QL
  generalize hqL : strB QL = q at *
  have HQL := Lib.hid hqL
  have HQB := Lib.hid (show QL.length ≤ 330 by omega)
  have hqb1 : ¬ 9223372036854775807 < 1 + QL.length := by omega
  have hqb2 : ¬ 9223372036854775807 < 1 + QL.length + 1 := by omega
  have hB := fun (W : World) (y : Ext (w.alloc (.cells #[.int .i64 4, .int .i64 n, .string s, .slice (some ⟨bb, off, none⟩) 2 c] 27)) W) => Lib.hid (Blk.ext (Blk.new w 27 #[.int .i64 4, .int .i64 n, .string s, .slice (some ⟨bb, off, none⟩) 2 c]) y)
  have HX0 := Lib.hid hx
  have HB0 := hB _ (Ext.refl _)
  have HBD := Lib.hid hbd
  clear ht hR hok hokl hpk hfx hla hlen hmid hla0 hld0 hzs HCA HCD p0 p1 p2 p3 r0 r1 r2 r3 ta tb hoQ hbQ hqL hB hk hbd hsl
  simp only [Option.getD_some, Option.isSome_some] at HFI
  rcases hbw with ⟨_, bq1, bq2⟩ | ⟨_, bq1, bq2⟩
  all_goals
    go_enter Tryz.func58, Tryz.ntmps58
    go_upto_region 3 with fail
    clear bq1 bq2
    refine wp_abs (fun V => Hid (Blk V w.heap.size 27 #[.int .i64 4, .int .i64 n, .string s, .slice (some ⟨bb, off, none⟩) 2 c]) ∧ Hid (Ext w V)) ⟨HB0, HX0⟩ ?_
    rintro V ⟨B0, X0⟩
    have y2 : V.cell? ⟨w.heap.size, 2, none⟩ = some (.string s) := B0.out.cell 2
    go_upto_region 4 with (go_at_call 54; refine (HFI _ X0.out).out.mono ?_; rintro e W1 ⟨rfl, h1⟩; have X1 := Lib.hid (X0.out.trans h1); have B1 := Lib.hid (B0.out.ext h1); clear h1)
    refine wp_abs (fun V => Hid (Blk V W1.heap.size 73 #[.int .i64 x.p, .int .i64 x.t, .string x.s]) ∧ Hid (Blk V w.heap.size 27 #[.int .i64 4, .int .i64 n, .string s, .slice (some ⟨bb, off, none⟩) 2 c]) ∧ Hid (Ext w V)) ⟨Blk.new W1 _ _, B1.out.alloc _, X1.out.alloc _⟩ ?_
    clear y2 X1 B1 X0 B0
    rintro V2 ⟨G1, B1, X1⟩
    generalize W1.heap.size = g5 at *
    have y2 : V2.cell? ⟨w.heap.size, 2, none⟩ = some (.string s) := B1.out.cell 2
    go_upto_region 5 with (go_at_call 54; refine (HFQ _ X1.out).out.mono ?_; rintro e W3 ⟨rfl, h2⟩; have X2 := Lib.hid (X1.out.trans h2); have B2 := Lib.hid (B1.out.ext h2); have G2 := Lib.hid (G1.out.ext h2); clear h2)
    refine wp_abs (fun U => Hid (Blk U g5 73 #[.int .i64 x.p, .int .i64 x.t, .string x.s]) ∧ Hid (Blk U w.heap.size 27 #[.int .i64 4, .int .i64 n, .string s, .slice (some ⟨bb, off, none⟩) 2 c]) ∧ Hid (Ext w U)) ⟨G2.out.alloc _, B2.out.alloc _, X2.out.alloc _⟩ ?_
    clear y2 X1 B1 G1 X2 B2 G2 HFI HFQ
    rintro U ⟨G1, B1, X1⟩
    generalize W3.heap.size = g7 at *
    clear V V2
    have y2 : U.cell? ⟨w.heap.size, 2, none⟩ = some (.string s) := B1.out.cell 2
    have y3 : U.cell? ⟨w.heap.size, 3, none⟩ = some (.slice (some ⟨bb, off, none⟩) 2 c) := B1.out.cell 3
    have hcw2 := hcw
    rcases hcw2 with ⟨hc1, cq1, cq2⟩ | ⟨hc1, cq1, cq2⟩
    case' inl =>
      have HM : Hid (mid = [44, 32]) := Lib.hid (by rw [HMID.out]; exact if_pos hc1)
      clear hc1
      go_upto_region 11 with (go_at_call 59; refine (HQ _).out.mono ?_; rintro e U1 ⟨rfl, h1⟩; have X2 := Lib.hid (X1.out.trans h1); have B2 := Lib.hid (B1.out.ext h1); have G2 := Lib.hid (G1.out.ext h1); have y2 := h1.cell y2; clear h1)
      have HSM : Hid ((⟨#[44, 32]⟩ : ByteArray) = strB mid) := Lib.hid (by rw [HM.out]; rfl)
    case' inr =>
      have HM : Hid (mid = [32] ++ QL ++ [32]) := Lib.hid (by rw [HMID.out]; exact if_neg hc1)
      clear hc1
      go_upto_region 11 with (go_at_call 59; refine (HQ _).out.mono ?_; rintro e U1 ⟨rfl, h1⟩; have X2 := Lib.hid (X1.out.trans h1); have B2 := Lib.hid (B1.out.ext h1); have G2 := Lib.hid (G1.out.ext h1); have y2 := h1.cell y2; clear h1)
      have HSM : Hid ((⟨#[32]⟩ ++ q ++ ⟨#[32]⟩ : ByteArray) = strB mid) := Lib.hid (by rw [HM.out, ← HQL.out, show (⟨#[32]⟩ : ByteArray) = strB [32] from rfl, strB_app, strB_app])
    all_goals
      have z0 : U1.cell? ⟨g5, 0, none⟩ = some (.int .i64 x.p) := G2.out.cell 0
      have z1 : U1.cell? ⟨g5, 1, none⟩ = some (.int .i64 x.t) := G2.out.cell 1
      have z2 : U1.cell? ⟨g5, 2, none⟩ = some (.string x.s) := G2.out.cell 2
      go_upto_region 12 with (go_at_call 82; refine (HLE _).out.mono ?_; rintro e U2 ⟨rfl, h2⟩; have X3 := Lib.hid (X2.out.trans h2); have B3 := Lib.hid (B2.out.ext h2); have G3 := Lib.hid (G2.out.ext h2); clear h2)
      obtain ⟨p0, p1, p2, p3, r0, r1, r2, r3⟩ := HP.out
      have hS0 : U2.cell? ⟨w.heap.size, 3, none⟩ = some (.slice (some ⟨bb, off, none⟩) 2 c) ∧ U2.cell? ⟨bb, off, none⟩ = some (.int .i64 a.k) ∧ U2.cell? ⟨bb, off + 1, none⟩ = some (.int .i64 a.n) ∧ U2.cell? ⟨bb, off + 2, none⟩ = some (.string a.s) ∧ U2.cell? ⟨bb, off + 3, none⟩ = some (.slice Aa a.l.length ca) ∧ U2.cell? ⟨g5, 0, none⟩ = some (.int .i64 x.p) ∧ Hid (Ext U2 U2) := ⟨B3.out.cell 3, X3.out.cell p0, X3.out.cell p1, X3.out.cell p2, X3.out.cell p3, G3.out.cell 0, Lib.hid (Ext.refl U2)⟩
      have hS1 := keepC6 ((Ext.refl U2).drew) hS0
      clear y2 y3 z0 z1 z2 p0 p1 p2 p3 r0 r1 r2 r3 hS0 B1 G1 B2 G2
      unfold tmVal at HOP
      go_region_held3 (fun w' => w'.cell? ⟨w.heap.size, 3, none⟩ = some (.slice (some ⟨bb, off, none⟩) 2 c) ∧ w'.cell? ⟨bb, off, none⟩ = some (.int .i64 a.k) ∧ w'.cell? ⟨bb, off + 1, none⟩ = some (.int .i64 a.n) ∧ w'.cell? ⟨bb, off + 2, none⟩ = some (.string a.s) ∧ w'.cell? ⟨bb, off + 3, none⟩ = some (.slice Aa a.l.length ca) ∧ w'.cell? ⟨g5, 0, none⟩ = some (.int .i64 x.p) ∧ Hid (Ext U2 w'))
        (first | assumption | (exact keepC6 (by assumption) (by assumption)))
        ((go_at_call 83; refine (HOP _ (X3.out.trans (keepE6 (by assumption)))).out.mono ?_; rintro e U3 ⟨rfl, h3⟩))
      obtain ⟨_, _, _, _, _, _, HE3⟩ := ‹_ ∧ _ ∧ _ ∧ _ ∧ _ ∧ _ ∧ Hid (Ext U2 U3)›
      have X4 := Lib.hid (X3.out.trans HE3.out)
      have B4 := Lib.hid (B3.out.ext HE3.out)
      have G4 := Lib.hid (G3.out.ext HE3.out)
      clear HE3 hS1 h3 X3 B3 G3 X2 HOP HLE
      generalize hsd : strB (brk (bareT (some (I, Q)) d) (txT (some (I, Q)) d (rightI x.p x.t))) = sd
      have HSD := Lib.hid hsd
      have hdz : sd.size ≤ 40000000 := by
        have := HLD.out (rightI x.p x.t)
        rw [← hsd, strB_size]
        omega
      clear hsd
      have HCD1 : Hid (∀ (W : World), Ext w W → Calls Tryz.prog 32 #[.agg #[.int .i64 d.k, .int .i64 d.n, .string d.s, .slice Ab d.l.length cb], .pointer p, .int .i64 (rightI x.p x.t), .bool true] W fun e w' => e = .returned (.string sd) ∧ Ext W w') := Lib.hid (fun W y => by rw [← HSD.out]; exact (HCD'.out W y _ hrb.1 hrb.2).out)
      by_cases hge : x.p ≤ opn
      case' pos =>
        have HLF : Hid (lf = 0) := Lib.hid (by rw [HL.out]; exact if_pos hge)
        generalize hsa : strB (brk (bareT (some (I, Q)) a) (txT (some (I, Q)) a 0)) = sa
        have HSA : Hid (strB (brk (bareT (some (I, Q)) a) (txT (some (I, Q)) a lf)) = sa) := Lib.hid (by rw [HLF.out]; exact hsa)
        have haz : sa.size ≤ 40000000 := by
          have := HLA.out 0
          rw [← hsa, strB_size]
          omega
        have HCA1 : Hid (∀ (W : World), Ext w W → Calls Tryz.prog 32 #[.agg #[.int .i64 a.k, .int .i64 a.n, .string a.s, .slice Aa a.l.length ca], .pointer p, .int .i64 0, .bool true] W fun e w' => e = .returned (.string sa) ∧ Ext W w') := Lib.hid (fun W y => by rw [← hsa]; exact (HCA'.out W y 0 (by omega) (by omega)).out)
        clear hsa
      case' neg =>
        have HLF : Hid (lf = leftI x.p x.t) := Lib.hid (by rw [HL.out]; exact if_neg hge)
        generalize hsa : strB (brk (bareT (some (I, Q)) a) (txT (some (I, Q)) a (leftI x.p x.t))) = sa
        have HSA : Hid (strB (brk (bareT (some (I, Q)) a) (txT (some (I, Q)) a lf)) = sa) := Lib.hid (by rw [HLF.out]; exact hsa)
        have haz : sa.size ≤ 40000000 := by
          have := HLA.out (leftI x.p x.t)
          rw [← hsa, strB_size]
          omega
        have HCA1 : Hid (∀ (W : World), Ext w W → Calls Tryz.prog 32 #[.agg #[.int .i64 a.k, .int .i64 a.n, .string a.s, .slice Aa a.l.length ca], .pointer p, .int .i64 (leftI x.p x.t), .bool true] W fun e w' => e = .returned (.string sa) ∧ Ext W w') := Lib.hid (fun W y => by rw [← hsa]; exact (HCA'.out W y _ hlb.1 hlb.2).out)
        clear hsa
      all_goals
        have hb00 : ¬ 9223372036854775807 < sa.size + 2 := by have := HQB.out; omega
        have hb01 : ¬ 9223372036854775807 < sa.size + 2 + sd.size := by have := HQB.out; omega
        have hb02 : ¬ 9223372036854775807 < 1 + (sa.size + 2 + sd.size) := by have := HQB.out; omega
        have hb03 : ¬ 9223372036854775807 < 1 + (sa.size + 2 + sd.size) + 1 := by have := HQB.out; omega
        have hb10 : ¬ 9223372036854775807 < sa.size + (1 + QL.length + 1) := by have := HQB.out; omega
        have hb11 : ¬ 9223372036854775807 < sa.size + (1 + QL.length + 1) + sd.size := by have := HQB.out; omega
        have hb12 : ¬ 9223372036854775807 < 1 + (sa.size + (1 + QL.length + 1) + sd.size) := by have := HQB.out; omega
        have hb13 : ¬ 9223372036854775807 < 1 + (sa.size + (1 + QL.length + 1) + sd.size) + 1 := by have := HQB.out; omega
        go_upto_region 14 with fail
        obtain ⟨p0, p1, p2, p3, r0, r1, r2, r3⟩ := HP.out
        have hT0 : U3.cell? ⟨w.heap.size, 3, none⟩ = some (.slice (some ⟨bb, off, none⟩) 2 c) ∧ U3.cell? ⟨bb, off, none⟩ = some (.int .i64 a.k) ∧ U3.cell? ⟨bb, off + 1, none⟩ = some (.int .i64 a.n) ∧ U3.cell? ⟨bb, off + 2, none⟩ = some (.string a.s) ∧ U3.cell? ⟨bb, off + 3, none⟩ = some (.slice Aa a.l.length ca) ∧ U3.cell? ⟨bb, off + 4, none⟩ = some (.int .i64 d.k) ∧ U3.cell? ⟨bb, off + 4 + 1, none⟩ = some (.int .i64 d.n) ∧ U3.cell? ⟨bb, off + 4 + 2, none⟩ = some (.string d.s) ∧ U3.cell? ⟨bb, off + 4 + 3, none⟩ = some (.slice Ab d.l.length cb) ∧ U3.cell? ⟨g5, 0, none⟩ = some (.int .i64 x.p) ∧ U3.cell? ⟨g5, 1, none⟩ = some (.int .i64 x.t) ∧ U3.cell? ⟨g5, 2, none⟩ = some (.string x.s) ∧ Hid (Ext U3 U3) := ⟨B4.out.cell 3, X4.out.cell p0, X4.out.cell p1, X4.out.cell p2, X4.out.cell p3, X4.out.cell r0, X4.out.cell r1, X4.out.cell r2, X4.out.cell r3, G4.out.cell 0, G4.out.cell 1, G4.out.cell 2, Lib.hid (Ext.refl U3)⟩
        have hT1 := keepC12 ((Ext.refl U3).drew) hT0
        clear p0 p1 p2 p3 r0 r1 r2 r3 hT0 hge HLF
        go_region_held3 (fun w' => w'.cell? ⟨w.heap.size, 3, none⟩ = some (.slice (some ⟨bb, off, none⟩) 2 c) ∧ w'.cell? ⟨bb, off, none⟩ = some (.int .i64 a.k) ∧ w'.cell? ⟨bb, off + 1, none⟩ = some (.int .i64 a.n) ∧ w'.cell? ⟨bb, off + 2, none⟩ = some (.string a.s) ∧ w'.cell? ⟨bb, off + 3, none⟩ = some (.slice Aa a.l.length ca) ∧ w'.cell? ⟨bb, off + 4, none⟩ = some (.int .i64 d.k) ∧ w'.cell? ⟨bb, off + 4 + 1, none⟩ = some (.int .i64 d.n) ∧ w'.cell? ⟨bb, off + 4 + 2, none⟩ = some (.string d.s) ∧ w'.cell? ⟨bb, off + 4 + 3, none⟩ = some (.slice Ab d.l.length cb) ∧ w'.cell? ⟨g5, 0, none⟩ = some (.int .i64 x.p) ∧ w'.cell? ⟨g5, 1, none⟩ = some (.int .i64 x.t) ∧ w'.cell? ⟨g5, 2, none⟩ = some (.string x.s) ∧ Hid (Ext U3 w'))
          (first | assumption | (exact keepC12 (by assumption) (by assumption)))
          (first | (go_at_call 84; refine (HRI _).out.mono ?_; rintro e U5 ⟨rfl, h5⟩) | (go_at_call 32; (with_reducible refine (HCA1.out _ (X4.out.trans (keepE12 (by assumption)))).mono ?_); rintro e U4 ⟨rfl, h4⟩) | (go_at_call 32; (with_reducible refine (HCD1.out _ (X4.out.trans (keepE12 (by assumption)))).mono ?_); rintro e U6 ⟨rfl, h6⟩))
        all_goals
          obtain ⟨_, _, _, _, _, _, _, _, _, i0, _, _, HE6⟩ := ‹_ ∧ _ ∧ _ ∧ _ ∧ _ ∧ _ ∧ _ ∧ _ ∧ _ ∧ _ ∧ _ ∧ _ ∧ Hid (Ext U3 U6)›
          have X7 := Lib.hid (X4.out.trans HE6.out)
          clear HE6
          by_cases hm : most < x.p
          · go_wp2_with fail
            go_ret2
            exact ⟨ret_sb ((fin_yes HSA.out HSM.out HSD.out hm).trans (by rw [HTX.out])), X7.out⟩
          · go_wp2_with fail
            go_ret2
            exact ⟨ret_sb ((fin_no HSA.out HSM.out HSD.out (Int.not_lt.2 hm)).trans (by rw [HTX.out])), X7.out⟩

end Go.Proofs.YtnedihbffiddpaaGreatDoor

/- Layer 11, the reference: the walk of operated, by an operator ahead. -/
namespace Go.Proofs.YtnedihbffiddpaaGreatDoor
open Go.RowKit Go.El

theorem fin1_yes {A M : List UInt8} {sa sm : ByteArray} {p q : Int} (hm : sm = strB M) (ha : strB A = sa) (h : p < q) : (⟨#[40]⟩ : ByteArray) ++ (sm ++ (⟨#[32]⟩ : ByteArray) ++ sa) ++ (⟨#[41]⟩ : ByteArray) = strB (brk (decide (p < q)) (M ++ [32] ++ A)) := by
  rw [decide_eq_true h, ← ha, hm, show (⟨#[40]⟩ : ByteArray) = strB [40] from rfl, show (⟨#[41]⟩ : ByteArray) = strB [41] from rfl, show (⟨#[32]⟩ : ByteArray) = strB [32] from rfl, strB_app, strB_app, strB_app, strB_app]
  rfl
theorem fin1_no {A M : List UInt8} {sa sm : ByteArray} {p q : Int} (hm : sm = strB M) (ha : strB A = sa) (h : ¬ p < q) : sm ++ (⟨#[32]⟩ : ByteArray) ++ sa = strB (brk (decide (p < q)) (M ++ [32] ++ A)) := by
  rw [decide_eq_false h, ← ha, hm, show (⟨#[32]⟩ : ByteArray) = strB [32] from rfl, strB_app, strB_app]
  rfl

set_option maxRecDepth 100000 in
set_option maxHeartbeats 16000000 in
theorem refOp_one (N : Nat) (IH : RTxC N) (t : Tm) (hN : szT t ≤ N + 1) (hok : okT t = true) (hb : szT t ≤ 100000) (hk : t.k = 4) (a : Tm) (hla : t.l = [a]) (hbr : t.s.data.toList ≠ [123, 125]) (hmi : isMinus t.s t.l = false) (w : World) (I Q : List OpV) (x : OpV) (hfx : findO t.s Q = some x) (p : Option Addr) (most : Int) (A : Option Addr) (c : Nat) (D : Nat → Prop) (hR : RfAt w (some (I, Q)) p) (ht : TmIn D w t A c) :
    Calls Tryz.prog 58 #[tmVal t A c, .pointer p, .int .i64 most] w fun e w' => e = .returned (.tuple #[.string (strB (brk (decide (most < x.p)) (quoF t.s.data.toList ++ [32] ++ brk (bareT (some (I, Q)) a) (txT (some (I, Q)) a (rightI x.p x.t))))), .bool true]) ∧ Ext w w' := by
  have hx := ext_box w (.cells #[.int .i64 t.k, .int .i64 t.n, .string t.s, .slice A t.l.length c] 27)
  have hbd : -1000000 ≤ x.p ∧ x.p ≤ 1000000 := by
    obtain ⟨_, _, _, _, _, _, hb⟩ := hR
    exact hb x (.inr (find_mem hfx))
  have hrb := right_bd2 x.p x.t hbd
  obtain ⟨hpk, hokl⟩ := okT_parts' hok
  rw [hla] at hokl
  simp only [okL, Bool.and_true] at hokl
  have hsz : szT t = 1 + szT a := by
    cases t with
    | mk k n s l =>
      simp only [Tm.l] at hla
      subst hla
      simp [szT, szL]
  have hs64 : t.s.size ≤ 64 := (part_bd hpk).2.2
  have hqs := quoF_le t.s.data.toList
  have hsl : t.s.data.toList.length = t.s.size := by simp
  have HFI := fun (W : World) (x : Ext w W) => Lib.hid (foundI (hR.ext x) t.s)
  have HFQ := fun (W : World) (x : Ext w W) => Lib.hid (foundQ (hR.ext x) t.s)
  rw [hfx] at HFQ
  have HQ := fun (W : World) => Lib.hid (rQuote_any t.s.data.toList W (by omega))
  rw [strB_mk] at HQ
  have HRI := fun (W : World) => Lib.hid (rRight_any x.p x.t x.s W)
  obtain ⟨bb, off, Aa, ca, rfl, _, ta, p0, p1, p2, p3⟩ := ht.child (j := 0) (u := a) (by rw [hla]; rfl)
  rw [Nat.zero_mul, Nat.add_zero] at p0 p1 p2 p3
  have HCA : Hid (∀ (W : World), Ext w W → Calls Tryz.prog 32 #[.agg #[.int .i64 a.k, .int .i64 a.n, .string a.s, .slice Aa a.l.length ca], .pointer p, .int .i64 (rightI x.p x.t), .bool true] W fun e w' => e = .returned (.string (strB (brk (bareT (some (I, Q)) a) (txT (some (I, Q)) a (rightI x.p x.t))))) ∧ Ext W w') := Lib.hid (fun W y => by
    have := IH a (by omega) hokl (by omega) W (some (I, Q)) p (rightI x.p x.t) true Aa ca D (hR.ext y) (fun _ => by simp) (ta.ext y) hrb.1 hrb.2
    rw [Bool.true_and] at this
    exact this)
  have hla0 := Nat.le_trans (brk_le (bareT (some (I, Q)) a) (txT (some (I, Q)) a (rightI x.p x.t))) (txT_le (some (I, Q)) a (rightI x.p x.t) hokl)
  have hlen : t.l.length = 1 := by rw [hla]; rfl
  have hmw := minus_ways (s := t.s) hla
  have hb1 : (t.s.toList == [123, 125]) = false := lit_ne hbr
  have HP := Lib.hid (show w.cell? ⟨bb, off, none⟩ = some (.int .i64 a.k) ∧ w.cell? ⟨bb, off + 1, none⟩ = some (.int .i64 a.n) ∧ w.cell? ⟨bb, off + 2, none⟩ = some (.string a.s) ∧ w.cell? ⟨bb, off + 3, none⟩ = some (.slice Aa a.l.length ca) from ⟨p0, p1, p2, p3⟩)
  unfold tmVal
  rw [hk, hlen] at hx ⊢
  have hqz := strB_size (quoF t.s.data.toList)
  generalize hqL : strB (quoF t.s.data.toList) = q at *
  have HQL := Lib.hid hqL.symm
  generalize quoF t.s.data.toList = QL at *
  generalize hsa : strB (brk (bareT (some (I, Q)) a) (txT (some (I, Q)) a (rightI x.p x.t))) = sa at *
  have HSA := Lib.hid hsa
  have haz : sa.size ≤ 40000000 := by
    rw [← hsa, strB_size]
    omega
  generalize hTX : brk (decide (most < x.p)) (QL ++ [32] ++ brk (bareT (some (I, Q)) a) (txT (some (I, Q)) a (rightI x.p x.t))) = TX
  have HTX := Lib.hid hTX
  clear hTX
  generalize hoI : (findO t.s I).getD zeroO = oI at *
  generalize hbI : (findO t.s I).isSome = sI at *
  have hmw2 : (t.s.toList == [45]) = false ∨ ((t.s.toList == [45]) = true ∧ (a.k == 2) = false) := by
    rcases hmw with ⟨m1, _, _⟩ | ⟨_, m2⟩ | ⟨_, m2, m3⟩
    · rw [hmi] at m1
      cases m1
    · exact .inl m2
    · exact .inr ⟨m2, m3⟩
  generalize t.n = n at *
  generalize t.s = s at *
  have hB := fun (W : World) (y : Ext (w.alloc (.cells #[.int .i64 4, .int .i64 n, .string s, .slice (some ⟨bb, off, none⟩) 1 c] 27)) W) => Lib.hid (Blk.ext (Blk.new w 27 #[.int .i64 4, .int .i64 n, .string s, .slice (some ⟨bb, off, none⟩) 1 c]) y)
  have HX0 := Lib.hid hx
  have HB0 := hB _ (Ext.refl _)
  have hz1 : ¬ 9223372036854775807 < QL.length + 1 := by omega
  have hz2 : ¬ 9223372036854775807 < QL.length + 1 + sa.size := by omega
  have hz3 : ¬ 9223372036854775807 < 1 + (QL.length + 1 + sa.size) := by omega
  have hz4 : ¬ 9223372036854775807 < 1 + (QL.length + 1 + sa.size) + 1 := by omega
  clear ht hR hok hokl hpk hfx hla hlen hla0 p0 p1 p2 p3 ta hoI hbI hqL hB hk hbd hsl hsa hmw hmi hbr
  simp only [Option.getD_some, Option.isSome_some] at HFQ
  rcases hmw2 with m2 | ⟨m2, m3⟩
  all_goals
    go_enter Tryz.func58, Tryz.ntmps58
    go_upto_region 3 with fail
    clear hb1
    refine wp_abs (fun V => Hid (Blk V w.heap.size 27 #[.int .i64 4, .int .i64 n, .string s, .slice (some ⟨bb, off, none⟩) 1 c]) ∧ Hid (Ext w V)) ⟨HB0, HX0⟩ ?_
    rintro V ⟨B0, X0⟩
    have y2 : V.cell? ⟨w.heap.size, 2, none⟩ = some (.string s) := B0.out.cell 2
    go_upto_region 4 with (go_at_call 54; refine (HFI _ X0.out).out.mono ?_; rintro e W1 ⟨rfl, h1⟩; have X1 := Lib.hid (X0.out.trans h1); have B1 := Lib.hid (B0.out.ext h1); clear h1)
    refine wp_abs (fun V => Hid (Blk V w.heap.size 27 #[.int .i64 4, .int .i64 n, .string s, .slice (some ⟨bb, off, none⟩) 1 c]) ∧ Hid (Ext w V)) ⟨B1.out.alloc _, X1.out.alloc _⟩ ?_
    clear y2 X1 B1 X0 B0
    rintro V2 ⟨B1, X1⟩
    generalize W1.heap.size = g5 at *
    have y2 : V2.cell? ⟨w.heap.size, 2, none⟩ = some (.string s) := B1.out.cell 2
    go_upto_region 5 with (go_at_call 54; refine (HFQ _ X1.out).out.mono ?_; rintro e W3 ⟨rfl, h2⟩; have X2 := Lib.hid (X1.out.trans h2); have B2 := Lib.hid (B1.out.ext h2); clear h2)
    refine wp_abs (fun U => Hid (Blk U W3.heap.size 73 #[.int .i64 x.p, .int .i64 x.t, .string x.s]) ∧ Hid (Blk U w.heap.size 27 #[.int .i64 4, .int .i64 n, .string s, .slice (some ⟨bb, off, none⟩) 1 c]) ∧ Hid (Ext w U)) ⟨Blk.new W3 _ _, B2.out.alloc _, X2.out.alloc _⟩ ?_
    clear y2 X1 B1 X2 B2 HFI HFQ
    rintro U ⟨G1, B1, X1⟩
    generalize W3.heap.size = g7 at *
    clear V V2
    obtain ⟨p0, p1, p2, p3⟩ := HP.out
    have y2 : U.cell? ⟨w.heap.size, 2, none⟩ = some (.string s) := B1.out.cell 2
    have y3 : U.cell? ⟨w.heap.size, 3, none⟩ = some (.slice (some ⟨bb, off, none⟩) 1 c) := B1.out.cell 3
    have c0 := X1.out.cell p0
    go_upto_region 17 with fail
    have hT0 : U.cell? ⟨w.heap.size, 2, none⟩ = some (.string s) ∧ U.cell? ⟨w.heap.size, 3, none⟩ = some (.slice (some ⟨bb, off, none⟩) 1 c) ∧ U.cell? ⟨bb, off, none⟩ = some (.int .i64 a.k) ∧ U.cell? ⟨bb, off + 1, none⟩ = some (.int .i64 a.n) ∧ U.cell? ⟨bb, off + 2, none⟩ = some (.string a.s) ∧ U.cell? ⟨bb, off + 3, none⟩ = some (.slice Aa a.l.length ca) ∧ U.cell? ⟨g7, 0, none⟩ = some (.int .i64 x.p) ∧ U.cell? ⟨g7, 1, none⟩ = some (.int .i64 x.t) ∧ U.cell? ⟨g7, 2, none⟩ = some (.string x.s) ∧ Hid (Ext U U) := ⟨y2, y3, c0, X1.out.cell p1, X1.out.cell p2, X1.out.cell p3, G1.out.cell 0, G1.out.cell 1, G1.out.cell 2, Lib.hid (Ext.refl U)⟩
    have hT1 := keepC9 ((Ext.refl U).drew) hT0
    clear p0 p1 p2 p3 hT0 y2 y3 c0 m2
    go_region_held3 (fun w' => w'.cell? ⟨w.heap.size, 2, none⟩ = some (.string s) ∧ w'.cell? ⟨w.heap.size, 3, none⟩ = some (.slice (some ⟨bb, off, none⟩) 1 c) ∧ w'.cell? ⟨bb, off, none⟩ = some (.int .i64 a.k) ∧ w'.cell? ⟨bb, off + 1, none⟩ = some (.int .i64 a.n) ∧ w'.cell? ⟨bb, off + 2, none⟩ = some (.string a.s) ∧ w'.cell? ⟨bb, off + 3, none⟩ = some (.slice Aa a.l.length ca) ∧ w'.cell? ⟨g7, 0, none⟩ = some (.int .i64 x.p) ∧ w'.cell? ⟨g7, 1, none⟩ = some (.int .i64 x.t) ∧ w'.cell? ⟨g7, 2, none⟩ = some (.string x.s) ∧ Hid (Ext U w'))
      (first | assumption | (exact keepC9 (by assumption) (by assumption)))
      (first | (go_at_call 84; refine (HRI _).out.mono ?_; rintro e U5 ⟨rfl, h5⟩) | (go_at_call 59; refine (HQ _).out.mono ?_; rintro e U4 ⟨rfl, h4⟩) | (go_at_call 32; (with_reducible refine (HCA.out _ (X1.out.trans (keepE9 (by assumption)))).mono ?_); rintro e U6 ⟨rfl, h6⟩))
    all_goals
      obtain ⟨_, _, _, _, _, _, i0, _, _, HE6⟩ := ‹_ ∧ _ ∧ _ ∧ _ ∧ _ ∧ _ ∧ _ ∧ _ ∧ _ ∧ Hid (Ext U U6)›
      have X7 := Lib.hid (X1.out.trans HE6.out)
      clear HE6
      by_cases hm : most < x.p
      · go_wp2_with fail
        go_ret2
        exact ⟨ret_sb ((fin1_yes HQL.out HSA.out hm).trans (by rw [HTX.out])), X7.out⟩
      · go_wp2_with fail
        go_ret2
        exact ⟨ret_sb ((fin1_no HQL.out HSA.out (Int.not_lt.2 hm)).trans (by rw [HTX.out])), X7.out⟩

end Go.Proofs.YtnedihbffiddpaaGreatDoor

/- Layer 11, the reference: the walk of operated, of braces and where no operator writes; what it answers. -/
namespace Go.Proofs.YtnedihbffiddpaaGreatDoor
open Go.RowKit Go.El

set_option maxRecDepth 100000 in
set_option maxHeartbeats 4000000 in
theorem refOp_br (N : Nat) (IH : RTxC N) (t : Tm) (hN : szT t ≤ N + 1) (hok : okT t = true) (hb : szT t ≤ 100000) (a : Tm) (hla : t.l = [a]) (hbr : t.s.data.toList = [123, 125]) (w : World) (o : OpsV) (p : Option Addr) (most : Int) (A : Option Addr) (c : Nat) (D : Nat → Prop) (hR : RfAt w o p) (ht : TmIn D w t A c) :
    Calls Tryz.prog 58 #[tmVal t A c, .pointer p, .int .i64 most] w fun e w' => e = .returned (.tuple #[.string (strB ([123] ++ txT o a 1200 ++ [125])), .bool true]) ∧ Ext w w' := by
  have hx := ext_box w (.cells #[.int .i64 t.k, .int .i64 t.n, .string t.s, .slice A t.l.length c] 27)
  obtain ⟨hpk, hokl⟩ := okT_parts' hok
  rw [hla] at hokl
  simp only [okL, Bool.and_true] at hokl
  have hsz : szT t = 1 + szT a := by
    cases t with
    | mk k n s l =>
      simp only [Tm.l] at hla
      subst hla
      simp [szT, szL]
  obtain ⟨bb, off, Aa, ca, rfl, _, ta, p0, p1, p2, p3⟩ := ht.child (j := 0) (u := a) (by rw [hla]; rfl)
  rw [Nat.zero_mul, Nat.add_zero] at p0 p1 p2 p3
  have q0 := hx.cell p0
  have q1 := hx.cell p1
  have q2 := hx.cell p2
  have q3 := hx.cell p3
  have HC := Lib.hid (IH.no (t := a) (by omega) hokl (by omega) 1200 (hR.ext hx) (ta.ext hx) (by omega) (by omega))
  have hla0 := txT_le o a 1200 hokl
  have hz := strB_size (txT o a 1200)
  have hap : (⟨#[123]⟩ : ByteArray) ++ strB (txT o a 1200) ++ (⟨#[125]⟩ : ByteArray) = strB ([123] ++ txT o a 1200 ++ [125]) := by
    rw [show (⟨#[123]⟩ : ByteArray) = strB [123] from rfl, show (⟨#[125]⟩ : ByteArray) = strB [125] from rfl, strB_app, strB_app]
  have HAP := Lib.hid hap
  have hlen : t.l.length = 1 := by rw [hla]; rfl
  have b1 : (t.s.toList == [123, 125]) = true := by rw [ByteArray.toList_eq]; simpa using hbr
  unfold tmVal
  rw [hlen] at hx q0 q1 q2 q3 HC ⊢
  generalize txT o a 1200 = X at *
  generalize strB X = sx at *
  have hz1 : ¬ 9223372036854775807 < 1 + X.length := by omega
  have hz2 : ¬ 9223372036854775807 < 1 + X.length + 1 := by omega
  generalize t.n = n at *
  generalize t.k = k at *
  generalize t.s = s at *
  clear ht hR hok hokl hpk hla hlen hla0 p0 p1 p2 p3 ta hbr hap
  go_enter Tryz.func58, Tryz.ntmps58
  go_wp2_with (go_at_call 32; refine HC.out.mono ?_; rintro e W1 ⟨rfl, h1⟩; have X1 := Lib.hid (hx.trans h1); clear h1)
  go_ret2
  exact ⟨ret_sb HAP.out, X1.out⟩

set_option maxRecDepth 100000 in
set_option maxHeartbeats 8000000 in
theorem refOp_none (t : Tm) (hk : t.k = 4) (hls : isLs t.k t.s t.l.length = false) (hbr : isBraces t.s t.l.length = false) (w : World) (I Q : List OpV) (hno : oprT I Q t = none) (p : Option Addr) (most : Int) (A : Option Addr) (c : Nat) (D : Nat → Prop) (hR : RfAt w (some (I, Q)) p) (ht : TmIn D w t A c) :
    Calls Tryz.prog 58 #[tmVal t A c, .pointer p, .int .i64 most] w fun e w' => e = .returned (.tuple #[.string ⟨#[]⟩, .bool false]) ∧ Ext w w' := by
  have hx := ext_box w (.cells #[.int .i64 t.k, .int .i64 t.n, .string t.s, .slice A t.l.length c] 27)
  have HFI := fun (W : World) (x : Ext w W) => Lib.hid (foundI (hR.ext x) t.s)
  have HFQ := fun (W : World) (x : Ext w W) => Lib.hid (foundQ (hR.ext x) t.s)
  have HB := fun (W : World) (x : Ext (w.alloc (.cells #[.int .i64 t.k, .int .i64 t.n, .string t.s, .slice A t.l.length c] 27)) W) => Lib.hid (Blk.ext (Blk.new w 27 #[.int .i64 t.k, .int .i64 t.n, .string t.s, .slice A t.l.length c]) x)
  have hbd := of_decide_eq_false hbr
  have hbw := sq_ways t.s.data.toList [123, 125] t.s rfl
  have H2 := Lib.hid (fun h2 => by
    have := opn_two (I := I) (Q := Q) hk hls h2
    rw [hno] at this
    exact (show (findO t.s I).isSome = false by rw [← this]; rfl))
  have H1 : Hid (∀ a, t.l = [a] → ((findO t.s Q).isSome = false ∨ ((t.s.toList == [45]) = true ∧ (a.k == 2) = true))) := Lib.hid (fun a ha => by
    have h1 : t.l.length = 1 := by rw [ha]; rfl
    rcases minus_ways (s := t.s) ha with ⟨_, m2, m3⟩ | ⟨m1, _⟩ | ⟨m1, _, _⟩
    · exact .inr ⟨m2, m3⟩
    · have := opn_one (I := I) (Q := Q) hk h1 (fun e => hbd ⟨e, h1⟩) m1
      rw [hno] at this
      exact .inl (by rw [← this]; rfl)
    · have := opn_one (I := I) (Q := Q) hk h1 (fun e => hbd ⟨e, h1⟩) m1
      rw [hno] at this
      exact .inl (by rw [← this]; rfl))
  have HC : Hid (∀ (a : Tm), t.l = [a] → ∃ b off, A = some ⟨b, off, none⟩ ∧ w.cell? ⟨b, off, none⟩ = some (.int .i64 a.k)) := Lib.hid (fun a ha => by
    obtain ⟨b, off, _, _, hA, _, _, q0, _, _, _⟩ := ht.child (j := 0) (u := a) (by rw [ha]; rfl)
    rw [Nat.zero_mul, Nat.add_zero] at q0
    exact ⟨b, off, hA, q0⟩)
  unfold tmVal
  generalize hoI : (findO t.s I).getD zeroO = oI at *
  generalize hoQ : (findO t.s Q).getD zeroO = oQ at *
  generalize hsI : (findO t.s I).isSome = sI at *
  generalize hsQ : (findO t.s Q).isSome = sQ at *
  generalize t.k = k at *
  generalize t.n = n at *
  generalize t.s = s at *
  generalize t.l = l at *
  clear ht hR hoI hoQ hsI hsQ hno hls hbr hk
  have hb2 : (s.toList == [123, 125]) = false ∨ ((s.toList == [123, 125]) = true ∧ l.length ≠ 1) := by
    rcases hbw with ⟨e, b1, _⟩ | ⟨_, b1, _⟩
    · exact .inr ⟨b1, fun h => hbd ⟨e, h⟩⟩
    · exact .inl b1
  clear hbw hbd
  by_cases h2 : l.length = 2
  · have q2 : ((l.length : Int) == 2) = true := by simpa using (show (l.length : Int) = 2 by omega)
    have q1 : ((l.length : Int) == 1) = false := by simpa using (show ¬ (l.length : Int) = 1 by omega)
    have e2 := H2.out h2
    subst e2
    have hb3 : (s.toList == [123, 125]) = false ∨ (s.toList == [123, 125]) = true := by
      rcases hb2 with h | h
      · exact .inl h
      · exact .inr h.1
    clear h2 hb2
    rcases hb3 with b1 | b1
    all_goals
      go_enter Tryz.func58, Tryz.ntmps58
      go_upto_region 4 with (go_at_call 54; refine (HFI _ hx).out.mono ?_; rintro e W1 ⟨rfl, h1⟩; have X1 := Lib.hid (hx.trans h1); have B1 := HB _ h1; clear h1)
      refine wp_abs (fun V => Hid (Blk V w.heap.size 27 #[.int .i64 k, .int .i64 n, .string s, .slice A l.length c]) ∧ Hid (Ext w V)) ⟨B1.out.alloc _, X1.out.alloc _⟩ ?_
      clear X1 B1
      rintro V ⟨B1, X1⟩
      have y2 : V.cell? ⟨w.heap.size, 2, none⟩ = some (.string s) := B1.out.cell 2
      go_upto_region 5 with (go_at_call 54; refine (HFQ _ X1.out).out.mono ?_; rintro e W3 ⟨rfl, h1⟩; have X2 := Lib.hid ((X1.out.trans h1).trans (ext_box _ (.cells #[.int .i64 oQ.p, .int .i64 oQ.t, .string oQ.s] 73))); have B2 := Lib.hid ((B1.out.ext h1).alloc (.cells #[.int .i64 oQ.p, .int .i64 oQ.t, .string oQ.s] 73)); clear h1)
      have z3 := B2.out.cell 3
      have z2 := B2.out.cell 2
      go_wp2_with fail
      go_ret2
      exact ⟨rfl, X2.out⟩
  · have q2 : ((l.length : Int) == 2) = false := by simpa using (show ¬ (l.length : Int) = 2 by omega)
    by_cases h1 : l.length = 1
    · have q1 : ((l.length : Int) == 1) = true := by simpa using (show (l.length : Int) = 1 by omega)
      obtain ⟨a, hla⟩ : ∃ a, l = [a] := by
        match l, h1 with
        | [a], _ => exact ⟨a, rfl⟩
      obtain ⟨bb, off, rfl, p0⟩ := HC.out a hla
      have hw := H1.out a hla
      have hl0 : (0 : Int) < (l.length : Int) := by omega
      have b1 : (s.toList == [123, 125]) = false := by
        rcases hb2 with h | h
        · exact h
        · exact absurd h1 h.2
      have HP0 := Lib.hid p0
      clear hla h1 h2 hb2 p0
      rcases hw with rfl | ⟨m1, m2⟩
      all_goals
        go_enter Tryz.func58, Tryz.ntmps58
        go_upto_region 4 with (go_at_call 54; refine (HFI _ hx).out.mono ?_; rintro e W1 ⟨rfl, h1⟩; have X1 := Lib.hid (hx.trans h1); have B1 := HB _ h1; clear h1)
        refine wp_abs (fun V => Hid (Blk V w.heap.size 27 #[.int .i64 k, .int .i64 n, .string s, .slice (some ⟨bb, off, none⟩) l.length c]) ∧ Hid (Ext w V)) ⟨B1.out.alloc _, X1.out.alloc _⟩ ?_
        clear X1 B1
        rintro V ⟨B1, X1⟩
        have y2 : V.cell? ⟨w.heap.size, 2, none⟩ = some (.string s) := B1.out.cell 2
        go_upto_region 5 with (go_at_call 54; refine (HFQ _ X1.out).out.mono ?_; rintro e W3 ⟨rfl, h1⟩; have X2 := Lib.hid ((X1.out.trans h1).trans (ext_box _ (.cells #[.int .i64 oQ.p, .int .i64 oQ.t, .string oQ.s] 73))); have B2 := Lib.hid ((B1.out.ext h1).alloc (.cells #[.int .i64 oQ.p, .int .i64 oQ.t, .string oQ.s] 73)); clear h1)
        have z3 := B2.out.cell 3
        have z2 := B2.out.cell 2
        have c0 := X2.out.cell HP0.out
        go_wp2_with fail
        all_goals
          go_ret2
          exact ⟨rfl, X2.out⟩
    · have q1 : ((l.length : Int) == 1) = false := by simpa using (show ¬ (l.length : Int) = 1 by omega)
      have hb3 : (s.toList == [123, 125]) = false ∨ (s.toList == [123, 125]) = true := by
        rcases hb2 with h | h
        · exact .inl h
        · exact .inr h.1
      clear h1 h2 hb2
      rcases hb3 with b1 | b1
      all_goals
        go_enter Tryz.func58, Tryz.ntmps58
        go_upto_region 4 with (go_at_call 54; refine (HFI _ hx).out.mono ?_; rintro e W1 ⟨rfl, h1⟩; have X1 := Lib.hid (hx.trans h1); have B1 := HB _ h1; clear h1)
        refine wp_abs (fun V => Hid (Blk V w.heap.size 27 #[.int .i64 k, .int .i64 n, .string s, .slice A l.length c]) ∧ Hid (Ext w V)) ⟨B1.out.alloc _, X1.out.alloc _⟩ ?_
        clear X1 B1
        rintro V ⟨B1, X1⟩
        have y2 : V.cell? ⟨w.heap.size, 2, none⟩ = some (.string s) := B1.out.cell 2
        go_upto_region 5 with (go_at_call 54; refine (HFQ _ X1.out).out.mono ?_; rintro e W3 ⟨rfl, h1⟩; have X2 := Lib.hid ((X1.out.trans h1).trans (ext_box _ (.cells #[.int .i64 oQ.p, .int .i64 oQ.t, .string oQ.s] 73))); have B2 := Lib.hid ((B1.out.ext h1).alloc (.cells #[.int .i64 oQ.p, .int .i64 oQ.t, .string oQ.s] 73)); clear h1)
        have z3 := B2.out.cell 3
        have z2 := B2.out.cell 2
        go_wp2_with fail
        go_ret2
        exact ⟨rfl, X2.out⟩

/-- What the reference's operated answers. -/
theorem refOp_any (N : Nat) (IH : RTxC N) (t : Tm) (hN : szT t ≤ N + 1) (hok : okT t = true) (hb : szT t ≤ 100000) (hk : t.k = 4) (hls : isLs t.k t.s t.l.length = false) (w : World) (I Q : List OpV) (p : Option Addr) (most : Int) (A : Option Addr) (c : Nat) (D : Nat → Prop) (hR : RfAt w (some (I, Q)) p) (ht : TmIn D w t A c) :
    Calls Tryz.prog 58 #[tmVal t A c, .pointer p, .int .i64 most] w fun e w' =>
      (match operF I Q t.k t.s t.l most (a0T (some (I, Q)) t.l) (a1T (some (I, Q)) t.l) with
      | some X => e = .returned (.tuple #[.string (strB X), .bool true])
      | none => e = .returned (.tuple #[.string ⟨#[]⟩, .bool false])) ∧ Ext w w' := by
  cases hbr : isBraces t.s t.l.length
  · have hbd := of_decide_eq_false hbr
    cases ho : oprT I Q t with
    | none =>
      have hof : operF I Q t.k t.s t.l most (a0T (some (I, Q)) t.l) (a1T (some (I, Q)) t.l) = none := by
        unfold operF
        rw [hbr]
        unfold oprT at ho
        simp [ho]
      rw [hof]
      exact refOp_none t hk hls hbr w I Q ho p most A c D hR ht
    | some x =>
      have ho2 : oprK I Q t.k t.s t.l = some x := ho
      by_cases h2 : t.l.length = 2
      · obtain ⟨a, d, hla⟩ : ∃ a d, t.l = [a, d] := by
          match hh : t.l, h2 with
          | [a, d], _ => exact ⟨a, d, rfl⟩
        have hfx : findO t.s I = some x := by rw [← opn_two hk hls h2]; exact ho
        have hof : operF I Q t.k t.s t.l most (a0T (some (I, Q)) t.l) (a1T (some (I, Q)) t.l) = some (brk (decide (most < x.p)) (brk (bareT (some (I, Q)) a) (txT (some (I, Q)) a (leftF I Q x [a, d])) ++ midF t.s ++ brk (bareT (some (I, Q)) d) (txT (some (I, Q)) d (rightI x.p x.t)))) := by
          unfold operF
          rw [hbr, ho2]
          simp only [h2, if_true, Bool.false_eq_true, if_false]
          rw [hla]
          rfl
        rw [hof]
        exact refOp_two N IH t hN hok hb hk a d hla w I Q x hfx p most A c D hR ht
      · have h1 : t.l.length = 1 := by
          by_cases h1 : t.l.length = 1
          · exact h1
          · have := opn_more (I := I) (Q := Q) (t := t) h1 h2
            rw [ho] at this
            cases this
        obtain ⟨a, hla⟩ : ∃ a, t.l = [a] := by
          match hh : t.l, h1 with
          | [a], _ => exact ⟨a, rfl⟩
        have hbs : t.s.data.toList ≠ [123, 125] := fun e => hbd ⟨e, h1⟩
        have hmi : isMinus t.s t.l = false := by
          cases hm : isMinus t.s t.l
          · rfl
          · have := opn_min (I := I) (Q := Q) (t := t) h1 hm
            rw [ho] at this
            cases this
        have hfx : findO t.s Q = some x := by rw [← opn_one hk h1 hbs hmi]; exact ho
        have hof : operF I Q t.k t.s t.l most (a0T (some (I, Q)) t.l) (a1T (some (I, Q)) t.l) = some (brk (decide (most < x.p)) (quoF t.s.data.toList ++ [32] ++ brk (bareT (some (I, Q)) a) (txT (some (I, Q)) a (rightI x.p x.t)))) := by
          unfold operF
          rw [hbr, ho2]
          simp only [h2, if_false, Bool.false_eq_true]
          rw [hla]
          rfl
        rw [hof]
        exact refOp_one N IH t hN hok hb hk a hla hbs hmi w I Q x hfx p most A c D hR ht
  · have hbb := of_decide_eq_true hbr
    obtain ⟨a, hla⟩ : ∃ a, t.l = [a] := by
      match hh : t.l, hbb.2 with
      | [a], _ => exact ⟨a, rfl⟩
    have hof : operF I Q t.k t.s t.l most (a0T (some (I, Q)) t.l) (a1T (some (I, Q)) t.l) = some ([123] ++ txT (some (I, Q)) a 1200 ++ [125]) := by
      unfold operF
      rw [hbr, hla]
      rfl
    rw [hof]
    exact refOp_br N IH t hN hok hb a hla hbb.1 w (some (I, Q)) p most A c D hR ht

end Go.Proofs.YtnedihbffiddpaaGreatDoor
