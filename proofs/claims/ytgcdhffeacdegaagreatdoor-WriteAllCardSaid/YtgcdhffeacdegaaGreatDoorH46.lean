/- Law 11: the walk of WriteReads. -/
import Derived.Test.YtgcdhffeacdegaaGreatDoorH42
import Derived.Test.YtgcdhffeacdegaaGreatDoorH45
import Derived.Test.YtgcdhffeacdegaaGreatDoorH38
import Derived.Test.YtgcdhffeacdegaaGreatDoorH37
namespace Go.El
open Go.Proofs.YtgcdhffeacdegaaGreatDoor
theorem wrote_clause {I Q : List OpV} (h : OpsGood I Q) {t : Tm} (ht : mayT t = true) {W : List UInt8} (hW : W = txT (some (I, Q)) t 1200 ++ [32, 46, 10]) : ∃ r : ReadV, clauseS (opsF I Q) W 0 = (r, (W.length : Int) - 1, 0) ∧ r.t = rnT t [] := by
 obtain ⟨j, h1, h2, h3, h4, h5, h6⟩ := clause_back h (.inr rfl) ht (W := W) (i := 0) (Nat.zero_le _) (.inl rfl) (r := [10]) (.inr ⟨_, rfl⟩) (by rw [hW]; simp)
 have hl := congrArg List.length h4
 rw [List.length_drop] at hl
 simp only [List.length_cons, List.length_nil] at hl
 obtain ⟨r, k, x, hc⟩ : ∃ r k x, clauseS (opsF I Q) W 0 = (r, k, x) := ⟨_, _, _, rfl⟩
 rw [hc] at h1 h2 h3 ⊢
 simp only at h1 h2 h3
 refine ⟨r, ?_, h1⟩
 rw [h2, h3]
 congr 2
 omega
theorem wrote_one {I Q : List OpV} (h : OpsGood I Q) {t : Tm} (ht : mayT t = true) {B : List UInt8} (hB : B = txT none t 1200) (hl : B.length ≤ 65534) : ∃ r : ReadV, oneR (opsF I Q) (B ++ [32, 46]) = (r, 0) ∧ r.t = rnT t [] := by
 subst hB
 obtain ⟨h1, h2⟩ := one_back h (.inl rfl) ht (by rw [List.length_append]; simp; omega)
 obtain ⟨r, x, hc⟩ : ∃ r x, oneR (opsF I Q) (txT none t 1200 ++ [32, 46]) = (r, x) := ⟨_, _, rfl⟩
 rw [hc] at h1 h2 ⊢
 simp only at h1 h2
 subst h2
 exact ⟨r, rfl, h1⟩
end Go.El
namespace Go.Proofs.YtgcdhffeacdegaaGreatDoor
open Go.RowKit Go.El
theorem wrote_cases (o : OpsV) (t : Tm) (X : List UInt8) (hc : chkT t = 0) : (wrtE o t X = 3 ∧ wrtS o t X = ⟨#[]⟩) ∨ (wrtE o t X = 0 ∧ wrtS o t X = strB (txT o t 1200 ++ X) ∧ (wrtS o t X).size ≤ 65536) := by
 unfold wrtE wrtS
 rw [if_pos hc, if_pos hc]
 unfold txtE txtS
 by_cases h : 65536 < (txT o t 1200 ++ X).length
 ·rw [if_pos h, if_pos h]
  exact .inl ⟨rfl, rfl⟩
 ·rw [if_neg h, if_neg h]
  exact .inr ⟨rfl, rfl, by rw [strB_size]; omega⟩
theorem wrtE_bad {o : OpsV} {t : Tm} {X : List UInt8} (hc : ¬ chkT t = 0) : wrtE o t X ≠ 0 := by
 unfold wrtE
 rw [if_neg hc]
 exact hc
theorem One2 {w w' : World} {X : ReadV × Int} {e : Ending} (h : OnePost w X e w') : ∃ A c n q, e = .returned (.tuple #[.agg #[.int .i64 (Tm.k X.1.t), .int .i64 (Tm.n X.1.t), .string (Tm.s X.1.t), .slice A (Tm.l X.1.t).length c, .slice n X.1.ns.length q, .int .i64 X.1.nx], .int .i64 X.2]) ∧ TmIn (fun b => w.heap.size ≤ b ∧ b < w'.heap.size) w' X.1.t A c ∧ Ext w w' := by
 obtain ⟨v, rfl, ⟨A, c, n, q, rfl, ht, _, _, _⟩, hx⟩ := h
 exact ⟨A, c, n, q, rfl, ht, hx⟩
theorem Cl2 {w w' : World} {X : ReadV × Int × Int} {e : Ending} (h : ClPost w X e w') : ∃ A c n q, e = .returned (.tuple #[.agg #[.int .i64 (Tm.k X.1.t), .int .i64 (Tm.n X.1.t), .string (Tm.s X.1.t), .slice A (Tm.l X.1.t).length c, .slice n X.1.ns.length q, .int .i64 X.1.nx], .int .i64 X.2.1, .int .i64 X.2.2]) ∧ TmIn (fun b => w.heap.size ≤ b ∧ b < w'.heap.size) w' X.1.t A c ∧ Ext w w' := by
 obtain ⟨v, rfl, ⟨A, c, n, q, rfl, ht, _, _, _⟩, hx⟩ := h
 exact ⟨A, c, n, q, rfl, ht, hx⟩
set_option maxRecDepth 100000 in
set_option maxHeartbeats 8000000 in
theorem writeReads_any (L : List OpV) (A0 : Option Addr) (c0 : Nat) (t : Tm) (A : Option Addr) (c : Nat) (w : World) (D : Nat → Prop) (hl : El.Src w A0 L.length 3 (flat opCells L)) (hL : L.length ≤ 9223372036854775807) (hg : ∀ o ∈ L, o.s.size ≤ 9223372036854775807) (ht : TmIn D w t A c) (hf : fitT t = true) (he : Env w) (g : Glob w) :
  Calls Tryz.prog 10 #[.slice A0 L.length c0, tmVal t A c] w fun e w' => e = .returned (.bool true) ∧ Ext w w' := by
 have HT := Lib.hid ht
 have HF := Lib.hid hf
 have HE := Lib.hid he
 have HG := Lib.hid g
 have HTB := fun W (x : Ext w W) => Lib.hid (tables_good A0 c0 L W (he.ty.ext x) (hl.ext x) hg)
 have HLG := fun b W (x : Ext w W) hb => Lib.hid (opsLarge_any A0 c0 L W (hl.ext x) hL hg b hb)
 have x0 : Ext w (w.alloc (.cells #[.int .i64 t.k, .int .i64 t.n, .string t.s, .slice A t.l.length c] 32)) := (Ext.refl w).alloc _
 clear ht hf he g hl hg
 unfold tmVal
 go_enter Tryz.func10, Tryz.ntmps10
 go_upto_region 1 with fail
 refine wp_abs (fun V => Hid (Blk V w.heap.size 32 #[.int .i64 t.k, .int .i64 t.n, .string t.s, .slice A t.l.length c]) ∧ Hid (Ext w V)) ⟨Blk.new w _ _, (Ext.refl w).alloc _⟩ ?_
 clear x0
 rintro V ⟨HA0, HX⟩
 have HAV := Lib.hid (HT.out.ext HX.out)
 have HEV := Lib.hid (HE.out.ext HX.out)
 have HGV := Lib.hid (HG.out.ext HX.out)
 have key := fun (W : World) (x : Ext V W) => (show Hid (W.cell? ⟨w.heap.size, 0, none⟩ = some (.int .i64 t.k) ∧ W.cell? ⟨w.heap.size, 1, none⟩ = some (.int .i64 t.n) ∧ W.cell? ⟨w.heap.size, 2, none⟩ = some (.string t.s) ∧ W.cell? ⟨w.heap.size, 3, none⟩ = some (.slice A t.l.length c)) from Lib.hid ⟨(HA0.out.ext x).cell 0, (HA0.out.ext x).cell 1, (HA0.out.ext x).cell 2, (HA0.out.ext x).cell 3⟩)
 have HLA := fun (W : World) (x : Ext V W) => Lib.hid (refLarge_any t A c W D (HAV.out.ext x) HF.out)
 have HLV := fun (W : World) (x : Ext V W) => Lib.hid (lives_any W (HEV.out.ext x))
 have HTB2 := fun (W : World) (x : Ext V W) => HTB W (HX.out.trans x)
 clear HTB
 unfold tmVal at HLA
 by_cases hlg : LgO L
 ·have HLG1 := HLG true V HX.out (iff_of_true rfl hlg)
  clear hlg HLG
  go_wp2_with (first | (go_at_call 24; refine HLG1.out.mono ?_; rintro e W1 ⟨rfl, x1⟩; have X1 := Lib.hid x1; clear x1) | (go_at_call 25; refine (HLV _ X1.out).out.mono ?_; rintro e W2 ⟨rfl, x⟩; have X2 := Lib.hid (X1.out.trans x); clear x))
  go_ret
  exact ⟨rfl, HX.out.trans X2.out⟩
 ·have HLG1 := HLG false V HX.out (by simp [hlg])
  clear hlg HLG
  have hza := bigT_no (t := t)
  have hch : chkT t = 0 → mayT t = true := fun h => by unfold mayT; simp [h]
  cases hba : bigT t
  ·rw [hba] at HLA hza
   have hza := hza rfl
   have HCC := fun I Q tb (W : World) (x : Ext V W) (hop : OpsAt W (some (I, Q)) (.pointer (some ⟨tb, 0, none⟩))) => Lib.hid (clause_any t A c W D I Q tb (HAV.out.ext x) (HEV.out.ext x) hop (by omega))
   have HCA := fun (W : World) (x : Ext V W) => Lib.hid (canon_any t A c W D (HAV.out.ext x) (HEV.out.ext x) (by omega))
   have HCK := fun (W : World) (x : Ext V W) => Lib.hid (refCheck_any t A c W D (HAV.out.ext x) (by omega))
   have HRN := fun (W : World) (x : Ext V W) => Lib.hid (refRename_any t A c W D (by omega) (HAV.out.ext x))
   unfold tmVal at HCC HCA HCK
   clear hba
   obtain ⟨y0, y1, y2, y3⟩ := (key V (Ext.refl V)).out
   go_upto_region 4 with (first | (go_at_call 24; refine HLG1.out.mono ?_; rintro e W1 ⟨rfl, x1⟩; have X1 := Lib.hid x1; obtain ⟨z0, z1, z2, z3⟩ := (key _ x1).out; clear x1) | (go_at_call 26; refine (HLA _ X1.out).out.mono ?_; rintro e W2 ⟨rfl, x⟩; have X2 := Lib.hid (X1.out.trans x); clear x) | (go_at_call 13; refine (HTB2 _ X2.out).out.mono ?_; rintro e W3 ⟨tb, rb, I, Q, rfl, hop, hgd, x⟩; have X3 := Lib.hid (X2.out.trans x); have HOP := Lib.hid hop; have HGD := Lib.hid hgd; clear hop hgd x))
   clear y0 y1 y2 y3 z0 z1 z2 z3
   obtain ⟨y0, y1, y2, y3⟩ := (key _ X3.out).out
   have HC1 := HCC I Q tb W3 X3.out HOP.out
   have hga := fun hc => wrote_cases (some (I, Q)) t [32, 46, 10] hc
   have hgb := fun hc => wrote_cases none t [] hc
   have hgc := fun hc => wrtE_bad (o := some (I, Q)) (t := t) (X := [32, 46, 10]) hc
   obtain ⟨sa, hsa⟩ : ∃ s, wrtS (some (I, Q)) t [32, 46, 10] = s := ⟨_, rfl⟩
   obtain ⟨ea, hea⟩ : ∃ s, wrtE (some (I, Q)) t [32, 46, 10] = s := ⟨_, rfl⟩
   obtain ⟨sb, hsb⟩ : ∃ s, wrtS none t [] = s := ⟨_, rfl⟩
   obtain ⟨eb, heb⟩ : ∃ s, wrtE none t [] = s := ⟨_, rfl⟩
   rw [hsa, hea] at HC1 hga
   rw [hsb, heb] at HCA hgb
   rw [hea] at hgc
   have HGA := Lib.hid hga
   have HGB := Lib.hid hgb
   have HGC := Lib.hid hgc
   clear hga hgb hgc hsa hea hsb heb HCC HLA HTB2 HLG1
   go_upto_region 5 with (go_at_call 29; refine HC1.out.mono ?_; rintro e W4 ⟨rfl, hx⟩; have X4 := Lib.hid (X3.out.trans hx); have XA := Lib.hid hx; clear hx HC1)
   clear y0 y1 y2 y3
   obtain ⟨y0, y1, y2, y3⟩ := (key _ X4.out).out
   go_upto_region 6 with (go_at_call 31; refine (HCA _ X4.out).out.mono ?_; rintro e W5 ⟨rfl, hx⟩; have X5 := Lib.hid (X4.out.trans hx); have XB := Lib.hid hx; clear hx HCA)
   clear y0 y1 y2 y3
   go_upto_region 8 with (go_at_call 25; refine (HLV _ X5.out).out.mono ?_; rintro e W6 ⟨rfl, hx⟩; have X6 := Lib.hid (X5.out.trans hx); have XL36 := Lib.hid ((XA.out.trans XB.out).trans hx); clear hx)
   obtain ⟨y0, y1, y2, y3⟩ := (key _ X6.out).out
   by_cases hck : chkT t = 0
   ·have hmay := hch hck
    rw [hck] at HCK
    rcases HGA.out hck with ⟨rfl, rfl⟩ | ⟨rfl, ha1, ha2⟩
    ·clear HGA HGB HGC hck
     go_wp2_with (go_at_call 27; refine (HCK _ X6.out).out.mono ?_; rintro e W7 ⟨rfl, hx⟩; have X7 := Lib.hid (X6.out.trans hx); clear hx)
     go_ret
     exact ⟨rfl, HX.out.trans X7.out⟩
    ·rcases HGB.out hck with ⟨rfl, rfl⟩ | ⟨rfl, hb1, hb2⟩
     ·clear HGA HGB HGC hck ha1
      go_wp2_with (go_at_call 27; refine (HCK _ X6.out).out.mono ?_; rintro e W7 ⟨rfl, hx⟩; have X7 := Lib.hid (X6.out.trans hx); clear hx)
      go_ret
      exact ⟨rfl, HX.out.trans X7.out⟩
     ·by_cases hbz : 65534 < sb.size
      ·have HBZ := Lib.hid hbz
       clear HGA HGB HGC hck ha1 hb1
       go_wp2_with (go_at_call 27; refine (HCK _ X6.out).out.mono ?_; rintro e W7 ⟨rfl, hx⟩; have X7 := Lib.hid (X6.out.trans hx); clear hx)
       go_ret
       exact ⟨ret_boolP (iff_of_true (decide_eq_true (by have := HBZ.out; omega)) rfl), HX.out.trans X7.out⟩
      ·have HA1 := Lib.hid ha1
       have HB1 := Lib.hid hb1
       have HM := Lib.hid hmay
       clear HGA HGB HGC hck ha1 hb1 hmay
       go_upto_region 10 with fail
       clear y0 y1 y2 y3
       obtain ⟨y0, y1, y2, y3⟩ := (key _ X6.out).out
       obtain ⟨tb', m1, m2, etb, htab, hbd⟩ := HOP.out
       injection etb with etb
       injection etb with etb
       injection etb with etb _
       subst etb
       have hla : sa.data.toList.length = sa.size := by rw [Array.length_toList]; rfl
       have hlb : sb.data.toList.length = sb.size := by rw [Array.length_toList]; rfl
       have HOK : Hid (OpsOk W3 tb I Q) := Lib.hid ⟨⟨m1, m2, htab⟩, hbd, HEV.out.ty.ext X3.out⟩
       have X36 : Hid (Ext W3 W6) := XL36
       clear htab hbd
       obtain ⟨r1, hr1, ht1⟩ := wrote_clause HGD.out HM.out (W := sa.data.toList) (by rw [HA1.out, strB_toList])
       obtain ⟨r2, hr2, ht2⟩ := wrote_one HGD.out HM.out (B := sb.data.toList) (by rw [HB1.out, strB_toList, List.append_nil]) (by omega)
       rw [hla] at hr1
       have HCL := fun (W : World) (x : Ext W3 W) (Aa : Option Addr) (cap : Nat) (hb : BytesAt W Aa sa.data.toList) (hc : sa.size ≤ cap) => Lib.hid (show Calls Tryz.prog 14 #[.slice Aa sa.size cap, .int .i64 0, .pointer (some ⟨tb, 0, none⟩)] W (fun e w' => ∃ A c n q, e = .returned (.tuple #[.agg #[.int .i64 (Tm.k r1.t), .int .i64 (Tm.n r1.t), .string (Tm.s r1.t), .slice A (Tm.l r1.t).length c, .slice n r1.ns.length q, .int .i64 r1.nx], .int .i64 ((sa.size : Int) - 1), .int .i64 0]) ∧ TmIn (fun b => W.heap.size ≤ b ∧ b < w'.heap.size) w' r1.t A c ∧ Ext W w') from by
        have h := pClause_any (A := Aa) (cap := cap) (B := sa.data.toList) (i := 0) (tb := tb) (w := W) hb (Nat.zero_le _) (by omega) (by omega) (HGV.out.ext (X3.out.trans x)) (HOK.out.ext x)
        rw [show (⟨fun s => findO s I, fun s => findO s Q⟩ : Ops) = opsF I Q from rfl, hr1, hla] at h
        exact h.mono fun e w' h => Cl2 h)
       have HON := fun (W : World) (x : Ext W3 W) => Lib.hid (show Calls Tryz.prog 19 #[.string sb, .pointer (some ⟨tb, 0, none⟩)] W (fun e w' => ∃ A c n q, e = .returned (.tuple #[.agg #[.int .i64 (Tm.k r2.t), .int .i64 (Tm.n r2.t), .string (Tm.s r2.t), .slice A (Tm.l r2.t).length c, .slice n r2.ns.length q, .int .i64 r2.nx], .int .i64 0]) ∧ TmIn (fun b => W.heap.size ≤ b ∧ b < w'.heap.size) w' r2.t A c ∧ Ext W w') from by
        have h := parseOne_any (s := sb) (tb := tb) (w := W) (by omega) (HGV.out.ext (X3.out.trans x)) (HOK.out.ext x)
        rw [show (⟨fun s => findO s I, fun s => findO s Q⟩ : Ops) = opsF I Q from rfl, hr2] at h
        exact h.mono fun e w' h => One2 h)
       have HR1 := HRN W6 X6.out
       have hus := (rnT_size t [] (mayT_iff.1 HM.out).1).1
       have w1 : IntKind.i64.wrap ((sa.size : Int) - 1) = (sa.size : Int) - 1 := IntWalk.i64_in _ (by omega)
       generalize rnT t [] = u at *
       unfold tmVal at HR1
       obtain ⟨r1t, r1n, r1x⟩ := r1
       obtain ⟨r2t, r2n, r2x⟩ := r2
       dsimp only at ht1 ht2 HCL HON
       subst ht1 ht2
       clear hr1 hr2 HRN HCK HA1 HB1 HM hla hlb hch
       go_upto_region 11 with (go_at_call 30; refine HR1.out.mono ?_; rintro e W7 ⟨A2, c2, rfl, htu, hx⟩; have HU := Lib.hid htu; have X7 := Lib.hid (X6.out.trans hx); have X37 := Lib.hid (X36.out.trans hx); clear hx HR1 htu)
       have hxu := ext_box W7 (.cells #[.int .i64 (Tm.k r2t), .int .i64 (Tm.n r2t), .string (Tm.s r2t), .slice A2 (Tm.l r2t).length c2] 32)
       have BU := Lib.hid (Blk.new W7 32 #[.int .i64 (Tm.k r2t), .int .i64 (Tm.n r2t), .string (Tm.s r2t), .slice A2 (Tm.l r2t).length c2])
       have HU8 := Lib.hid (HU.out.ext hxu)
       have X8 := Lib.hid (X7.out.trans hxu)
       have X38 := Lib.hid (X37.out.trans hxu)
       clear hxu HU
       generalize W7.alloc (.cells #[.int .i64 (Tm.k r2t), .int .i64 (Tm.n r2t), .string (Tm.s r2t), .slice A2 (Tm.l r2t).length c2] 32) = W8 at *
       generalize W7.heap.size = g8 at *
       have hcv := Lib.run_convert_string_bytes (P := Tryz.prog) W8 9 23 5 sa Tryz.underlying9 Tryz.underlying23 Tryz.underlying5
       have HB := Lib.hid (bytes_new W8 sa)
       have HEB := Lib.hid (ext_bytes W8 5 sa)
       generalize Lib.bytesWorld W8 5 sa = W9 at hcv HB HEB
       have HCL9 := HCL W9 (X38.out.trans HEB.out)
       clear HCL
       go_upto_region 12 with (go_at_call 14; refine (HCL9 _ _ HB.out (grownCap_ge _ _ _ _)).out.mono ?_; rintro e W10 ⟨a1, d1, n1, m1', rfl, hr, hx⟩; have HR1 := Lib.hid hr; have X10 := Lib.hid ((X8.out.trans HEB.out).trans hx); have X310 := Lib.hid ((X38.out.trans HEB.out).trans hx); have X810 := Lib.hid (HEB.out.trans hx); clear hr hx)
       have hxa := ext_box4 W10 (.cells #[.int .i64 (Tm.k r2t), .int .i64 (Tm.n r2t), .string (Tm.s r2t), .slice a1 (Tm.l r2t).length d1, .slice n1 r1n.length m1', .int .i64 r1x] 35)
       have B1 := Lib.hid (Blk.new W10 35 #[.int .i64 (Tm.k r2t), .int .i64 (Tm.n r2t), .string (Tm.s r2t), .slice a1 (Tm.l r2t).length d1, .slice n1 r1n.length m1', .int .i64 r1x])
       have T1 := Lib.hid (HR1.out.ext hxa)
       have X11 := Lib.hid (X10.out.trans hxa)
       have X311 := Lib.hid (X310.out.trans hxa)
       have X811 := Lib.hid (X810.out.trans hxa)
       clear hxa HR1 HCL9
       generalize W10.alloc (.cells #[.int .i64 (Tm.k r2t), .int .i64 (Tm.n r2t), .string (Tm.s r2t), .slice a1 (Tm.l r2t).length d1, .slice n1 r1n.length m1', .int .i64 r1x] 35) = W11 at *
       generalize W10.heap.size = g10 at *
       have HON1 := HON W11 X311.out
       clear HON hcv
       go_upto_region 13 with (go_at_call 19; refine HON1.out.mono ?_; rintro e W12 ⟨a2, d2, n2, m2', rfl, hr, hx⟩; have HR2 := Lib.hid hr; have X12 := Lib.hid (X11.out.trans hx); have X1112 := Lib.hid hx; clear hr hx)
       have hxb := ext_box4 W12 (.cells #[.int .i64 (Tm.k r2t), .int .i64 (Tm.n r2t), .string (Tm.s r2t), .slice a2 (Tm.l r2t).length d2, .slice n2 r2n.length m2', .int .i64 r2x] 35)
       have B2 := Lib.hid (Blk.new W12 35 #[.int .i64 (Tm.k r2t), .int .i64 (Tm.n r2t), .string (Tm.s r2t), .slice a2 (Tm.l r2t).length d2, .slice n2 r2n.length m2', .int .i64 r2x])
       have T2 := Lib.hid (HR2.out.ext hxb)
       have X13 := Lib.hid (X12.out.trans hxb)
       have X1113 := Lib.hid (X1112.out.trans hxb)
       have X813 := Lib.hid (X811.out.trans X1113.out)
       clear hxb HR2 HON1
       generalize W12.alloc (.cells #[.int .i64 (Tm.k r2t), .int .i64 (Tm.n r2t), .string (Tm.s r2t), .slice a2 (Tm.l r2t).length d2, .slice n2 r2n.length m2', .int .i64 r2x] 35) = W13 at *
       generalize W12.heap.size = g12 at *
       have k1 := (B1.out.ext X1113.out).cell
       have k2 := B2.out.cell
       have k3 := (BU.out.ext X813.out).cell
       have hex1 := exact_any _ r2t r2t (Nat.le_refl _) (by omega) a1 A2 d1 c2 W13 _ _ (T1.out.ext X1113.out) (HU8.out.ext X813.out)
       have hex2 := fun W (x : Ext W13 W) => Lib.hid (exact_any _ r2t r2t (Nat.le_refl _) (by omega) a2 A2 d2 c2 W _ _ (T2.out.ext x) (HU8.out.ext (X813.out.trans x)))
       rw [exT_refl] at hex1 hex2
       unfold tmVal at hex1 hex2
       have HEX1 := Lib.hid hex1
       clear hex1
       go_wp2_with (first | (go_at_call 22; with_reducible refine HEX1.out.mono ?_; rintro e W14 ⟨rfl, x14⟩; have X14 := Lib.hid (X13.out.trans x14); have XE := Lib.hid x14; have k4 := ((B2.out).ext x14).cell; have k5 := (BU.out.ext (X813.out.trans x14)).cell; clear x14) | (go_at_call 22; refine (hex2 _ XE.out).out.mono ?_; rintro e W15 ⟨rfl, x15⟩; have X15 := Lib.hid (X14.out.trans x15); clear x15))
       go_ret
       exact ⟨rfl, HX.out.trans X15.out⟩
   ·have q1 : (ea != 0) = true := by simpa using HGC.out hck
    have q2 : (chkT t != 0) = true := by simpa using hck
    clear HGA HGB HGC hck hch
    go_wp2_with (go_at_call 27; refine (HCK _ X6.out).out.mono ?_; rintro e W7 ⟨rfl, hx⟩; have X7 := Lib.hid (X6.out.trans hx); clear hx)
    go_ret
    exact ⟨rfl, HX.out.trans X7.out⟩
  ·rw [hba] at HLA
   clear hba hza
   obtain ⟨y0, y1, y2, y3⟩ := (key V (Ext.refl V)).out
   go_wp2_with (first | (go_at_call 24; refine HLG1.out.mono ?_; rintro e W1 ⟨rfl, x1⟩; have X1 := Lib.hid x1; obtain ⟨z0, z1, z2, z3⟩ := (key _ x1).out; clear x1) | (go_at_call 26; refine (HLA _ X1.out).out.mono ?_; rintro e W2 ⟨rfl, x⟩; have X2 := Lib.hid (X1.out.trans x); clear x) | (go_at_call 25; refine (HLV _ X2.out).out.mono ?_; rintro e W6 ⟨rfl, hx⟩; have X6 := Lib.hid (X2.out.trans hx); clear hx))
   go_ret
   exact ⟨rfl, HX.out.trans X6.out⟩
end Go.Proofs.YtgcdhffeacdegaaGreatDoor
