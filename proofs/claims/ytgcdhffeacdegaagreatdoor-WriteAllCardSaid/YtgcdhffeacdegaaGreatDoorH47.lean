/- Law 11: the walk of WriteAll. -/
import Derived.Test.YtgcdhffeacdegaaGreatDoorH46
import Derived.Test.YtgcdhffeacdegaaGreatDoorH38
namespace Go.El
open Go.Proofs.YtgcdhffeacdegaaGreatDoor
def wrA (I Q : List OpV) (l : List Tm) : List UInt8 := l.flatMap (fun t => txT (some (I, Q)) t 1200 ++ [32, 46, 10])
theorem wrA_take {I Q : List OpV} {l : List Tm} {k : Nat} {t : Tm} (h : l[k]? = some t) : wrA I Q (l.take (k + 1)) = wrA I Q (l.take k) ++ (txT (some (I, Q)) t 1200 ++ [32, 46, 10]) := by
 rw [List.take_add_one, h]
 simp [wrA]
theorem wrote_all {I Q : List OpV} (h : OpsGood I Q) {l : List Tm} (hl : ∀ t ∈ l, mayT t = true) {W : List UInt8} (hW : W = wrA I Q l) (hB : W.length ≤ 65536) : ∃ xs : List ReadV, allR (opsF I Q) W = (xs, (W.length : Int), 0) ∧ xs.map ReadV.t = l.map (fun t => rnT t []) := by
 obtain ⟨h1, h2, h3⟩ := all_back h (.inr rfl) hB l 0 [] [] (Nat.zero_le _) hl (.inl rfl) (by rw [hW]; rfl)
 obtain ⟨xs, k, x, hc⟩ : ∃ xs k x, rtF (opsF I Q) W 0 [] = (xs, k, x) := ⟨_, _, _, rfl⟩
 rw [hc] at h1 h2 h3
 simp only at h1 h2 h3
 subst h2 h3
 exact ⟨xs, hc, by simpa using h1⟩
end Go.El
namespace Go.Proofs.YtgcdhffeacdegaaGreatDoor
open Go.RowKit Go.El
theorem strB_cat (a b : List UInt8) : strB a ++ strB b = strB (a ++ b) := by
 have h1 : (strB a ++ strB b).data.toList = a ++ b := by simp [strB]
 rw [← strB_mk (strB a ++ strB b), h1]
set_option maxRecDepth 100000 in
set_option maxHeartbeats 16000000 in
theorem writeAll_any (L : List OpV) (A0 : Option Addr) (c0 : Nat) (l : List Tm) (A : Option Addr) (c : Nat) (w : World) (D : Nat → Prop) (hl : El.Src w A0 L.length 3 (flat opCells L)) (hL : L.length ≤ 9223372036854775807) (hg : ∀ o ∈ L, o.s.size ≤ 9223372036854775807) (ht : TmsIn D w l A c) (hf : fitL l = true) (hll : l.length ≤ 9223372036854775807) (he : Env w) (g : Glob w) :
  Calls Tryz.prog 9 #[.slice A0 L.length c0, .slice A l.length c] w fun e w' => e = .returned (.bool true) ∧ Ext w w' := by
 have HT := Lib.hid ht
 have HF := Lib.hid hf
 have HE := Lib.hid he
 have HG := Lib.hid g
 have HTB := fun W (x : Ext w W) => Lib.hid (tables_good A0 c0 L W (he.ty.ext x) (hl.ext x) hg)
 have HLG := fun b hb => Lib.hid (opsLarge_any A0 c0 L w hl hL hg b hb)
 have HLV := fun (W : World) (x : Ext w W) => Lib.hid (lives_any W (HE.out.ext x))
 clear ht hf he g hl hg
 by_cases hlg : LgO L
 ·have HLG1 := HLG true (iff_of_true rfl hlg)
  clear hlg HLG
  go_enter Tryz.func9, Tryz.ntmps9
  go_wp2_with (first | (go_at_call 24; refine HLG1.out.mono ?_; rintro e W1 ⟨rfl, x1⟩; have X1 := Lib.hid x1; clear x1) | (go_at_call 25; refine (HLV _ X1.out).out.mono ?_; rintro e W2 ⟨rfl, x⟩; have X2 := Lib.hid (X1.out.trans x); clear x))
  go_ret
  exact ⟨rfl, X2.out⟩
 ·have HLG1 := HLG false (by simp [hlg])
  clear hlg HLG
  by_cases hb : 20 < l.length
  ·go_enter Tryz.func9, Tryz.ntmps9
   go_wp2_with (first | (go_at_call 24; refine HLG1.out.mono ?_; rintro e W1 ⟨rfl, x1⟩; have X1 := Lib.hid x1; clear x1) | (go_at_call 25; refine (HLV _ X1.out).out.mono ?_; rintro e W2 ⟨rfl, x⟩; have X2 := Lib.hid (X1.out.trans x); clear x))
   go_ret
   exact ⟨rfl, X2.out⟩
  ·have hl20 : l.length ≤ 20 := by omega
   clear hb hll
   go_enter Tryz.func9, Tryz.ntmps9
   go_upto_region 4 with (first | (go_at_call 24; refine HLG1.out.mono ?_; rintro e W1 ⟨rfl, x1⟩; have X1 := Lib.hid x1; clear x1) | (go_at_call 13; refine (HTB _ X1.out).out.mono ?_; rintro e W3 ⟨tb, rb, I, Q, rfl, hop, hgd, x⟩; have X3 := Lib.hid (X1.out.trans x); have HOP := Lib.hid hop; have HGD := Lib.hid hgd; clear hop hgd x))
   clear HTB HLG1
   go_wp2_with fail
   go_loopw [7, 8, 9] (fun x z i wr => ∃ j m : Nat, j ≤ l.length ∧ i = .int .i64 j ∧ z = .int .i64 m ∧ m ≤ 5000 ∧ x = .string (strB (wrA I Q (l.take j))) ∧ (strB (wrA I Q (l.take j))).size ≤ 60000 ∧ Hid (∀ t ∈ l.take j, mayT t = true) ∧ Hid (Ext W3 wr)) (fun _ _ i _ => l.length - (intOf i).toNat)
   case atStart => exact ⟨0, 0, Nat.zero_le _, rfl, rfl, Nat.zero_le _, rfl, Nat.zero_le _, Lib.hid (by simp), Lib.hid (Ext.refl _)⟩
   case round =>
    obtain ⟨j, m, hj, rfl, rfl, hm, rfl, hFz, HSZ, HX⟩ := hrel
    have xr := X3.out.trans HX.out
    by_cases hlt : j < l.length
    ·have ho : l[j]? = some l[j] := List.getElem?_eq_getElem hlt
     have hfu := fitL_get HF.out ho
     have HTK := Lib.hid (List.take_succ_eq_append_getElem hlt)
     have HWA := Lib.hid (wrA_take (I := I) (Q := Q) ho)
     generalize l[j] = u at *
     obtain ⟨bb, off, A', c', rfl, _, hu, q0, q1, q2, q3⟩ := (HT.out.ext xr).child (j := j) ho
     have HLA := Lib.hid (refLarge_any u A' c' wr _ hu hfu)
     have HU := Lib.hid hu
     have hz := bigT_no (t := u)
     have hch : chkT u = 0 → mayT u = true := fun h => by unfold mayT; simp [h]
     generalize hFs : strB (wrA I Q (l.take j)) = F at *
     have HFs := Lib.hid hFs
     unfold tmVal at HLA
     clear hu ho hFs
     cases hbt : bigT u
     ·rw [hbt] at HLA hz
      have hz := hz rfl
      have HCK := fun (W : World) (x : Ext wr W) => Lib.hid (refCheck_any u A' c' W _ (HU.out.ext x) (by omega))
      have HSI := fun (W : World) (x : Ext wr W) => Lib.hid (refSize_any (szT u) u (Nat.le_refl _) (by omega) A' c' W _ (HU.out.ext x))
      have HCC := fun (W : World) (x : Ext wr W) => Lib.hid (clause_any u A' c' W _ I Q tb (HU.out.ext x) (HE.out.ext (xr.trans x)) (HOP.out.ext (HX.out.trans x)) (by omega))
      unfold tmVal at HSI HCK HCC
      obtain ⟨zu, hzu⟩ : ∃ zu : Nat, szT u = zu := ⟨_, rfl⟩
      rw [hzu] at HSI hz
      clear hzu hbt
      have keyq := fun (W : World) (x : Ext wr W) => Lib.hid (show _ ∧ _ ∧ _ ∧ _ from ⟨x.cell q0, x.cell q1, x.cell q2, x.cell q3⟩)
      by_cases hck : chkT u = 0
      ·rw [hck] at HCK
       have hga := wrote_cases (some (I, Q)) u [32, 46, 10] hck
       obtain ⟨sa, hsa⟩ : ∃ s, wrtS (some (I, Q)) u [32, 46, 10] = s := ⟨_, rfl⟩
       obtain ⟨ea, hea⟩ : ∃ s, wrtE (some (I, Q)) u [32, 46, 10] = s := ⟨_, rfl⟩
       rw [hsa, hea] at HCC hga
       have HM := Lib.hid (hch hck)
       have HGA := Lib.hid hga
       clear hck hch hsa hea hga
       go_upto_region 11 with (first | (go_at_call 26; refine HLA.out.mono ?_; rintro e W4 ⟨rfl, hx1⟩; have X4 := Lib.hid hx1; obtain ⟨p0, p1, p2, p3⟩ := (keyq _ hx1).out; clear hx1) | (go_at_call 27; refine (HCK _ X4.out).out.mono ?_; rintro e W5 ⟨rfl, hx1⟩; have X5 := Lib.hid (X4.out.trans hx1); clear hx1))
       clear q0 q1 q2 q3 p0 p1 p2 p3
       obtain ⟨q0, q1, q2, q3⟩ := (keyq _ X5.out).out
       go_upto_region 12 with (go_at_call 28; refine (HSI _ X5.out).out.mono ?_; rintro e W6 ⟨rfl, hx1⟩; have X6 := Lib.hid (X5.out.trans hx1); clear hx1)
       clear q0 q1 q2 q3
       obtain ⟨q0, q1, q2, q3⟩ := (keyq _ X6.out).out
       go_upto_region 13 with (go_at_call 29; refine (HCC _ X6.out).out.mono ?_; rintro e W7 ⟨rfl, hx1⟩; have X7 := Lib.hid (X6.out.trans hx1); clear hx1)
       clear q0 q1 q2 q3 keyq HLA HCK HSI HCC
       rcases HGA.out with ⟨rfl, rfl⟩ | ⟨rfl, ha1, ha2⟩
       ·go_wp2_with (go_at_call 25; refine (HLV _ (xr.trans X7.out)).out.mono ?_; rintro e W8 ⟨rfl, hx⟩; have X8 := Lib.hid ((xr.trans X7.out).trans hx); clear hx)
        go_ret
        exact ⟨rfl, X8.out⟩
       ·have HA1 := Lib.hid ha1
        clear ha1
        by_cases h5 : 5000 < m + zu
        ·go_wp2_with (go_at_call 25; refine (HLV _ (xr.trans X7.out)).out.mono ?_; rintro e W8 ⟨rfl, hx⟩; have X8 := Lib.hid ((xr.trans X7.out).trans hx); clear hx)
         go_ret
         exact ⟨rfl, X8.out⟩
        ·by_cases h6 : 60000 < F.size + sa.size
         ·go_wp2_with (go_at_call 25; refine (HLV _ (xr.trans X7.out)).out.mono ?_; rintro e W8 ⟨rfl, hx⟩; have X8 := Lib.hid ((xr.trans X7.out).trans hx); clear hx)
          go_ret
          exact ⟨rfl, X8.out⟩
         ·go_wp2_with fail
          go_roundw
          case rel =>
           have hcat : F ++ sa = strB (wrA I Q (l.take (j + 1))) := by rw [HWA.out, ← HFs.out, HA1.out, strB_cat]
           refine ⟨j + 1, m + zu, hlt, by go_num, by go_num, by omega, by rw [hcat], ?_, Lib.hid (fun t ht => ?_), Lib.hid (HX.out.trans X7.out)⟩
           ·rw [← hcat, ByteArray.size_append]
            omega
           ·rw [HTK.out] at ht
            rcases List.mem_append.1 ht with h | h
            ·exact HSZ.out t h
            ·simp at h
             subst h
             exact HM.out
          case measure => simp [intOf]; omega
      ·have q4 : (chkT u != 0) = true := by simpa using hck
       clear hck hch
       go_wp2_with (first | (go_at_call 26; refine HLA.out.mono ?_; rintro e W4 ⟨rfl, hx1⟩; have X4 := Lib.hid hx1; obtain ⟨p0, p1, p2, p3⟩ := (keyq _ hx1).out; clear hx1) | (go_at_call 27; refine (HCK _ X4.out).out.mono ?_; rintro e W7 ⟨rfl, hx1⟩; have X7 := Lib.hid (X4.out.trans hx1); clear hx1) | (go_at_call 25; refine (HLV _ (xr.trans X7.out)).out.mono ?_; rintro e W8 ⟨rfl, hx⟩; have X8 := Lib.hid ((xr.trans X7.out).trans hx); clear hx))
       go_ret
       exact ⟨rfl, X8.out⟩
     ·rw [hbt] at HLA
      clear hbt hz
      go_wp2_with (first | (go_at_call 26; refine HLA.out.mono ?_; rintro e W4 ⟨rfl, hx1⟩; have X4 := Lib.hid (xr.trans hx1); clear hx1) | (go_at_call 25; refine (HLV _ X4.out).out.mono ?_; rintro e W5 ⟨rfl, hx2⟩; have X5 := Lib.hid (X4.out.trans hx2); clear hx2))
      go_ret
      exact ⟨rfl, X5.out⟩
    ·obtain rfl : j = l.length := by omega
     rw [List.take_length] at HSZ hFz ⊢
     have hle : (wrA I Q l).length ≤ 60000 := by rw [strB_size] at hFz; exact hFz
     obtain ⟨tb', m1, m2, etb, htab, hbd⟩ := HOP.out
     injection etb with etb
     injection etb with etb
     injection etb with etb _
     subst etb
     have HOK : Hid (OpsOk W3 tb I Q) := Lib.hid ⟨⟨m1, m2, htab⟩, hbd, HE.out.ty.ext X3.out⟩
     clear htab hbd
     obtain ⟨xs, hxs, hxt⟩ := wrote_all HGD.out HSZ.out (W := wrA I Q l) rfl (by omega)
     have HAL := fun (W : World) (x : Ext W3 W) (Aa : Option Addr) (cap : Nat) (hb : BytesAt W Aa (strB (wrA I Q l)).data.toList) (hc : (strB (wrA I Q l)).size ≤ cap) => Lib.hid (show Calls Tryz.prog 17 #[.slice Aa (strB (wrA I Q l)).size cap, .pointer (some ⟨tb, 0, none⟩)] W (fun e w' => ∃ v M, e = .returned (.tuple #[v, .int .i64 ((strB (wrA I Q l)).size : Int), .int .i64 0]) ∧ RdsAt W w' v M ∧ M.map (·.1) = xs) from by
      rw [strB_toList] at hb
      rw [strB_size] at hc ⊢
      have h := pAllR (A := Aa) (cap := cap) (B := wrA I Q l) (tb := tb) (w := W) hb (by omega) hc (HG.out.ext (X3.out.trans x)) (HOK.out.ext x)
      rw [show (⟨fun s => findO s I, fun s => findO s Q⟩ : Ops) = opsF I Q from rfl, hxs] at h
      exact h)
     have HXT := Lib.hid hxt
     generalize strB (wrA I Q l) = F at *
     have HSZ2 := Lib.hid HSZ.out
     clear hxs hxt hle HSZ
     have hcv := Lib.run_convert_string_bytes (P := Tryz.prog) wr 9 23 5 F Tryz.underlying9 Tryz.underlying23 Tryz.underlying5
     have HB := Lib.hid (bytes_new wr F)
     have HEB := Lib.hid (ext_bytes wr 5 F)
     generalize Lib.bytesWorld wr 5 F = W4 at hcv HB HEB
     have HAL4 := HAL W4 (HX.out.trans HEB.out)
     clear HAL
     go_upto_region 17 with (go_at_call 17; refine (HAL4 _ _ HB.out (grownCap_ge _ _ _ _)).out.mono ?_; rintro e W5 ⟨v, M, rfl, hm, hml⟩; obtain ⟨D1, e1, rfl⟩ := own_value hm.own; have HM := Lib.hid hm; have HML := Lib.hid hml; have X5 := Lib.hid ((xr.trans HEB.out).trans hm.ext); clear hm hml)
     clear hcv HAL4 HB
     have hlen : M.length = l.length := by
      have h1 := congrArg List.length HML.out
      have h2 := congrArg List.length HXT.out
      simp only [List.length_map] at h1 h2
      omega
     have w4 : ((M.length : Int) == (l.length : Int)) = true := by rw [hlen]; simp
     have w5 : ((M.length : Int) != (l.length : Int)) = false := by rw [hlen]; simp
     have HLN := Lib.hid hlen
     clear hlen
     go_upto_region 19 with (go_at_call 25; refine (HLV _ X5.out).out.mono ?_; rintro e W6 ⟨rfl, x⟩; have X6 := Lib.hid (X5.out.trans x); have XL6 := Lib.hid x; clear x)
     clear w4 w5
     go_wp2_with fail
     obtain ⟨wo, rfl⟩ : ∃ wo : World, wo = wr := ⟨_, rfl⟩
     go_loopw [15] (fun i wr => ∃ k : Nat, k ≤ l.length ∧ i = .int .i64 k ∧ Hid (Ext W6 wr)) (fun i _ => l.length - (intOf i).toNat)
     case atStart => exact ⟨0, Nat.zero_le _, rfl, Lib.hid (Ext.refl _)⟩
     case round =>
      clear xr
      obtain ⟨k, hk, rfl, HR⟩ := hrel
      have xw := X6.out.trans HR.out
      have x5 := XL6.out.trans HR.out
      by_cases hlt : k < l.length
      ·have ho : l[k]? = some l[k] := List.getElem?_eq_getElem hlt
       have hmu := HSZ2.out _ (List.getElem_mem hlt)
       have hkM : k < M.length := by rw [HLN.out]; exact hlt
       obtain ⟨p, hp⟩ : ∃ p, M[k]? = some p := ⟨_, List.getElem?_eq_getElem hkM⟩
       obtain ⟨r, a1, d1, n1, m1'⟩ := p
       have hrt : r.t = rnT l[k] [] := by
        have h1 : xs[k]? = some r := by rw [← HML.out, List.getElem?_map, hp]; rfl
        have h2 : (xs.map ReadV.t)[k]? = some r.t := by rw [List.getElem?_map, h1]; rfl
        rw [HXT.out, List.getElem?_map, ho] at h2
        exact (Option.some.inj h2).symm
       generalize l[k] = u at *
       obtain ⟨bb, off, A', c', rfl, _, hu, q0, q1, q2, q3⟩ := (HT.out.ext xw).child (j := k) ho
       have hsz := (mayT_iff.1 hmu).2.2
       have hus := (rnT_size u [] (mayT_iff.1 hmu).1).1
       have HRN := Lib.hid (refRename_any u A' c' wr _ (by omega) hu)
       have HKT := Lib.hid ((HM.out.kid _ (List.mem_of_getElem? hp)).tm.ext x5)
       obtain ⟨b1, off1, rfl, e0, e1, e2, e3, e4, e5⟩ := rd_cells ((Src.of_own HM.out.own).ext x5) hp
       obtain ⟨rt, rn, rx⟩ := r
       dsimp only at hrt HKT e0 e1 e2 e3 e4 e5
       rw [← hrt] at HRN hus
       unfold tmVal at HRN
       have hq3 : (k : Int) < (M.length : Int) := by omega
       clear hp ho hu hrt hmu
       go_upto_region 23 with (go_at_call 30; refine HRN.out.mono ?_; rintro e W7 ⟨A2, c2, rfl, htu, hx⟩; have HU := Lib.hid htu; have X7 := Lib.hid (show Ext wr W7 from hx); clear hx htu)
       have hxu := ext_box W7 (.cells #[.int .i64 (Tm.k rt), .int .i64 (Tm.n rt), .string (Tm.s rt), .slice A2 (Tm.l rt).length c2] 32)
       have BU := Lib.hid (Blk.new W7 32 #[.int .i64 (Tm.k rt), .int .i64 (Tm.n rt), .string (Tm.s rt), .slice A2 (Tm.l rt).length c2])
       have HU8 := Lib.hid (HU.out.ext hxu)
       have X8 := Lib.hid (X7.out.trans hxu)
       clear hxu HU HRN q0 q1 q2 q3
       generalize W7.alloc (.cells #[.int .i64 (Tm.k rt), .int .i64 (Tm.n rt), .string (Tm.s rt), .slice A2 (Tm.l rt).length c2] 32) = W8 at *
       generalize W7.heap.size = g8 at *
       have f0 := X8.out.cell e0
       have f1 := X8.out.cell e1
       have f2 := X8.out.cell e2
       have f3 := X8.out.cell e3
       have f4 := X8.out.cell e4
       have f5 := X8.out.cell e5
       have k0 : W8.cell? ⟨g8, 0, none⟩ = some (.int .i64 (Tm.k rt)) := BU.out.cell 0
       have k1 : W8.cell? ⟨g8, 1, none⟩ = some (.int .i64 (Tm.n rt)) := BU.out.cell 1
       have k2 : W8.cell? ⟨g8, 2, none⟩ = some (.string (Tm.s rt)) := BU.out.cell 2
       have k3 : W8.cell? ⟨g8, 3, none⟩ = some (.slice A2 (Tm.l rt).length c2) := BU.out.cell 3
       have HEX := fun W (x : Ext W8 W) => Lib.hid (exact_any _ rt rt (Nat.le_refl _) (by omega) a1 A2 d1 c2 W _ _ (HKT.out.ext (X8.out.trans x)) (HU8.out.ext x))
       rw [exT_refl] at HEX
       unfold tmVal at HEX
       have HWX := Lib.hid (HR.out.trans X8.out)
       clear e0 e1 e2 e3 e4 e5
       go_region_law ((go_simp; go_at_call 22; refine (HEX _ (Ext.refl _).drew).out.mono ?_; rintro e W10 ⟨rfl, x6⟩; have X10 := Lib.hid (HWX.out.trans ((Ext.refl _).drew.trans x6)); clear x6))
       all_goals
        go_wp2_with fail
        go_roundw
        case rel => exact ⟨k + 1, hlt, by go_num, X10⟩
        case measure => simp [intOf]; omega
      ·go_wp2_with fail
       go_ret
       exact ⟨rfl, xw⟩
end Go.Proofs.YtgcdhffeacdegaaGreatDoor
