/- Law 10: the walk of ParseBlanks. -/
import Derived.Test.YtgcdhffeacdegaaGreatDoorG44
import Derived.Test.YtgcdhffeacdegaaGreatDoorG51
namespace Go.El
theorem wdF_take {l : List UInt8} {k : Nat} {c : UInt8} (h : l[k]? = some c) : wdF (l.take (k + 1)) = wdF (l.take k) ++ (if c = 32 then [32, 32, 32] else [c]) := by
  rw [List.take_add_one, h]
  simp [wdF]
theorem wdF_len : ∀ A : List UInt8, (wdF A).length ≤ 3 * A.length
  | [] => by simp [wdF]
  | c :: A => by
    have ih := wdF_len A
    have : wdF (c :: A) = (if c = 32 then [32, 32, 32] else [c]) ++ wdF A := by simp [wdF]
    rw [this, List.length_append, List.length_cons]
    split <;> simp <;> omega
end Go.El
namespace Go.Proofs.YtgcdhffeacdegaaGreatDoor
open Go.RowKit Go.El

theorem one_ext {s : ByteArray} {k : Nat} (h : k < s.size) : s.extract k (k + 1) = strB [s[k]'h] := by
  have e : (s.extract k (k + 1)).data.toList = [s[k]'h] := by
    rw [ByteArray.data_extract, Array.toList_extract]
    have h2 : k < s.data.toList.length := by rw [Array.length_toList]; exact h
    have h3 : (s[k]'h) = s.data.toList[k]'h2 := by rfl
    rw [h3]
    simp only [List.extract_eq_take_drop, Nat.add_sub_cancel_left]
    rw [List.drop_eq_getElem_cons h2]
    rfl
  rw [← strB_mk (s.extract k (k + 1)), e]
theorem strB_app2 (a b : List UInt8) : strB a ++ strB b = strB (a ++ b) := by
  have h1 : (strB a ++ strB b).data.toList = a ++ b := by simp [strB]
  rw [← strB_mk (strB a ++ strB b), h1]

set_option maxRecDepth 100000 in
set_option maxHeartbeats 4000000 in
theorem wide_any (s : ByteArray) (hs : s.size ≤ 2000) (w : World) : Calls Tryz.prog 23 #[.string s] w fun e w' => e = .returned (.string (strB (wdF s.data.toList))) ∧ Ext w w' := by
  go_enter Tryz.func23, Tryz.ntmps23
  go_wp2_with fail
  go_loopw [3, 4] (fun v i wr => ∃ k : Nat, k ≤ s.size ∧ i = .int .i64 k ∧ v = .string (strB (wdF (s.data.toList.take k))) ∧ Hid (Ext w wr)) (fun _ i _ => s.size + 1 - (intOf i).toNat)
  case atStart => exact ⟨0, Nat.zero_le _, rfl, rfl, Lib.hid (Ext.refl _)⟩
  case round =>
    obtain ⟨k, hk, rfl, rfl, HX⟩ := hrel
    have hln : s.data.toList.length = s.size := by rw [Array.length_toList]; rfl
    by_cases hlt : k < s.size
    · have hg : s.data.toList[k]? = some (s[k]'hlt) := by
        rw [List.getElem?_eq_getElem (by rw [hln]; exact hlt)]
        rfl
      have HT := Lib.hid (wdF_take hg)
      have HO := Lib.hid (one_ext hlt)
      have hFs : (strB (wdF (s.data.toList.take k))).size ≤ 6000 := by
        rw [strB_size]
        have h1 := wdF_len (s.data.toList.take k)
        rw [List.length_take] at h1
        omega
      clear hg
      by_cases hc : s[k]'hlt = 32
      · have q1 : (((s[k]'hlt).toNat : Int) == 32) = true := by rw [hc]; rfl
        have HC := Lib.hid hc
        clear hc hln
        go_wp2_with fail
        go_roundw
        case rel =>
          refine ⟨k + 1, hlt, by go_num, ?_, HX⟩
          rw [HT.out, if_pos HC.out, HO.out, HC.out]
          rw [show (⟨#[32, 32]⟩ : ByteArray) = strB [32, 32] from rfl, strB_app2, strB_app2, List.append_assoc]
          rfl
        case measure => simp [intOf]; omega
      · have q1 : (((s[k]'hlt).toNat : Int) == 32) = false := by
          rw [beq_eq_false_iff_ne]
          intro e
          exact hc (UInt8.toNat_inj.1 (by show (s[k]'hlt).toNat = 32; omega))
        go_wp2_with fail
        go_roundw
        case rel =>
          refine ⟨k + 1, hlt, by go_num, ?_, HX⟩
          rw [HT.out, if_neg hc, HO.out, strB_app2]
        case measure => simp [intOf]; omega
    · obtain rfl : k = s.size := by omega
      rw [← hln, List.take_length]
      go_wp2_with fail
      go_ret
      exact ⟨rfl, HX.out⟩

set_option maxRecDepth 100000 in
set_option maxHeartbeats 8000000 in
theorem parseBlanks_any (L : List OpV) (A0 : Option Addr) (c0 : Nat) (s : ByteArray) (w : World) (hl : El.Src w A0 L.length 3 (flat opCells L)) (hL : L.length ≤ 9223372036854775807) (hg : ∀ o ∈ L, o.s.size ≤ 9223372036854775807)  (g : Glob w) (hT : TypesAt 0 w) :
    Calls Tryz.prog 7 #[.slice A0 L.length c0, .string s] w fun e w' => e = .returned (.bool true) ∧ Ext w w' := by
  have HG := Lib.hid g
  have HT := Lib.hid hT
  have HLV := fun W (x : Ext w W) => Lib.hid (lives10_any W (g.ext x) (hT.ext x))
  have HTB := fun W (x : Ext w W) => Lib.hid (tables_any A0 c0 L W (hT.ext x) (hl.ext x) hL hg)
  by_cases hlg : LgO L
  · have HLG := Lib.hid (ops10Large_any A0 c0 L w hl hL hg true (iff_of_true rfl hlg))
    clear g hT hl hg hlg
    go_enter Tryz.func7, Tryz.ntmps7
    go_wp2_with (first | (go_at_call 11; refine HLG.out.mono ?_; rintro e W1 ⟨rfl, x1⟩; have X1 := Lib.hid x1; clear x1) | (go_at_call 12; refine (HLV _ X1.out).out.mono ?_; rintro e W2 ⟨rfl, x⟩; have X2 := Lib.hid (X1.out.trans x); clear x))
    go_ret
    exact ⟨rfl, X2.out⟩
  · have HLG := Lib.hid (ops10Large_any A0 c0 L w hl hL hg false (by simp [hlg]))
    clear g hT hl hg hlg
    by_cases hz : 2000 < s.size
    · go_enter Tryz.func7, Tryz.ntmps7
      go_wp2_with (first | (go_at_call 11; refine HLG.out.mono ?_; rintro e W1 ⟨rfl, x1⟩; have X1 := Lib.hid x1; clear x1) | (go_at_call 12; refine (HLV _ X1.out).out.mono ?_; rintro e W2 ⟨rfl, x⟩; have X2 := Lib.hid (X1.out.trans x); clear x))
      go_ret
      exact ⟨rfl, X2.out⟩
    · go_enter Tryz.func7, Tryz.ntmps7
      go_upto_region 4 with (first | (go_at_call 11; refine HLG.out.mono ?_; rintro e W1 ⟨rfl, x1⟩; have X1 := Lib.hid x1; clear x1) | (go_at_call 13; refine (HTB _ X1.out).out.mono ?_; rintro e W2 ⟨tb, rb, I, Q, rfl, hop, hrf, x2⟩; have X2 := Lib.hid (X1.out.trans x2); have HOP := Lib.hid hop; have HRF := Lib.hid hrf; clear hop hrf x2))
      obtain ⟨tb', m1, m2, etb, htab, hbd⟩ := HOP.out
      injection etb with etb
      injection etb with etb
      injection etb with etb _
      subst etb
      have HOK : Hid (OpsOk W2 tb I Q) := Lib.hid ⟨⟨m1, m2, htab⟩, hbd, HT.out.ext X2.out⟩
      obtain ⟨rb', tv, T, erb, hre, hfn, hbd2⟩ := HRF.out
      injection erb with erb
      injection erb with erb _
      subst erb
      clear htab hbd hre hfn hbd2 HOP HRF
      obtain ⟨P, hP⟩ : ∃ P, (⟨fun s => findO s I, fun s => findO s Q⟩ : Ops) = P := ⟨_, rfl⟩
      have HP := Lib.hid hP
      clear hP
      have HQA := fun (s' : ByteArray) (hs' : s'.size ≤ 60000) V (x : Ext W2 V) => Lib.hid (parseOne_any (s := s') (w := V) hs' (HG.out.ext (X2.out.trans x)) (HOK.out.ext x))
      rw [HP.out] at HQA
      have hsl : s.data.toList.length = s.size := by rw [Array.length_toList]; rfl
      have hsm := oneR_small (O := P) (B := s.data.toList ++ [32, 46]) (by simp; omega)
      have hbl := fun h => one_blanks (O := P) (A := s.data.toList) (by omega) h
      unfold ptT at hbl
      obtain ⟨Y, hY⟩ : ∃ Y, oneR P (s.data.toList ++ [32, 46]) = Y := ⟨_, rfl⟩
      obtain ⟨Z, hZ⟩ : ∃ Z, oneR P (layP ++ wdF s.data.toList ++ [32, 46]) = Z := ⟨_, rfl⟩
      have HPA := HQA s (by omega) W2 (Ext.refl _)
      rw [hY] at HPA hsm hbl
      rw [hZ] at hbl
      have HSM := Lib.hid hsm
      have HBL := Lib.hid hbl
      have HZZ := Lib.hid hZ
      clear hY hsm hbl hZ
      obtain ⟨r, y⟩ := Y
      have HP1 := Lib.hid (HPA.out.mono (fun e w' h => h.two))
      clear HPA
      dsimp only at HP1 HSM HBL
      go_upto_region 5 with (go_at_call 19; refine HP1.out.mono ?_; rintro e W3 ⟨a1, d1, n1, m1', rfl, hr, hx⟩; have HR1 := Lib.hid hr; have X3 := Lib.hid (X2.out.trans hx); have XR := Lib.hid hx; clear hr hx)
      have hxa := ext_box4 W3 (.cells #[.int .i64 (Tm.k r.t), .int .i64 (Tm.n r.t), .string (Tm.s r.t), .slice a1 (Tm.l r.t).length d1, .slice n1 r.ns.length m1', .int .i64 r.nx] 35)
      have B1 := Lib.hid (Blk.new W3 35 #[.int .i64 (Tm.k r.t), .int .i64 (Tm.n r.t), .string (Tm.s r.t), .slice a1 (Tm.l r.t).length d1, .slice n1 r.ns.length m1', .int .i64 r.nx])
      have R1 := Lib.hid (HR1.out.ext hxa)
      have X4 := Lib.hid (X3.out.trans hxa)
      have XB := Lib.hid (XR.out.trans hxa)
      clear hxa HP1
      generalize W3.alloc (.cells #[.int .i64 (Tm.k r.t), .int .i64 (Tm.n r.t), .string (Tm.s r.t), .slice a1 (Tm.l r.t).length d1, .slice n1 r.ns.length m1', .int .i64 r.nx] 35) = W4 at *
      generalize W3.heap.size = g7 at *
      have HWD := fun W => Lib.hid (wide_any s (by omega) W)
      have hwl := wdF_len s.data.toList
      have hQs : (⟨#[32, 47, 42, 32, 97, 44, 32, 98, 32, 42, 47, 32, 37, 32, 99, 10]⟩ ++ strB (wdF s.data.toList) : ByteArray).size ≤ 60000 := by
        rw [ByteArray.size_append, strB_size]
        have e1 : (⟨#[32, 47, 42, 32, 97, 44, 32, 98, 32, 42, 47, 32, 37, 32, 99, 10]⟩ : ByteArray).size = 16 := rfl
        omega
      have hQd : (⟨#[32, 47, 42, 32, 97, 44, 32, 98, 32, 42, 47, 32, 37, 32, 99, 10]⟩ ++ strB (wdF s.data.toList) : ByteArray).data.toList ++ [32, 46] = layP ++ wdF s.data.toList ++ [32, 46] := by
        simp [strB, layP]
      have HPQ := fun V (x : Ext W2 V) => HQA _ hQs V x
      rw [hQd, HZZ.out] at HPQ
      obtain ⟨r2, y2⟩ := Z
      dsimp only at HBL
      have HP2 := fun V (x : Ext W2 V) => Lib.hid ((HPQ V x).out.mono (fun e w' h => h.two))
      dsimp only at HP2
      have hF : (strB (wdF s.data.toList)).size ≤ 6000 := by rw [strB_size]; omega
      generalize strB (wdF s.data.toList) = F at *
      clear HPQ HQA hQd hQs hwl
      go_upto_region 6 with (first | (go_at_call 23; refine (HWD _).out.mono ?_; rintro e W5 ⟨rfl, x⟩; have X5 := Lib.hid (X4.out.trans x); have XW := Lib.hid (XB.out.trans x); have XL := Lib.hid x; clear x) | (go_at_call 19; refine (HP2 _ XW.out).out.mono ?_; rintro e W6 ⟨a2, d2, n2, m2', rfl, hr, hx⟩; have HR2 := Lib.hid hr; have X6 := Lib.hid (X5.out.trans hx); have XM := Lib.hid (XL.out.trans hx); clear hr hx))
      have hxb := ext_box4 W6 (.cells #[.int .i64 (Tm.k r2.t), .int .i64 (Tm.n r2.t), .string (Tm.s r2.t), .slice a2 (Tm.l r2.t).length d2, .slice n2 r2.ns.length m2', .int .i64 r2.nx] 35)
      have B2 := Lib.hid (Blk.new W6 35 #[.int .i64 (Tm.k r2.t), .int .i64 (Tm.n r2.t), .string (Tm.s r2.t), .slice a2 (Tm.l r2.t).length d2, .slice n2 r2.ns.length m2', .int .i64 r2.nx])
      have R2 := Lib.hid (HR2.out.ext hxb)
      have X7 := Lib.hid (X6.out.trans hxb)
      have XM7 := Lib.hid (XM.out.trans hxb)
      clear hxb HP2 HWD
      generalize W6.alloc (.cells #[.int .i64 (Tm.k r2.t), .int .i64 (Tm.n r2.t), .string (Tm.s r2.t), .slice a2 (Tm.l r2.t).length d2, .slice n2 r2.ns.length m2', .int .i64 r2.nx] 35) = W7 at *
      generalize W6.heap.size = g9 at *
      go_wp2_with (first | (go_at_call 12; refine (HLV _ X7.out).out.mono ?_; rintro e W8 ⟨rfl, x⟩; have X8 := Lib.hid (X7.out.trans x); have XL8 := Lib.hid x; clear x))
      go_loopw [11] (fun i wr => ∃ k : Nat, k ≤ s.size ∧ i = .int .i64 k ∧ Hid (Ext W8 wr) ∧ Hid (∀ c ∈ s.data.toList.take k, okC c)) (fun i _ => s.size + 1 - (intOf i).toNat)
      case atStart => exact ⟨0, Nat.zero_le _, rfl, Lib.hid (Ext.refl _), Lib.hid (by simp)⟩
      case round =>
        obtain ⟨k, hk, rfl, HR, HN⟩ := hrel
        by_cases hlt : k < s.size
        · have hg : s.data.toList[k]? = some (s[k]'hlt) := by
            rw [List.getElem?_eq_getElem (by rw [hsl]; exact hlt)]
            rfl
          have HGK := Lib.hid hg
          clear hg
          by_cases h1 : ((s[k]'hlt).toNat : Int) = 39
          · have q1 : (((s[k]'hlt).toNat : Int) == 39) = true := by rw [h1]; rfl
            clear h1
            go_wp2_with fail
            go_ret
            exact ⟨rfl, X8.out.trans HR.out⟩
          · have q1 : (((s[k]'hlt).toNat : Int) == 39) = false := by simpa using h1
            by_cases h2 : ((s[k]'hlt).toNat : Int) = 37
            · have q2 : (((s[k]'hlt).toNat : Int) == 37) = true := by rw [h2]; rfl
              clear h1 h2
              go_wp2_with fail
              go_ret
              exact ⟨rfl, X8.out.trans HR.out⟩
            · have q2 : (((s[k]'hlt).toNat : Int) == 37) = false := by simpa using h2
              by_cases h3 : ((s[k]'hlt).toNat : Int) = 47
              · have q3 : (((s[k]'hlt).toNat : Int) == 47) = true := by rw [h3]; rfl
                clear h1 h2 h3
                go_wp2_with fail
                go_ret
                exact ⟨rfl, X8.out.trans HR.out⟩
              · have q3 : (((s[k]'hlt).toNat : Int) == 47) = false := by simpa using h3
                have hok : okC (s[k]'hlt) := ⟨fun e => h1 (by rw [e]; rfl), fun e => h2 (by rw [e]; rfl), fun e => h3 (by rw [e]; rfl)⟩
                have HO := Lib.hid hok
                clear hok
                go_wp2_with fail
                go_roundw
                case rel =>
                  refine ⟨k + 1, hlt, by go_num, HR, Lib.hid fun u hu => ?_⟩
                  rw [List.take_add_one, HGK.out] at hu
                  rcases List.mem_append.1 hu with hu | hu
                  · exact HN.out u hu
                  · simp at hu
                    rw [hu]
                    exact HO.out
                case measure => simp [intOf]; omega
        · obtain rfl : k = s.size := by omega
          obtain ⟨e1, e2⟩ := HBL.out (fun c hc => HN.out c (by rw [← hsl, List.take_length]; exact hc))
          subst e2
          have XS := Lib.hid ((XM7.out.trans XL8.out).trans HR.out)
          have XT := Lib.hid (XL8.out.trans HR.out)
          have k1 := (B1.out.ext XS.out).cell
          have k2 := (B2.out.ext XT.out).cell
          have hex := exact_any _ r.t r2.t (Nat.le_refl _) (by have := HSM.out.sz; omega) a1 a2 d1 d2 _ _ _ (R1.out.tm.ext XS.out) (R2.out.tm.ext XT.out)
          rw [show exT r.t r2.t = true from by rw [e1]; exact exT_refl _] at hex
          unfold tmVal at hex
          have HEX := Lib.hid hex
          clear hex e1
          go_wp2_with (go_at_call 22; refine HEX.out.mono ?_; rintro e W10 ⟨rfl, x10⟩; have X10 := Lib.hid ((X8.out.trans HR.out).trans x10); clear x10)
          go_ret
          exact ⟨rfl, X10.out⟩
end Go.Proofs.YtgcdhffeacdegaaGreatDoor
