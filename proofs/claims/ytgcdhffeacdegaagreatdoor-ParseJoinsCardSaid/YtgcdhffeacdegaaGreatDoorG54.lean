/- Law 10: the walk of ParseJoins. -/
import Derived.Test.YtgcdhffeacdegaaGreatDoorG44
import Derived.Test.YtgcdhffeacdegaaGreatDoorG46
namespace Go.El
/-- Where a reading ends. -/
theorem clauseS_nx {O : Ops} {B : List UInt8} {i : Nat} (hi : i ≤ B.length) (hB : B.length ≤ 65536) (h : (clauseS O B i).2.2 = 0) : 0 ≤ (clauseS O B i).1.nx ∧ (clauseS O B i).1.nx ≤ B.length := by
  obtain ⟨r, k, x, hc⟩ : ∃ r k x, clauseS O B i = (r, k, x) := ⟨_, _, _, rfl⟩
  obtain ⟨k2, hk, _, hk2⟩ := clauseS_ok hi hB h
  rw [hc] at h hk ⊢
  simp only at h hk ⊢
  subst h
  obtain ⟨l, e, t, ns, _, _, rfl, he⟩ := clause_ct hc
  show 0 ≤ (e : Int) ∧ (e : Int) ≤ B.length
  omega
theorem allRN_nx {O : Ops} {B : List UInt8} (hB : B.length ≤ 65536) : ∀ (n : Nat) {i : Nat} {acc : List ReadV}, i ≤ B.length → (∀ r ∈ acc, 0 ≤ r.nx ∧ r.nx ≤ B.length) → ∀ r ∈ (allRN O n B i acc).1, 0 ≤ r.nx ∧ r.nx ≤ B.length
  | 0, _, _, _, h => h
  | n + 1, i, acc, hi, h => by
    simp only [allRN]
    split
    · next h0 =>
      obtain ⟨k, hk, h1, h2⟩ := clauseS_ok hi hB h0
      rw [hk, Int.toNat_natCast]
      refine allRN_nx hB n h2 (fun r hr => ?_)
      rcases List.mem_append.1 hr with hr | hr
      · exact h r hr
      · simp at hr
        subst hr
        exact clauseS_nx hi hB h0
    · split
      · exact h
      · exact h
end Go.El
namespace Go.Proofs.YtgcdhffeacdegaaGreatDoor
open Go.RowKit Go.El

theorem GathB.empty (X : World) : GathB X (X.alloc (.cells #[] 5)) (.slice (some ⟨X.heap.size, 0, none⟩) 0 0) [] := by
  refine ⟨World.ownsRow_lit X #[] 0 (Nat.zero_le _) (by unfold maxLen; omega) rfl, fun b hb => ?_, (Ext.refl X).alloc _⟩
  have e1 : X.heap.size = b := by simpa [Value.ownBlock] using hb
  omega
theorem GathB.cap_ {X w : World} {A : Option Addr} {n c : Nat} {F : List UInt8} (h : GathB X w (.slice A n c) F) : F.length ≤ c := by
  rcases h.own.2 with ⟨h1, h2⟩ | ⟨g', cap', cur, hv, _, _, hnc, _⟩
  · simp only [Value.slice.injEq] at h1
    omega
  · injection hv with _ _ hc
    subst hc
    exact hnc

set_option maxRecDepth 100000 in
set_option maxHeartbeats 16000000 in
theorem parseJoins_any (L : List OpV) (A0 : Option Addr) (c0 : Nat) (A : List UInt8) (Aa : Option Addr) (ca : Nat) (B : List UInt8) (Ab : Option Addr) (cb : Nat) (w : World) (hl : El.Src w A0 L.length 3 (flat opCells L)) (hL : L.length ≤ 9223372036854775807) (hg : ∀ o ∈ L, o.s.size ≤ 9223372036854775807) (h1 : BytesAt w Aa A) (hA : A.length ≤ 9223372036854775807) (hca : A.length ≤ ca) (h2 : BytesAt w Ab B) (hB : B.length ≤ 9223372036854775807) (hcb : B.length ≤ cb) (g : Glob w) (hT : TypesAt 0 w) :
    Calls Tryz.prog 8 #[.slice A0 L.length c0, .slice Aa A.length ca, .slice Ab B.length cb] w fun e w' => e = .returned (.bool true) ∧ Ext w w' := by
  obtain ⟨i1, hi1, hz0, hz1, hz2⟩ := infoP u8Info
  have H1 := Lib.hid h1
  have H2 := Lib.hid h2
  have HG := Lib.hid g
  have HT := Lib.hid hT
  have HLV := fun W (x : Ext w W) => Lib.hid (lives10_any W (g.ext x) (hT.ext x))
  have HTB := fun W (x : Ext w W) => Lib.hid (tables_any A0 c0 L W (hT.ext x) (hl.ext x) hL hg)
  by_cases hlg : LgO L
  · have HLG := Lib.hid (ops10Large_any A0 c0 L w hl hL hg true (iff_of_true rfl hlg))
    clear h1 h2 g hT hl hg hlg
    go_enter Tryz.func8, Tryz.ntmps8
    go_wp2_with (first | (go_at_call 11; refine HLG.out.mono ?_; rintro e W1 ⟨rfl, x1⟩; have X1 := Lib.hid x1; clear x1) | (go_at_call 12; refine (HLV _ X1.out).out.mono ?_; rintro e W2 ⟨rfl, x⟩; have X2 := Lib.hid (X1.out.trans x); clear x))
    go_ret
    exact ⟨rfl, X2.out⟩
  · have HLG := Lib.hid (ops10Large_any A0 c0 L w hl hL hg false (by simp [hlg]))
    clear h1 h2 g hT hl hg hlg
    by_cases hz1' : 1000 < A.length
    · go_enter Tryz.func8, Tryz.ntmps8
      go_wp2_with (first | (go_at_call 11; refine HLG.out.mono ?_; rintro e W1 ⟨rfl, x1⟩; have X1 := Lib.hid x1; clear x1) | (go_at_call 12; refine (HLV _ X1.out).out.mono ?_; rintro e W2 ⟨rfl, x⟩; have X2 := Lib.hid (X1.out.trans x); clear x))
      go_ret
      exact ⟨rfl, X2.out⟩
    by_cases hz2' : 1000 < B.length
    · go_enter Tryz.func8, Tryz.ntmps8
      go_wp2_with (first | (go_at_call 11; refine HLG.out.mono ?_; rintro e W1 ⟨rfl, x1⟩; have X1 := Lib.hid x1; clear x1) | (go_at_call 12; refine (HLV _ X1.out).out.mono ?_; rintro e W2 ⟨rfl, x⟩; have X2 := Lib.hid (X1.out.trans x); clear x))
      go_ret
      exact ⟨rfl, X2.out⟩
    go_enter Tryz.func8, Tryz.ntmps8
    go_upto_region 4 with (first | (go_at_call 11; refine HLG.out.mono ?_; rintro e W1 ⟨rfl, x1⟩; have X1 := Lib.hid x1; clear x1) | (go_at_call 13; refine (HTB _ X1.out).out.mono ?_; rintro e W2 ⟨tb, rb, I, Q, rfl, hop, hrf, x2⟩; have X2 := Lib.hid (X1.out.trans x2); have HOP := Lib.hid hop; have HRF := Lib.hid hrf; clear hop hrf x2))
    obtain ⟨tb', m1, m2, etb, htab, hbd⟩ := HOP.out
    injection etb with etb
    injection etb with etb
    injection etb with etb _
    subst etb
    have HOK : Hid (OpsOk W2 tb I Q) := Lib.hid ⟨⟨m1, m2, htab⟩, hbd, HT.out.ext X2.out⟩
    obtain ⟨rb', tv, T, erb, hre, hfn, hbd2⟩ := HRF.out
    injection erb with erb
    injection erb with erb _
    subst erb
    have HRE := Lib.hid hre
    have HFN := Lib.hid hfn
    have HBD := Lib.hid hbd2
    clear htab hbd hre hfn hbd2 HOP HRF
    obtain ⟨P, hP⟩ : ∃ P, (⟨fun s => findO s I, fun s => findO s Q⟩ : Ops) = P := ⟨_, rfl⟩
    have HP := Lib.hid hP
    clear hP
    obtain ⟨hsma, hlna⟩ := allR_small (O := P) (B := A) (by omega)
    obtain ⟨hsmb, hlnb⟩ := allR_small (O := P) (B := B) (by omega)
    have hnxb := allRN_nx (O := P) (B := B) (by omega) (B.length + 1) (i := 0) (acc := []) (Nat.zero_le _) (fun r hr => by simp at hr)
    have HPA := Lib.hid (pAllR (cap := ca) (H1.out.ext X2.out) (by omega) hca (HG.out.ext X2.out) HOK.out)
    have HPB := fun V (x : Ext W2 V) => Lib.hid (pAllR (cap := cb) (H2.out.ext (X2.out.trans x)) (by omega) hcb (HG.out.ext (X2.out.trans x)) (HOK.out.ext x))
    rw [HP.out] at HPA HPB
    obtain ⟨Y, hY⟩ : ∃ Y, allR P A = Y := ⟨_, rfl⟩
    obtain ⟨U, hU⟩ : ∃ U, allR P B = U := ⟨_, rfl⟩
    change ∀ r ∈ (allR P B).1, 0 ≤ r.nx ∧ r.nx ≤ B.length at hnxb
    rw [hY] at HPA hsma hlna
    rw [hU] at HPB hsmb hlnb hnxb
    have HYY := Lib.hid hY
    have HUU := Lib.hid hU
    have HSA := Lib.hid hsma
    have HSB := Lib.hid hsmb
    have HNX := Lib.hid hnxb
    clear hY hU hsma hsmb hnxb
    go_upto_region 5 with (go_at_call 17; refine HPA.out.mono ?_; rintro e W3 ⟨v1, M1, rfl, hm, hl⟩; obtain ⟨D1, e1, rfl⟩ := own_value hm.own; have HM1 := Lib.hid hm; have HL1 := Lib.hid hl; have X3 := Lib.hid (X2.out.trans hm.ext); have XA := Lib.hid hm.ext; clear hm hl HPA)
    have HPB2 := HPB _ XA.out
    clear HPB
    go_upto_region 6 with (go_at_call 17; refine HPB2.out.mono ?_; rintro e W4 ⟨v2, M2, rfl, hm, hl⟩; obtain ⟨D2, e2, rfl⟩ := own_value hm.own; have HM2 := Lib.hid hm; have HL2 := Lib.hid hl; have X4 := Lib.hid (X3.out.trans hm.ext); have XB := Lib.hid hm.ext; clear hm hl HPB2)
    have hjl := jn_len (A := A) (B := B)
    go_upto_region 7 with (first | (at_builtin; refine wpList_append_src (P := Tryz.prog) rfl (.tmp 53) (.tmp 54) 23 rfl 5 i1 _ 1 1 Tryz.underlying23 hi1 hz0 hz1 hz2 rfl (by omega) (.slice (some ⟨W4.heap.size, 0, none⟩) 0 0) rfl _ _ _ rfl 0 [] (GathB.empty W4 |>.own) (A.map u8V) (H1.out.ext (X4.out.trans ((Ext.refl W4).alloc _))) (u8_one A) (by (try simp only [List.length_append, List.length_cons, List.length_nil]); unfold maxLen; omega) (by (try simp only [List.length_append, List.length_cons, List.length_nil]); omega) ?_; intro v5 w5 ho hm hb; have HG5 := Lib.hid (GathB.step (G := A) (GathB.empty W4) (Ext.refl _) ho hm hb); clear ho hm hb) | (at_builtin; refine wpList_append_src (P := Tryz.prog) rfl (.tmp 55) (.tmp 56) 23 rfl 5 i1 _ 1 1 Tryz.underlying23 hi1 hz0 hz1 hz2 rfl (by omega) v5 rfl _ _ _ rfl A.length (A.map u8V) (own_ext HG5.out.own ((Ext.refl w5).alloc _)) [.int .u8 10] (El.Src.new _ #[.int .u8 10] _ 1 1 rfl) (u8_one [10]) (by (try simp only [List.length_append, List.length_cons, List.length_nil]); unfold maxLen; omega) (by (try simp only [List.length_append, List.length_cons, List.length_nil]); omega) ?_; intro v6 w6 ho hm hb; have HG6 := Lib.hid (GathB.step (G := [10]) HG5.out ((Ext.refl w5).alloc _) ho hm hb); clear ho hm hb) | (at_builtin; refine wpList_append_src (P := Tryz.prog) rfl (.tmp 57) (.tmp 58) 23 rfl 5 i1 _ 1 1 Tryz.underlying23 hi1 hz0 hz1 hz2 rfl (by omega) v6 rfl _ _ _ rfl (A ++ [10]).length ((A ++ [10]).map u8V) (HG6.out.own) (B.map u8V) (H2.out.ext (X4.out.trans HG6.out.ext)) (u8_one B) (by (try simp only [List.length_append, List.length_cons, List.length_nil]); unfold maxLen; omega) (by (try simp only [List.length_append, List.length_cons, List.length_nil]); omega) ?_; intro v7 w7 ho hm hb; have HG7 := Lib.hid (GathB.step (G := B) HG6.out (Ext.refl _) ho hm hb); clear ho hm hb))
    have hG := HG7.out
    rw [show [] ++ A ++ [10] ++ B = joinT A B from by simp [joinT]] at hG
    obtain ⟨J1, cj, rfl, hbj⟩ := hG.slice
    have X7 := Lib.hid (X4.out.trans hG.ext)
    have XG := Lib.hid hG.ext
    have hpj := pAllR hbj (by rw [jn_len]; omega) hG.cap_ (HG.out.ext X7.out) (HOK.out.ext ((XA.out.trans XB.out).trans hG.ext))
    rw [HP.out] at hpj
    have HPJ := Lib.hid hpj
    clear hG hbj hpj HG5 HG6 HG7
    refine HPJ.out.mono ?_
    rintro e W8 ⟨v3, M3, rfl, hm, hl⟩
    obtain ⟨D3, e3, rfl⟩ := own_value hm.own
    have HM3 := Lib.hid hm
    have HL3 := Lib.hid hl
    have X8 := Lib.hid (X7.out.trans hm.ext)
    have XC := Lib.hid (XG.out.trans hm.ext)
    clear hm hl HPJ
    go_upto_region 7 with fail
    obtain ⟨xs, n, ea⟩ := Y
    obtain ⟨ys, m, eb⟩ := U
    dsimp only at HL1 HL2 HSA HSB HNX hlna hlnb ⊢
    by_cases hea : ea = 0
    · by_cases heb : eb = 0
      · subst hea heb
        have hj := all_join (O := P) (A := A) (B := B) (by omega) (by omega) HYY.out HUU.out
        have hna := (jn_all1 (O := P) (A := A) (B := B) (by omega) (by omega) (show rtF P B 0 [] = _ from HUU.out) _ 0 [] xs n (Nat.le_refl _) (Nat.zero_le _) HYY.out).1
        have hnb := (jn_all1 (O := P) (A := B) (B := B) (by omega) (by omega) (show rtF P B 0 [] = _ from HUU.out) _ 0 [] ys m (Nat.le_refl _) (Nat.zero_le _) HUU.out).1
        rw [hj] at HL3 ⊢
        have HL3' := Lib.hid HL3.out
        dsimp only at HL3'
        clear HL3
        have hn1 : M1.length = xs.length := by rw [← HL1.out]; simp
        have hn2 : M2.length = ys.length := by rw [← HL2.out]; simp
        have hn3 : M3.length = xs.length + ys.length := by rw [show M3.length = (M3.map (·.1)).length from by simp, HL3'.out]; simp
        subst hna hnb
        have w1 : IntKind.i64.wrap ((A.length : Int) + 1) = (A.length : Int) + 1 := IntWalk.i64_in _ (by omega)
        have w2 : IntKind.i64.wrap ((A.length : Int) + 1 + (B.length : Int)) = (A.length : Int) + 1 + (B.length : Int) := IntWalk.i64_in _ (by omega)
        have w3 : IntKind.i64.wrap ((M1.length : Int) + (M2.length : Int)) = (M1.length : Int) + (M2.length : Int) := IntWalk.i64_in _ (by omega)
        have w4 : ((M3.length : Int) == (M1.length : Int) + (M2.length : Int)) = true := by rw [hn1, hn2, hn3]; simp
        have w5 : ((M3.length : Int) != (M1.length : Int) + (M2.length : Int)) = false := by rw [hn1, hn2, hn3]; simp
        have HN1 := Lib.hid hn1
        have HN2 := Lib.hid hn2
        have HN3 := Lib.hid hn3
        clear hj hn1 hn2 hn3
        go_upto_region 9 with (go_at_call 12; refine (HLV _ X8.out).out.mono ?_; rintro e W9 ⟨rfl, x⟩; have X9 := Lib.hid (X8.out.trans x); have XL9 := Lib.hid x; clear x)
        go_upto_region 11 with fail
        clear w1 w2 w3 w4 w5
        go_wp2_with fail
        go_loopw [18] (fun i wr => ∃ k : Nat, k ≤ M3.length ∧ i = .int .i64 k ∧ Hid (Ext W9 wr)) (fun i _ => M3.length + 1 - (intOf i).toNat)
        case atStart => exact ⟨0, Nat.zero_le _, rfl, Lib.hid (Ext.refl _)⟩
        case round =>
          obtain ⟨k, hk, rfl, HR⟩ := hrel
          have hm3 : M3.length ≤ 10000 := by have := HN3.out; omega
          by_cases hlt : k < M3.length
          · obtain ⟨p3, hp3⟩ : ∃ p3, M3[k]? = some p3 := ⟨_, List.getElem?_eq_getElem hlt⟩
            obtain ⟨r3, a3, d3, n3, m3'⟩ := p3
            have hr3 : (xs ++ ys.map fun r => ({ r with nx := r.nx + (A.length : Int) + 1 } : ReadV))[k]? = some r3 := by rw [← HL3'.out, List.getElem?_map, hp3]; rfl
            have xc := XL9.out.trans HR.out
            have hq3 : (k : Int) < (M3.length : Int) := by omega
            by_cases hlo : k < M1.length
            · obtain ⟨p1, hp1⟩ : ∃ p1, M1[k]? = some p1 := ⟨_, List.getElem?_eq_getElem hlo⟩
              obtain ⟨r, a1, d1, n1, m1'⟩ := p1
              have hr1 : xs[k]? = some r := by rw [← HL1.out, List.getElem?_map, hp1]; rfl
              obtain rfl : r3 = r := by
                have hkx : k < xs.length := (List.getElem?_eq_some_iff.1 hr1).1
                rw [List.getElem?_append_left hkx] at hr3
                exact Option.some.inj (hr3.symm.trans hr1)
              have xa := ((XB.out.trans XC.out).trans XL9.out).trans HR.out
              have HSS := fun V (x : Ext wr V) => Lib.hid (same_read r3 a3 a1 n3 n1 d3 d1 m3' m1' V _ _ (((HM3.out.kid _ (List.mem_of_getElem? hp3)).ext xc).ext x) (((HM1.out.kid _ (List.mem_of_getElem? hp1)).ext xa).ext x) (HSA.out r3 (List.mem_of_getElem? hr1)))
              obtain ⟨b, off, rfl, e0, e1, e2, e3, e4, e5⟩ := rd_cells ((Src.of_own HM3.out.own).ext xc) hp3
              obtain ⟨b', off', rfl, g0, g1, g2, g3, g4, g5⟩ := rd_cells ((Src.of_own HM1.out.own).ext xa) hp1
              have hq1 : (k : Int) < (M1.length : Int) := by omega
              clear hp3 hp1 hr3 hr1 xa xc
              go_upto_region 15 with fail
              go_region_law ((go_simp; go_at_call 16; refine (HSS _ (Ext.refl _).drew).out.mono ?_; rintro e W10 ⟨rfl, x6⟩; have X10 := Lib.hid (HR.out.trans ((Ext.refl _).drew.trans x6)); clear x6))
              all_goals
                go_wp2_with fail
                go_roundw
                case rel => exact ⟨k + 1, hlt, by go_num, X10⟩
                case measure => simp [intOf]; omega
            · obtain ⟨j, hkj⟩ : ∃ j, k = M1.length + j := ⟨k - M1.length, by omega⟩
              have hj : j < M2.length := by have h1 := HN1.out; have h2 := HN2.out; have h3 := HN3.out; omega
              obtain ⟨p2, hp2⟩ : ∃ p2, M2[j]? = some p2 := ⟨_, List.getElem?_eq_getElem hj⟩
              obtain ⟨r, a1, d1, n1, m1'⟩ := p2
              have hr2 : ys[j]? = some r := by rw [← HL2.out, List.getElem?_map, hp2]; rfl
              obtain rfl : r3 = { r with nx := r.nx + (A.length : Int) + 1 } := by
                rw [List.getElem?_append_right (by have := HN1.out; omega), show k - xs.length = j from by have := HN1.out; omega, List.getElem?_map, hr2] at hr3
                exact (Option.some.inj hr3).symm
              have hnx := HNX.out r (List.mem_of_getElem? hr2)
              have xb := (XC.out.trans XL9.out).trans HR.out
              have hsm := HSB.out r (List.mem_of_getElem? hr2)
              have HK2 := Lib.hid ((HM2.out.kid _ (List.mem_of_getElem? hp2)).ext xb)
              have HK3 := Lib.hid ((HM3.out.kid _ (List.mem_of_getElem? hp3)).ext xc)
              have HSS := fun V (x : Ext wr V) => Lib.hid (show Calls Tryz.prog 16 #[.agg #[.int .i64 (Tm.k r.t), .int .i64 (Tm.n r.t), .string (Tm.s r.t), .slice a3 (Tm.l r.t).length d3, .slice n3 r.ns.length m3', .int .i64 (r.nx + (A.length : Int) + 1)], .agg #[.int .i64 (Tm.k r.t), .int .i64 (Tm.n r.t), .string (Tm.s r.t), .slice a1 (Tm.l r.t).length d1, .slice n1 r.ns.length m1', .int .i64 (r.nx + (A.length : Int) + 1)]] V (fun e w' => e = .returned (.bool true) ∧ Ext V w') from same_read { r with nx := r.nx + (A.length : Int) + 1 } a3 a1 n3 n1 d3 d1 m3' m1' V _ _ (HK3.out.ext x) (RdIn.ext ⟨HK2.out.tm, HK2.out.ns, HK2.out.cap, HK2.out.blk⟩ x) ⟨hsm.ns, hsm.sz⟩)
              obtain ⟨b, off, rfl, e0, e1, e2, e3, e4, e5⟩ := rd_cells ((Src.of_own HM3.out.own).ext xc) hp3
              dsimp only at e0 e1 e2 e3 e4 e5
              obtain ⟨b', off', rfl, g0, g1, g2, g3, g4, g5⟩ := rd_cells ((Src.of_own HM2.out.own).ext xb) hp2
              have q0 : (0 : Int) ≤ (k : Int) - (M1.length : Int) := by omega
              have q1 : (k : Int) - (M1.length : Int) < (M2.length : Int) := by omega
              have q2 : ((k : Int) - (M1.length : Int)).toNat = j := by omega
              have q3 : IntKind.i64.wrap ((k : Int) - (M1.length : Int)) = (k : Int) - (M1.length : Int) := IntWalk.i64_in _ (by omega)
              have q4 : IntKind.i64.wrap (r.nx + (A.length : Int)) = r.nx + (A.length : Int) := IntWalk.i64_in _ (by omega)
              have q5 : IntKind.i64.wrap (r.nx + (A.length : Int) + 1) = r.nx + (A.length : Int) + 1 := IntWalk.i64_in _ (by omega)
              have hbl : b < wr.heap.size := cell_lt e0
              have XQ := Lib.hid (ext_box4 wr (.cells #[.int .i64 (Tm.k r.t), .int .i64 (Tm.n r.t), .string (Tm.s r.t), .slice a1 (Tm.l r.t).length d1, .slice n1 r.ns.length m1', .int .i64 r.nx] 35))
              have BQ := Lib.hid (Blk.new wr 35 #[.int .i64 (Tm.k r.t), .int .i64 (Tm.n r.t), .string (Tm.s r.t), .slice a1 (Tm.l r.t).length d1, .slice n1 r.ns.length m1', .int .i64 r.nx])
              clear hp3 hp2 hr3 hr2 xb xc hsm hkj
              go_upto_region 18 with fail
              have f0 := XQ.out.cell e0
              have f1 := XQ.out.cell e1
              have f2 := XQ.out.cell e2
              have f3 := XQ.out.cell e3
              have f4 := XQ.out.cell e4
              have f5 := XQ.out.cell e5
              clear e0 e1 e2 e3 e4 e5 g0 g1 g2 g3 g4 g5
              have hne : ¬ b = wr.heap.size := by omega
              generalize wr.alloc (.cells #[.int .i64 (Tm.k r.t), .int .i64 (Tm.n r.t), .string (Tm.s r.t), .slice a1 (Tm.l r.t).length d1, .slice n1 r.ns.length m1', .int .i64 r.nx] 35) = V1 at *
              have k5 := BQ.out.cell
              have z5 := BQ.out.frozen
              go_upto_region 19 with fail
              have hxs : Ext wr (V1.setCell ⟨wr.heap.size, 5, none⟩ (.int .i64 (r.nx + (A.length : Int) + 1))) := XQ.out.setCell (p := ⟨wr.heap.size, 5, none⟩) (Nat.le_refl _) _
              have BS := Lib.hid (BQ.out.set_ 5 (.int .i64 (r.nx + (A.length : Int) + 1)))
              have hfar : ∀ (o : Nat) (u : Value), V1.cell? ⟨b, o, none⟩ = some u → (V1.setCell ⟨wr.heap.size, 5, none⟩ (.int .i64 (r.nx + (A.length : Int) + 1))).cell? ⟨b, o, none⟩ = some u := fun o u h => (cell_set_ne (p := ⟨wr.heap.size, 5, none⟩) (q := ⟨b, o, none⟩) (by simpa using fun e => hne e.symm)).trans h
              have s0 := hfar _ _ f0
              have s1 := hfar _ _ f1
              have s2 := hfar _ _ f2
              have s3 := hfar _ _ f3
              have s4 := hfar _ _ f4
              have s5 := hfar _ _ f5
              have HXS := Lib.hid hxs
              clear f0 f1 f2 f3 f4 f5 k5 z5 hfar hxs
              generalize V1.setCell ⟨wr.heap.size, 5, none⟩ (.int .i64 (r.nx + (A.length : Int) + 1)) = V2 at *
              have k6 := BS.out.cell
              go_region_law ((go_simp; go_at_call 16; refine (HSS _ HXS.out.drew).out.mono ?_; rintro e W10 ⟨rfl, x6⟩; have X10 := Lib.hid (HR.out.trans (HXS.out.drew.trans x6)); clear x6))
              all_goals
                go_wp2_with fail
                go_roundw
                case rel => exact ⟨k + 1, hlt, by go_num, X10⟩
                case measure => simp [intOf]; omega
          · go_wp2_with fail
            go_ret
            exact ⟨rfl, X9.out.trans HR.out⟩
      · have e0 : (eb != 0) = true := by simpa using heb
        subst hea
        clear heb
        go_wp2_with (first | (go_at_call 12; refine (HLV _ X8.out).out.mono ?_; rintro e W9 ⟨rfl, x⟩; have X9 := Lib.hid (X8.out.trans x); have XL9 := Lib.hid x; clear x) | (go_at_call 12; refine (HLV _ X9.out).out.mono ?_; rintro e W10 ⟨rfl, x⟩; have X10 := Lib.hid (X9.out.trans x); have XL10 := Lib.hid x; clear x))
        go_ret
        exact ⟨rfl, X10.out⟩
    · have e0 : (ea != 0) = true := by simpa using hea
      clear hea
      go_wp2_with (first | (go_at_call 12; refine (HLV _ X8.out).out.mono ?_; rintro e W9 ⟨rfl, x⟩; have X9 := Lib.hid (X8.out.trans x); have XL9 := Lib.hid x; clear x) | (go_at_call 12; refine (HLV _ X9.out).out.mono ?_; rintro e W10 ⟨rfl, x⟩; have X10 := Lib.hid (X9.out.trans x); have XL10 := Lib.hid x; clear x))
      go_ret
      exact ⟨rfl, X10.out⟩
end Go.Proofs.YtgcdhffeacdegaaGreatDoor
