/- Layer 10, the reference: the walk of All. -/
import Derived.Test.YtgcdhffeacdegaaGreatDoorC51
import Derived.Test.YtgcdhffeacdegaaGreatDoorC37
import Derived.Test.YtgcdhffeacdegaaGreatDoorC39
import Derived.Test.YtgcdhffeacdegaaGreatDoorCards
import Derived.Test.YtgcdhffeacdegaaGreatDoorTie
import Derived.Lay
import Derived.Lib.LaidTab
import Derived.Shelf.Vars
import Derived.MakeChecks
namespace Go.Proofs.YtgcdhffeacdegaaGreatDoor
open Go.RowKit Go.El

set_option maxRecDepth 100000 in
set_option maxHeartbeats 4000000 in
theorem rAllR {A : Option Addr} {cap : Nat} {B : List UInt8} {tb : Nat} {w : World} (h : BytesAt w A B) (hB : B.length ≤ 65536) (hcap : B.length ≤ cap) {I Q T : List OpV} {tv : Value} (hr : RefAt 70 w tb tv T) (hf : ∀ s, findR s false T = findO s I ∧ findR s true T = findO s Q) (hbd : ∀ p : OpV, p ∈ I ∨ p ∈ Q → -1000000 ≤ p.p ∧ p.p ≤ 1000000) :
    Calls Tryz.prog 18 #[.slice A B.length cap, .pointer (some ⟨tb, 0, none⟩)] w (AllPost w (allR ⟨fun s => findO s I, fun s => findO s Q⟩ B)) := by
  obtain ⟨i1, hi1, hz0, hz1, hz2⟩ := infoP rdInfo
  have H := Lib.hid h
  have O := Lib.hid hr
  have HF := Lib.hid hf
  have HBD := Lib.hid hbd
  obtain ⟨P, hP⟩ : ∃ P, (⟨fun s => findO s I, fun s => findO s Q⟩ : Ops) = P := ⟨_, rfl⟩
  have HP := Lib.hid hP
  rw [hP]
  obtain ⟨X, hX⟩ : ∃ X, allR P B = X := ⟨_, rfl⟩
  rw [hX]
  have HX : Hid (∃ n, B.length + 1 - 0 ≤ n ∧ allRN P n B 0 [] = X) := Lib.hid ⟨_, Nat.le_refl _, hX⟩
  clear h hr hf hbd hX hP
  go_enter Tryz.func18, Tryz.ntmps18
  go_wp2_with fail
  go_loopw [7, 8] (fun v i wr => ∃ k : Nat, ∃ M : List RdP, k ≤ B.length ∧ M.length ≤ k ∧ i = .int .i64 k ∧ Hid (RdsAt w wr v M) ∧ Hid (∃ n, B.length + 1 - k ≤ n ∧ allRN P n B k (M.map (·.1)) = X)) (fun _ i _ => B.length - (intOf i).toNat)
  case atStart => exact ⟨0, [], Nat.zero_le _, Nat.zero_le _, rfl, Lib.hid (RdsAt.start w), HX⟩
  case round =>
    obtain ⟨k, M, hk, hak, rfl, HG, HS⟩ := hrel
    obtain ⟨A1, c1, rfl⟩ := own_value HG.out.own
    have hB1 : B.length ≤ 65536 := hB
    · obtain ⟨r, e, x, hsc⟩ : ∃ r e x, clauseS P B k = (r, e, x) := ⟨_, _, _, rfl⟩
      have HC := Lib.hid ((rClause_any (i := k) (H.out.ext HG.out.ext) hk hB hcap (O.out.ext HG.out.ext) HF.out HBD.out).mono fun _ _ h => h.two (r := r) (k := e) (x := x) (by rw [HP.out]; exact hsc))
      obtain ⟨g0, g4, gx⟩ := allRN_step hsc hk hB HS.out
      clear hsc HS
      by_cases h0 : x = 0
      · obtain ⟨j, rfl, hj1, hj2, hj3⟩ := g0 h0
        subst h0
        have HJ := Lib.hid hj3
        clear g0 g4 gx hj3
        go_wp2_with (first | (go_at_call 15; refine HC.out.mono ?_; rintro e1 w' ⟨Ar, cr, nr, qr, rfl, hr, hx⟩; have kx := Lib.hid hx; have kr := Lib.hid hr; clear hx hr) | (at_builtin; refine wpList_append_src (P := Tryz.prog) rfl _ _ 42 rfl 35 i1 _ 6 88 Tryz.underlying42 hi1 hz0 hz1 hz2 rfl (by omega) _ rfl _ _ _ rfl M.length (flat rdC M) (own_ext HG.out.own ((kx.out.alloc _).alloc _)) (rdC (r, Ar, cr, nr, qr)) (src_newR _ _ (r, Ar, cr, nr, qr)) (rdC_one _) (by unfold maxLen; omega) (by omega) ?_; intro v3 w3 ho3 hm3 hb3; have hG3 := Lib.hid (RdsAt.push (HG.out.go kx.out) (p := (r, Ar, cr, nr, qr)) (RdIn.mods (Mods.refl [] _) (fun _ _ => by simp) (fun b hb => ⟨Nat.le_trans HG.out.ext.size hb.1, hb.2, fun e => by have := own_lt HG.out.own e; omega⟩) kr.out) ((Ext.refl _).alloc _ |>.alloc _) ho3 hm3 hb3); obtain ⟨A3, c3, rfl⟩ := own_value ho3; clear ho3 hm3 hb3))
        go_roundw
        case rel => exact ⟨j, M ++ [(r, Ar, cr, nr, qr)], hj2, by simp; omega, rfl, by have := hG3.out; simpa using Lib.hid this, Lib.hid (by have := HJ.out; simpa using this)⟩
        case measure => simp [intOf]; omega
      · by_cases h4 : x = 4
        · have hX := g4 h4
          subst h4
          subst hX
          clear g0 g4 gx h0
          go_wp2_with (go_at_call 15; refine HC.out.mono ?_; rintro e1 w' ⟨Ar, cr, nr, qr, rfl, hr, hx⟩; have kx := Lib.hid hx; clear hx hr)
          go_ret3
          exact ⟨_, M, rfl, HG.out.go (kx.out.alloc _), rfl⟩
        · have hX := gx h0 h4
          subst hX
          have e0 : (x == 0) = false := by simpa using h0
          have e4 : (x == 4) = false := by simpa using h4
          clear g0 g4 gx h0 h4
          go_wp2_with (go_at_call 15; refine HC.out.mono ?_; rintro e1 w' ⟨Ar, cr, nr, qr, rfl, hr, hx⟩; have kx := Lib.hid hx; clear hx hr)
          go_ret3
          exact ⟨_, M, rfl, HG.out.go (kx.out.alloc _), rfl⟩
end Go.Proofs.YtgcdhffeacdegaaGreatDoor

/- Law 10: the walks of ParseAll and ParseOne. -/
namespace Go.Proofs.YtgcdhffeacdegaaGreatDoor
open Go.RowKit Go.El

theorem rd_cells {w : World} {A : Option Addr} {M : List RdP} (h : El.Src w A M.length 6 (flat rdC M)) {k : Nat} {r : ReadV} {a n : Option Addr} {c m : Nat} (hk : M[k]? = some (r, a, c, n, m)) : ∃ b off, A = some ⟨b, off, none⟩ ∧ w.cell? ⟨b, off + k * 6, none⟩ = some (.int .i64 (Tm.k r.t)) ∧ w.cell? ⟨b, off + k * 6 + 1, none⟩ = some (.int .i64 (Tm.n r.t)) ∧ w.cell? ⟨b, off + k * 6 + 2, none⟩ = some (.string (Tm.s r.t)) ∧ w.cell? ⟨b, off + k * 6 + 3, none⟩ = some (.slice a (Tm.l r.t).length c) ∧ w.cell? ⟨b, off + k * 6 + 4, none⟩ = some (.slice n r.ns.length m) ∧ w.cell? ⟨b, off + k * 6 + 5, none⟩ = some (.int .i64 r.nx) := by
  have hlt : k < M.length := (List.getElem?_eq_some_iff.1 hk).1
  obtain ⟨b, off, rfl, hc⟩ := El.Src.form h (by omega) (by omega)
  exact ⟨b, off, rfl, hc (k * 6) _ (flat_at rdC_len M k 0 _ hk (by omega)), hc (k * 6 + 1) _ (flat_at rdC_len M k 1 _ hk (by omega)), hc (k * 6 + 2) _ (flat_at rdC_len M k 2 _ hk (by omega)), hc (k * 6 + 3) _ (flat_at rdC_len M k 3 _ hk (by omega)), hc (k * 6 + 4) _ (flat_at rdC_len M k 4 _ hk (by omega)), hc (k * 6 + 5) _ (flat_at rdC_len M k 5 _ hk (by omega))⟩
theorem RdIn.ext {D : Nat → Prop} {w w' : World} {p : RdP} (h : RdIn D w p) (x : Ext w w') : RdIn D w' p := RdIn.mods (Mods.ext (S := []) x) (fun _ _ => by simp) (fun _ hk => hk) h

set_option maxRecDepth 100000 in
set_option maxHeartbeats 8000000 in
theorem parseAll_any (L : List OpV) (A0 : Option Addr) (c0 : Nat) (B : List UInt8) (A : Option Addr) (cap : Nat) (w : World) (hl : El.Src w A0 L.length 3 (flat opCells L)) (hL : L.length ≤ 9223372036854775807) (hg : ∀ o ∈ L, o.s.size ≤ 9223372036854775807) (h : BytesAt w A B) (hB : B.length ≤ 9223372036854775807) (hcap : B.length ≤ cap) (g : Glob w) (hT : TypesAt 0 w) :
    Calls Tryz.prog 4 #[.slice A0 L.length c0, .slice A B.length cap] w fun e w' => e = .returned (.bool true) ∧ Ext w w' := by
  have H := Lib.hid h
  have HG := Lib.hid g
  have HT := Lib.hid hT
  have HLV := fun W (x : Ext w W) => Lib.hid (lives10_any W (g.ext x) (hT.ext x))
  have HTB := fun W (x : Ext w W) => Lib.hid (tables_any A0 c0 L W (hT.ext x) (hl.ext x) hL hg)
  by_cases hlg : LgO L
  · have HLG := Lib.hid (ops10Large_any A0 c0 L w hl hL hg true (iff_of_true rfl hlg))
    clear h g hT hl hg hlg
    go_enter Tryz.func4, Tryz.ntmps4
    go_wp2_with (first | (go_at_call 11; refine HLG.out.mono ?_; rintro e W1 ⟨rfl, x1⟩; have X1 := Lib.hid x1; clear x1) | (go_at_call 12; refine (HLV _ X1.out).out.mono ?_; rintro e W2 ⟨rfl, x⟩; have X2 := Lib.hid (X1.out.trans x); clear x))
    go_ret
    exact ⟨rfl, X2.out⟩
  · have HLG := Lib.hid (ops10Large_any A0 c0 L w hl hL hg false (by simp [hlg]))
    clear h g hT hl hg hlg
    by_cases hz : 2000 < B.length
    · go_enter Tryz.func4, Tryz.ntmps4
      go_wp2_with (first | (go_at_call 11; refine HLG.out.mono ?_; rintro e W1 ⟨rfl, x1⟩; have X1 := Lib.hid x1; clear x1) | (go_at_call 12; refine (HLV _ X1.out).out.mono ?_; rintro e W2 ⟨rfl, x⟩; have X2 := Lib.hid (X1.out.trans x); clear x))
      go_ret
      exact ⟨rfl, X2.out⟩
    · go_enter Tryz.func4, Tryz.ntmps4
      go_upto_region 4 with (first | (go_at_call 11; refine HLG.out.mono ?_; rintro e W1 ⟨rfl, x1⟩; have X1 := Lib.hid x1; clear x1) | (go_at_call 13; refine (HTB _ X1.out).out.mono ?_; rintro e W2 ⟨tb, rb, I, Q, rfl, hop, hrf, x2⟩; have X2 := Lib.hid (X1.out.trans x2); have HOP := Lib.hid hop; have HRF := Lib.hid hrf; clear hop hrf x2))
      obtain ⟨tb', m1, m2, etb, htab, hbd⟩ := HOP.out
      injection etb with etb
      injection etb with etb
      injection etb with etb _
      subst etb
      have HOK : Hid (OpsOk W2 tb I Q) := Lib.hid ⟨⟨m1, m2, htab⟩, hbd, HT.out.ext X2.out⟩
      obtain ⟨rb', tv, T, erb, hre, hfn, hbd2⟩ := HRF.out
      injection erb with erb
      injection erb with erb _
      subst erb
      have HRE := Lib.hid hre
      have HFN := Lib.hid hfn
      have HBD := Lib.hid hbd2
      clear htab hbd hre hfn hbd2 HOP HRF
      obtain ⟨P, hP⟩ : ∃ P, (⟨fun s => findO s I, fun s => findO s Q⟩ : Ops) = P := ⟨_, rfl⟩
      have HP := Lib.hid hP
      clear hP
      have HPA := Lib.hid (pAllR (cap := cap) (H.out.ext X2.out) (by omega) hcap (HG.out.ext X2.out) HOK.out)
      rw [HP.out] at HPA
      obtain ⟨hsm, hln⟩ := allR_small (O := P) (B := B) (by omega)
      obtain ⟨Y, hY⟩ : ∃ Y, allR P B = Y := ⟨_, rfl⟩
      rw [hY] at HPA hsm hln
      have HYY := Lib.hid hY
      have HSM := Lib.hid hsm
      clear hY hsm
      go_upto_region 5 with (go_at_call 17; refine HPA.out.mono ?_; rintro e W3 ⟨v1, M1, rfl, hm, hl⟩; obtain ⟨A1, c1, rfl⟩ := own_value hm.own; have HM1 := Lib.hid hm; have HL1 := Lib.hid hl; have X3 := Lib.hid (X2.out.trans hm.ext); have XR := Lib.hid hm.ext; clear hm hl)
      have HRA := Lib.hid (rAllR (cap := cap) (H.out.ext X3.out) (by omega) hcap (HRE.out.ext XR.out) HFN.out HBD.out)
      rw [HP.out, HYY.out] at HRA
      go_upto_region 6 with (go_at_call 18; refine HRA.out.mono ?_; rintro e W4 ⟨v2, M2, rfl, hm, hl⟩; obtain ⟨A2, c2, rfl⟩ := own_value hm.own; have HM2 := Lib.hid hm; have HL2 := Lib.hid hl; have X4 := Lib.hid (X3.out.trans hm.ext); have XS := Lib.hid hm.ext; clear hm hl)
      have hn1 : M1.length = Y.1.length := by rw [← HL1.out]; simp
      have hn2 : M2.length = Y.1.length := by rw [← HL2.out]; simp
      have hnn : ((M1.length : Int) != (M2.length : Int)) = false := by rw [hn1, hn2]; simp
      have hnn2 : ((M1.length : Int) == (M2.length : Int)) = true := by rw [hn1, hn2]; simp
      have HN := Lib.hid (show M1.length = M2.length from by rw [hn1, hn2])
      have hn3 : M1.length ≤ 70000 := by omega
      clear hn1 hn2
      go_upto_region 8 with (go_at_call 12; refine (HLV _ X4.out).out.mono ?_; rintro e W5 ⟨rfl, x⟩; have XL := Lib.hid x; have X5 := Lib.hid (X4.out.trans x); clear x)
      clear hnn hnn2
      have XT : Hid (Ext W4 W5) := Lib.hid XL.out
      go_wp2_with fail
      go_loopw [13] (fun i wr => ∃ k : Nat, k ≤ M1.length ∧ i = .int .i64 k ∧ Hid (Ext W5 wr)) (fun i _ => M1.length + 1 - (intOf i).toNat)
      case atStart => exact ⟨0, Nat.zero_le _, rfl, Lib.hid (Ext.refl _)⟩
      case round =>
        obtain ⟨k, hk, rfl, HR⟩ := hrel
        by_cases hlt : k < M1.length
        · have hlt2 : k < M2.length := by have := HN.out; omega
          obtain ⟨p, hp⟩ : ∃ p, M1[k]? = some p := ⟨_, List.getElem?_eq_getElem hlt⟩
          obtain ⟨p2, hp2⟩ : ∃ p2, M2[k]? = some p2 := ⟨_, List.getElem?_eq_getElem hlt2⟩
          obtain ⟨r, a1, d1, n1, m1'⟩ := p
          obtain ⟨r2, a2, d2, n2, m2'⟩ := p2
          have hr1 : Y.1[k]? = some r := by rw [← HL1.out, List.getElem?_map, hp]; rfl
          have hr2 : Y.1[k]? = some r2 := by rw [← HL2.out, List.getElem?_map, hp2]; rfl
          obtain rfl : r = r2 := Option.some.inj (hr1.symm.trans hr2)
          have xa := (XS.out.trans XT.out).trans HR.out
          have xb := XT.out.trans HR.out
          have HSS := fun V (x : Ext wr V) => Lib.hid (same_read r a1 a2 n1 n2 d1 d2 m1' m2' V _ _ (((HM1.out.kid _ (List.mem_of_getElem? hp)).ext xa).ext x) (((HM2.out.kid _ (List.mem_of_getElem? hp2)).ext xb).ext x) (HSM.out r (List.mem_of_getElem? hr1)))
          obtain ⟨b, off, rfl, e0, e1, e2, e3, e4, e5⟩ := rd_cells ((Src.of_own HM1.out.own).ext xa) hp
          obtain ⟨b', off', rfl, g0, g1, g2, g3, g4, g5⟩ := rd_cells ((Src.of_own HM2.out.own).ext xb) hp2
          have hq1 : (k : Int) < (M1.length : Int) := by omega
          have hq2 : (k : Int) < (M2.length : Int) := by omega
          clear hp hp2 hr1 hr2 xa xb
          go_upto_region 11 with fail
          go_region_law ((go_simp; go_at_call 16; refine (HSS _ (Ext.refl _).drew).out.mono ?_; rintro e W6 ⟨rfl, x6⟩; have X6 := Lib.hid (HR.out.trans ((Ext.refl _).drew.trans x6)); clear x6))
          all_goals
            go_wp2_with fail
            go_roundw
            case rel => exact ⟨k + 1, hlt, by go_num, X6⟩
            case measure => simp [intOf]; omega
        · go_wp2_with fail
          go_ret
          exact ⟨rfl, X5.out.trans HR.out⟩

theorem OnePost.two {w w' : World} {X : ReadV × Int} {e : Ending} (h : OnePost w X e w') : ∃ A c n q, e = .returned (.tuple #[.agg #[.int .i64 (Tm.k X.1.t), .int .i64 (Tm.n X.1.t), .string (Tm.s X.1.t), .slice A (Tm.l X.1.t).length c, .slice n X.1.ns.length q, .int .i64 X.1.nx], .int .i64 X.2]) ∧ RdIn (fun b => w.heap.size ≤ b ∧ b < w'.heap.size) w' (X.1, A, c, n, q) ∧ Ext w w' := by
  obtain ⟨v, rfl, ⟨A, c, n, q, rfl, ht, hs, hq, hn⟩, hx⟩ := h
  exact ⟨A, c, n, q, rfl, ⟨ht, hs, hq, hn⟩, hx⟩
end Go.Proofs.YtgcdhffeacdegaaGreatDoor

/- What the rows of this seat have in common: a slice of bytes that comes in; the listed variables; a start. -/
namespace Go.Proofs.YtgcdhffeacdegaaGreatDoor
open Go.RowKit Go.El Go.ChangeShapes Go.WideShapes Go.ChangeAt Go.Joins

theorem own : ownKnob Tryz.prog.godebug = none := by kernel_rfl
theorem laidOut : laidOutB Tryz.prog = true := by kernel_rfl

section
variable {H : Type} {enc : TypeId × Value → H} {W : World} {base : Nat} {spare : Nat → Bool} {held : Bool}
set_option maxRecDepth 100000 in
theorem open_bytes {r : Reach} {b0 : Nat} {v : Value} {d : DataW H} {ps : List MemPlace} (hv : Value.okWide Tryz.prog W r b0 23 v) (h : DataW.Trod enc Tryz.prog W base spare held 23 v d ps) :
    ∃ (A : Option Addr) (B : List UInt8) (c : Nat), v = .slice A B.length c ∧ BytesAt W A B ∧ B.length ≤ c ∧ c ≤ maxLen := by
  obtain ⟨a1, len, cap, rfl⟩ := okWide_slice Tryz.underlying23 hv
  obtain ⟨fuel, hf⟩ := h
  rcases open_ints Tryz.underlying23 Tryz.underlying5 (by kernel_rfl) hf with ⟨hcs, hx⟩ | ⟨a, len', cap', zs, hcs, _, hl, hm, hz, hx, hcell, hwz⟩
  · simp [Value.cells] at hcs
    obtain ⟨rfl, rfl, rfl⟩ := hcs
    exact ⟨none, [], 0, rfl, El.Src.none _ _ _, Nat.le_refl _, Nat.zero_le _⟩
  · simp [Value.cells] at hcs
    obtain ⟨rfl, rfl, rfl⟩ := hcs
    have hlz : len ≤ zs.length := by rw [hz]; split <;> omega
    have hlen : ((zs.take len).map fun n => UInt8.ofNat n.toNat).length = len := by simp; omega
    refine ⟨some a, (zs.take len).map fun n => UInt8.ofNat n.toNat, cap, by rw [hlen], ?_, by rw [hlen]; exact hl, hm⟩
    refine ⟨by simp, fun _ => ⟨a, rfl, fun j u hu => ?_⟩⟩
    have hj : j < len := by
      have := (List.getElem?_eq_some_iff.1 hu).1
      simp at this
      omega
    rw [hcell j (by omega)]
    rw [← hu]
    have hb := range_u8 hwz j
    have e : zs[j]? = some zs[j] := List.getElem?_eq_getElem (by omega)
    simp only [e, Option.getD_some] at hb
    simp only [List.getElem?_map, List.getElem?_take, hj, if_true, e, Option.map_some, u8V, List.getD_eq_getElem?_getD, Option.getD_some]
    congr 2
    simp only [UInt8.toNat_ofNat']
    omega
end

def laidL : List (String × DataW Unit) := Rows.parseAllRow.laid
def errName : String := (laidL.drop 3).head?.elim "" (·.1)
def tyName : String := (laidL.drop 5).head?.elim "" (·.1)
theorem err_list : laidL = (laidL.take 3) ++ (errName, Rows.laid_strconv_ErrRange) :: laidL.drop 4 := by rfl
theorem ty_list : laidL = (laidL.take 5) ++ (tyName, .agg (([[], [120, 102, 120], [120, 102, 121], [121, 102, 120], [102, 121], [102, 120]] : List (List UInt8)).map fun l => .lit (.string l))) :: laidL.drop 6 := by rfl

theorem laidVars_app {P : Program} {w : World} : ∀ {a b : List (String × DataW Unit)} {ps : List MemPlace}, DataW.LaidVars P w (a ++ b) ps → ∃ qs, DataW.LaidVars P w b qs
  | [], _, ps, h => ⟨ps, h⟩
  | (_, _) :: _, _, _, ⟨_, _, _, _, _, _, _, _, _, _, h, _⟩ => laidVars_app h

set_option maxRecDepth 100000 in
theorem glob_of_laid {W : World} (h : laidMetH Tryz.prog laidL W) (hs : W.ShapedOpen Tryz.prog) : Glob W := by
  rw [MakeChecks.laidMetH_plain _ _ _ (by kernel_rfl), err_list] at h
  obtain ⟨ps, h, _, _⟩ := h
  obtain ⟨qs, h⟩ := laidVars_app h
  obtain ⟨g', t', cs, fuel, p, q, hg', ht', hvar, hd, _, _⟩ := h
  have hg : Tryz.prog.globalNamed errName = some 4 := by kernel_rfl
  have hty : ((Tryz.prog.globals[4]?).map (·.type)) = some 127 := by kernel_rfl
  obtain rfl := Option.some.inj (hg.symm.trans hg')
  obtain rfl := Option.some.inj (hty.symm.trans ht')
  obtain ⟨_, u, v, hcs, _, _⟩ := iface_of_trod Tryz.underlying127 hd
  refine ⟨cell_of_shapedOpen_int (t := 3) (zero := #[.int .i64 0]) hs (by decide +kernel) (by kernel_rfl) rfl (by kernel_rfl) (by kernel_rfl) Tryz.underlying3, u, v, ?_⟩
  rw [World.var?_cell hg hvar 0, ← Array.getElem?_toList, hcs]
  rfl

set_option maxRecDepth 100000 in
theorem ty_of_laid {W : World} (h : laidMetH Tryz.prog laidL W) : TypesAt 0 W := by
  rw [MakeChecks.laidMetH_plain _ _ _ (by kernel_rfl), ty_list] at h
  obtain ⟨ps, h, _, _⟩ := h
  obtain ⟨qs, h⟩ := laidVars_app h
  obtain ⟨g', t', cs, fuel, p, q, hg', ht', hvar, hd, _, _⟩ := h
  have hg : Tryz.prog.globalNamed tyName = some 0 := by kernel_rfl
  have hty : ((Tryz.prog.globals[0]?).map (·.type)) = some 135 := by kernel_rfl
  obtain rfl := Option.some.inj (hg.symm.trans hg')
  obtain rfl := Option.some.inj (hty.symm.trans ht')
  have hcs := cells_of_strs Tryz.underlying135 Tryz.underlying9 (by kernel_rfl) (by kernel_rfl) hd
  have key : ∀ i, W.cell? ⟨0, i, none⟩ = ((([[], [120, 102, 120], [120, 102, 121], [121, 102, 120], [102, 121], [102, 120]] : List (List UInt8)).map fun l => Value.string ⟨l.toArray⟩))[i]? := fun i => by
    rw [World.var?_cell hg hvar i, ← Array.getElem?_toList, hcs]
  exact ⟨key 0, key 1, key 2, key 3, key 4, key 5⟩
/-- What the variables that are listed give. -/
structure EnvP (W : World) : Prop where
  g : Glob W
  t : TypesAt 0 W
theorem env_of_laid {W : World} (h : laidMetH Tryz.prog laidL W) (hs : W.ShapedOpen Tryz.prog) : EnvP W := ⟨glob_of_laid h hs, ty_of_laid h⟩

noncomputable def laidWorld (os : Os) : World := World.laidAll Tryz.prog os laidL
set_option maxRecDepth 100000 in
theorem laid_met (os : Os) (args : Array Value) : laidMetH Tryz.prog laidL ((laidWorld os).forCall (fun _ _ => 0) ⟨#[], args, []⟩).memory := by
  rw [MakeChecks.laidMetH_plain _ _ _ (by kernel_rfl)]
  exact laidMet_laidAll _ (by kernel_rfl) (by kernel_rfl)
/-- Operators that come in. -/
theorem opType : OpType Tryz.prog 70 3 9 := ⟨⟨_, _, _, Tryz.underlying70, rfl, rfl, rfl, rfl, rfl, rfl⟩, Tryz.underlying3, Tryz.underlying9, by kernel_rfl, by kernel_rfl, by kernel_rfl⟩

end Go.Proofs.YtgcdhffeacdegaaGreatDoor
