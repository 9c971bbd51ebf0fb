/- ParseClauses: the clause at any place of any text, by any operators, or why there is none. -/
import Derived.Test.YtgcdhffeacdegaaGreatDoorC52

namespace Go.Proofs.YtgcdhffeacdegaaGreatDoor
open Go.RowKit Go.El

set_option maxRecDepth 100000 in
theorem pScan_out (A : Option Addr) (n cap : Nat) (z : Int) (w : World) (hn : n ≤ 65536) (hz : z < 0 ∨ (n : Int) < z) :
    Calls Tryz.prog 63 #[.slice A n cap, .int .i64 z] w fun e w' => e = .returned (.tuple #[.agg #[.int .i64 0, .string ⟨#[]⟩, .int .i64 0, .int .i64 0, .bool false], .int .i64 0, .int .i64 1]) ∧ Ext w w' := by
  have hbig : ¬ (65536 : Int) < (n : Int) := by omega
  have HZ := Lib.hid (Blk.new w 55 #[.int .i64 0, .string ⟨#[]⟩, .int .i64 0, .int .i64 0, .bool false])
  have HX := Lib.hid (ext_box4 w (.cells #[.int .i64 0, .string ⟨#[]⟩, .int .i64 0, .int .i64 0, .bool false] 55))
  have hcs : z < 0 ∨ (¬ z < 0 ∧ (n : Int) < z) := by omega
  clear hz
  rcases hcs with h1 | ⟨h1, h2⟩
  all_goals
    go_enter Tryz.func63, Tryz.ntmps63
    go_upto_region 4 with fail
    generalize w.alloc (.cells #[.int .i64 0, .string ⟨#[]⟩, .int .i64 0, .int .i64 0, .bool false] 55) = W1 at *
    have zc := HZ.out.cell
    have zf := HZ.out.frozen
    go_wp2_with fail
    have kb := blk_set5 HZ.out (.int .i64 0) (.string ⟨#[]⟩) (.int .i64 0) (.int .i64 0) (.bool false)
    have kc := kb.cell
    refine bodyPost_ret (v := .tuple #[.agg #[.int .i64 0, .string ⟨#[]⟩, .int .i64 0, .int .i64 0, .bool false], .int .i64 0, .int .i64 1]) ?_ rfl ⟨rfl, ext_set5 HX.out (Nat.le_refl _) _ _ _ _ _⟩
    simp [results, Tryz.results63, go_sem, kc]

set_option maxRecDepth 100000 in
theorem rScan_out (A : Option Addr) (n cap : Nat) (z : Int) (w : World) (hn : n ≤ 65536) (hz : z < 0 ∨ (n : Int) < z) :
    Calls Tryz.prog 44 #[.slice A n cap, .int .i64 z] w fun e w' => e = .returned (.tuple #[.agg #[.int .i64 0, .string ⟨#[]⟩, .int .i64 0, .int .i64 0, .bool false], .int .i64 0, .int .i64 1]) ∧ Ext w w' := by
  have hbig : ¬ (65536 : Int) < (n : Int) := by omega
  have HZ := Lib.hid (Blk.new w 55 #[.int .i64 0, .string ⟨#[]⟩, .int .i64 0, .int .i64 0, .bool false])
  have HX := Lib.hid (ext_box4 w (.cells #[.int .i64 0, .string ⟨#[]⟩, .int .i64 0, .int .i64 0, .bool false] 55))
  have hcs : z < 0 ∨ (¬ z < 0 ∧ (n : Int) < z) := by omega
  clear hz
  rcases hcs with h1 | ⟨h1, h2⟩
  all_goals
    go_enter Tryz.func44, Tryz.ntmps44
    go_upto_region 4 with fail
    generalize w.alloc (.cells #[.int .i64 0, .string ⟨#[]⟩, .int .i64 0, .int .i64 0, .bool false] 55) = W1 at *
    have zc := HZ.out.cell
    have zf := HZ.out.frozen
    go_wp2_with fail
    have kb := blk_set5 HZ.out (.int .i64 0) (.string ⟨#[]⟩) (.int .i64 0) (.int .i64 0) (.bool false)
    have kc := kb.cell
    refine bodyPost_ret (v := .tuple #[.agg #[.int .i64 0, .string ⟨#[]⟩, .int .i64 0, .int .i64 0, .bool false], .int .i64 0, .int .i64 1]) ?_ rfl ⟨rfl, ext_set5 HX.out (Nat.le_refl _) _ _ _ _ _⟩
    simp [results, Tryz.results44, go_sem, kc]

set_option maxRecDepth 100000 in
theorem pTokens_out (A : Option Addr) (n cap : Nat) (z : Int) (w : World) (hn : n ≤ 65536) (hz : z < 0 ∨ (n : Int) < z) :
    Calls Tryz.prog 40 #[.slice A n cap, .int .i64 z] w fun e w' => e = .returned (.tuple #[.slice none 0 0, .int .i64 0, .int .i64 1]) ∧ Ext w w' := by
  have HC := fun W => Lib.hid (pScan_out A n cap z W hn hz)
  clear hn hz
  go_enter Tryz.func40, Tryz.ntmps40
  go_wp2_with fail
  go_loopw [1, 7] (fun i v wr => i = .int .i64 z ∧ v = .slice none 0 0 ∧ w = wr) (fun _ _ _ => 0)
  case atStart => exact ⟨rfl, rfl, rfl⟩
  case round =>
    obtain ⟨rfl, rfl, rfl⟩ := hrel
    go_wp2_with (go_at_call 63; refine (HC _).out.mono ?_; rintro e1 w' ⟨rfl, hx⟩; have kx := Lib.hid hx; clear hx)
    go_ret3
    exact ⟨rfl, kx.out.alloc _⟩

set_option maxRecDepth 100000 in
set_option maxHeartbeats 4000000 in
theorem pClause_out (A : Option Addr) (n cap : Nat) (z : Int) (tb : Nat) (w : World) (hn : n ≤ 65536) (hz : z < 0 ∨ (n : Int) < z) :
    Calls Tryz.prog 14 #[.slice A n cap, .int .i64 z, .pointer (some ⟨tb, 0, none⟩)] w (ClPost w (zeroR, 0, 1)) := by
  have HT := fun W => Lib.hid (pTokens_out A n cap z W hn hz)
  have HX := Lib.hid (ext_box4 w (.cells #[.int .i64 0, .int .i64 0, .string ⟨#[]⟩, .slice none 0 0, .slice none 0 0, .int .i64 0] 35))
  have HZ := Lib.hid (Blk.new w 35 #[.int .i64 0, .int .i64 0, .string ⟨#[]⟩, .slice none 0 0, .slice none 0 0, .int .i64 0])
  have hzr := zeroRead
  clear hn hz
  go_enter Tryz.func14, Tryz.ntmps14
  go_upto_region 5 with (go_at_call 40; refine (HT _).out.mono ?_; rintro e W1 ⟨rfl, x1⟩; have X6 := Lib.hid (HX.out.trans x1); have Z6 := Lib.hid (HZ.out.ext x1); have zc := (HZ.out.ext x1).cell; have zf := (HZ.out.ext x1).frozen; clear x1)
  go_wp2_with fail
  have kb := blk_set6 Z6.out (.int .i64 0) (.int .i64 0) (.string ⟨#[]⟩) (.slice none 0 0) (.slice none 0 0) (.int .i64 0)
  have kc := kb.cell
  refine bodyPost_ret (v := .tuple #[.agg #[.int .i64 0, .int .i64 0, .string ⟨#[]⟩, .slice none 0 0, .slice none 0 0, .int .i64 0], .int .i64 0, .int .i64 1]) ?_ rfl ⟨_, rfl, ReadAt.zero _ _, ext_set6 X6.out (Nat.le_refl _) _ _ _ _ _ _⟩
  simp [results, Tryz.results14, go_sem, kc]

set_option maxRecDepth 100000 in
set_option maxHeartbeats 4000000 in
theorem rClause_out (A : Option Addr) (n cap : Nat) (z : Int) (tb : Nat) (w : World) (hn : n ≤ 65536) (hz : z < 0 ∨ (n : Int) < z) :
    Calls Tryz.prog 15 #[.slice A n cap, .int .i64 z, .pointer (some ⟨tb, 0, none⟩)] w (ClPost w (zeroR, 0, 1)) := by
  have HC := fun W => Lib.hid (rScan_out A n cap z W hn hz)
  have HX := Lib.hid (ext_box4 w (.cells #[.int .i64 0, .int .i64 0, .string ⟨#[]⟩, .slice none 0 0, .slice none 0 0, .int .i64 0] 35))
  have HZ := Lib.hid (Blk.new w 35 #[.int .i64 0, .int .i64 0, .string ⟨#[]⟩, .slice none 0 0, .slice none 0 0, .int .i64 0])
  have hzr := zeroRead
  clear hn hz
  go_enter Tryz.func15, Tryz.ntmps15
  go_upto_region 1 with fail
  generalize w.alloc (.cells #[.int .i64 0, .int .i64 0, .string ⟨#[]⟩, .slice none 0 0, .slice none 0 0, .int .i64 0] 35) = W0 at *
  go_wp2_with fail
  go_loopw [1, 9] (fun i v wr => i = .int .i64 z ∧ v = .slice none 0 0 ∧ W0 = wr) (fun _ _ _ => 0)
  case atStart => exact ⟨rfl, rfl, rfl⟩
  case round =>
    obtain ⟨rfl, rfl, rfl⟩ := hrel
    go_wp2_with (go_at_call 44; refine (HC _).out.mono ?_; rintro e1 w' ⟨rfl, hx⟩; have XT := Lib.hid (hx.alloc (.cells #[.int .i64 0, .string ⟨#[]⟩, .int .i64 0, .int .i64 0, .bool false] 55)); have Z6 := Lib.hid (HZ.out.ext XT.out); have zc := Z6.out.cell; have zf := Z6.out.frozen; have X6 := Lib.hid (HX.out.trans XT.out); clear hx)
    have kb := blk_set6 Z6.out (.int .i64 0) (.int .i64 0) (.string ⟨#[]⟩) (.slice none 0 0) (.slice none 0 0) (.int .i64 0)
    have kc := kb.cell
    refine bodyPost_ret (v := .tuple #[.agg #[.int .i64 0, .int .i64 0, .string ⟨#[]⟩, .slice none 0 0, .slice none 0 0, .int .i64 0], .int .i64 0, .int .i64 1]) ?_ rfl ⟨_, rfl, ReadAt.zero _ _, ext_set6 X6.out (Nat.le_refl _) _ _ _ _ _ _⟩
    simp [results, Tryz.results15, go_sem, kc]

/-- Clause at any place: both answer the same. -/
theorem clause_both {A : Option Addr} {cap : Nat} {B : List UInt8} (hB : B.length ≤ 65536) (hcap : B.length ≤ cap) (z : Int) (O : Ops) : ∃ (r : ReadV) (k x : Int), SmallR r ∧ ∀ (I Q : List OpV), (⟨fun s => findO s I, fun s => findO s Q⟩ : Ops) = O →
    (∀ (w : World) (tb : Nat), BytesAt w A B → Glob w → OpsOk w tb I Q → Calls Tryz.prog 14 #[.slice A B.length cap, .int .i64 z, .pointer (some ⟨tb, 0, none⟩)] w (ClP2 w r k x)) ∧
    (∀ (w : World) (tb : Nat) (tv : Value) (T : List OpV), BytesAt w A B → RefAt 70 w tb tv T → (∀ s, findR s false T = findO s I ∧ findR s true T = findO s Q) → (∀ p : OpV, p ∈ I ∨ p ∈ Q → -1000000 ≤ p.p ∧ p.p ≤ 1000000) → Calls Tryz.prog 15 #[.slice A B.length cap, .int .i64 z, .pointer (some ⟨tb, 0, none⟩)] w (ClP2 w r k x)) := by
  by_cases hz : z < 0 ∨ (B.length : Int) < z
  · exact ⟨zeroR, 0, 1, small_zero, fun I Q _ => ⟨fun w tb _ _ _ => (pClause_out A B.length cap z tb w hB hz).mono fun _ _ h => h.two rfl, fun w tb _ _ _ _ _ _ => (rClause_out A B.length cap z tb w hB hz).mono fun _ _ h => h.two rfl⟩⟩
  · obtain ⟨i, rfl⟩ : ∃ i : Nat, z = i := ⟨z.toNat, by omega⟩
    have hi : i ≤ B.length := by omega
    refine ⟨(clauseS O B i).1, (clauseS O B i).2.1, (clauseS O B i).2.2, clauseS_small hi hB, fun I Q hO => ⟨fun w tb hb g ho => ?_, fun w tb tv T hb hr hf hbd => ?_⟩⟩
    · subst hO
      exact (pClause_any hb hi hB hcap g ho).mono fun _ _ h => h.two rfl
    · subst hO
      exact (rClause_any hb hi hB hcap hr hf hbd).mono fun _ _ h => h.two rfl

set_option maxRecDepth 100000 in
set_option maxHeartbeats 8000000 in
theorem parseClauses_any (L : List OpV) (A0 : Option Addr) (c0 : Nat) (B : List UInt8) (A : Option Addr) (cap : Nat) (z : Int) (w : World) (hl : El.Src w A0 L.length 3 (flat opCells L)) (hL : L.length ≤ 9223372036854775807) (hg : ∀ o ∈ L, o.s.size ≤ 9223372036854775807) (h : BytesAt w A B) (hB : B.length ≤ 9223372036854775807) (hcap : B.length ≤ cap) (g : Glob w) (hT : TypesAt 0 w) :
    Calls Tryz.prog 3 #[.slice A0 L.length c0, .slice A B.length cap, .int .i64 z] w fun e w' => e = .returned (.bool true) ∧ Ext w w' := by
  have H := Lib.hid h
  have HG := Lib.hid g
  have HT := Lib.hid hT
  have HLV := fun W (x : Ext w W) => Lib.hid (lives10_any W (g.ext x) (hT.ext x))
  have HTB := fun W (x : Ext w W) => Lib.hid (tables_any A0 c0 L W (hT.ext x) (hl.ext x) hL hg)
  by_cases hlg : LgO L
  · have HLG := Lib.hid (ops10Large_any A0 c0 L w hl hL hg true (iff_of_true rfl hlg))
    clear h g hT hl hg hlg
    go_enter Tryz.func3, Tryz.ntmps3
    go_wp2_with (first | (go_at_call 11; refine HLG.out.mono ?_; rintro e W1 ⟨rfl, x1⟩; have X1 := Lib.hid x1; clear x1) | (go_at_call 12; refine (HLV _ X1.out).out.mono ?_; rintro e W2 ⟨rfl, x⟩; have X2 := Lib.hid (X1.out.trans x); clear x))
    go_ret
    exact ⟨rfl, X2.out⟩
  · have HLG := Lib.hid (ops10Large_any A0 c0 L w hl hL hg false (by simp [hlg]))
    clear h g hT hl hg hlg
    by_cases hz : 2000 < B.length
    · go_enter Tryz.func3, Tryz.ntmps3
      go_wp2_with (first | (go_at_call 11; refine HLG.out.mono ?_; rintro e W1 ⟨rfl, x1⟩; have X1 := Lib.hid x1; clear x1) | (go_at_call 12; refine (HLV _ X1.out).out.mono ?_; rintro e W2 ⟨rfl, x⟩; have X2 := Lib.hid (X1.out.trans x); clear x))
      go_ret
      exact ⟨rfl, X2.out⟩
    · go_enter Tryz.func3, Tryz.ntmps3
      go_upto_region 4 with (first | (go_at_call 11; refine HLG.out.mono ?_; rintro e W1 ⟨rfl, x1⟩; have X1 := Lib.hid x1; clear x1) | (go_at_call 13; refine (HTB _ X1.out).out.mono ?_; rintro e W2 ⟨tb, rb, I, Q, rfl, hop, hrf, x2⟩; have X2 := Lib.hid (X1.out.trans x2); have HOP := Lib.hid hop; have HRF := Lib.hid hrf; clear hop hrf x2))
      obtain ⟨tb', m1, m2, etb, htab, hbd⟩ := HOP.out
      injection etb with etb
      injection etb with etb
      injection etb with etb _
      subst etb
      have HOK : Hid (OpsOk W2 tb I Q) := Lib.hid ⟨⟨m1, m2, htab⟩, hbd, HT.out.ext X2.out⟩
      obtain ⟨rb', tv, T, erb, hre, hfn, hbd2⟩ := HRF.out
      injection erb with erb
      injection erb with erb _
      subst erb
      have HRE := Lib.hid hre
      have HFN := Lib.hid hfn
      have HBD := Lib.hid hbd2
      clear htab hbd hre hfn hbd2 HOP HRF
      obtain ⟨P, hP⟩ : ∃ P, (⟨fun s => findO s I, fun s => findO s Q⟩ : Ops) = P := ⟨_, rfl⟩
      have HP := Lib.hid hP
      clear hP
      obtain ⟨r, y, yx, hsm, hboth⟩ := clause_both (A := A) (cap := cap) (B := B) (by omega) hcap z P
      obtain ⟨hp1, hp2⟩ := hboth I Q HP.out
      have HSM := Lib.hid hsm
      have HP1 := Lib.hid (hp1 W2 tb (H.out.ext X2.out) (HG.out.ext X2.out) HOK.out)
      have HB2 := Lib.hid hp2
      clear hboth hp1 hp2 hsm
      go_upto_region 5 with (go_at_call 14; refine HP1.out.mono ?_; rintro e W3 ⟨a1, d1, n1, m1', rfl, hr, hx⟩; have HR1 := Lib.hid hr; have X3 := Lib.hid (X2.out.trans hx); have XR := Lib.hid hx; clear hr hx)
      have hxa := ext_box4 W3 (.cells #[.int .i64 (Tm.k r.t), .int .i64 (Tm.n r.t), .string (Tm.s r.t), .slice a1 (Tm.l r.t).length d1, .slice n1 r.ns.length m1', .int .i64 r.nx] 35)
      have B1 := Lib.hid (Blk.new W3 35 #[.int .i64 (Tm.k r.t), .int .i64 (Tm.n r.t), .string (Tm.s r.t), .slice a1 (Tm.l r.t).length d1, .slice n1 r.ns.length m1', .int .i64 r.nx])
      have R1 := Lib.hid (HR1.out.ext hxa)
      have X4 := Lib.hid (X3.out.trans hxa)
      have HRE4 := Lib.hid (HRE.out.ext (XR.out.trans hxa))
      clear hxa
      generalize W3.alloc (.cells #[.int .i64 (Tm.k r.t), .int .i64 (Tm.n r.t), .string (Tm.s r.t), .slice a1 (Tm.l r.t).length d1, .slice n1 r.ns.length m1', .int .i64 r.nx] 35) = W4 at *
      generalize W3.heap.size = g7 at *
      have HP2 := Lib.hid (HB2.out W4 _ _ _ (H.out.ext X4.out) HRE4.out HFN.out HBD.out)
      clear HB2
      go_upto_region 6 with (go_at_call 15; refine HP2.out.mono ?_; rintro e W5 ⟨a2, d2, n2, m2', rfl, hr, hx⟩; have HR2 := Lib.hid hr; have X5 := Lib.hid (X4.out.trans hx); have XS := Lib.hid hx; clear hr hx)
      have hxb := ext_box4 W5 (.cells #[.int .i64 (Tm.k r.t), .int .i64 (Tm.n r.t), .string (Tm.s r.t), .slice a2 (Tm.l r.t).length d2, .slice n2 r.ns.length m2', .int .i64 r.nx] 35)
      have B2 := Lib.hid (Blk.new W5 35 #[.int .i64 (Tm.k r.t), .int .i64 (Tm.n r.t), .string (Tm.s r.t), .slice a2 (Tm.l r.t).length d2, .slice n2 r.ns.length m2', .int .i64 r.nx])
      have B1b := Lib.hid ((B1.out.ext XS.out).ext hxb)
      have R2 := Lib.hid (HR2.out.ext hxb)
      have R1b := Lib.hid ((R1.out.ext XS.out).ext hxb)
      have X6 := Lib.hid (X5.out.trans hxb)
      clear hxb
      generalize W5.alloc (.cells #[.int .i64 (Tm.k r.t), .int .i64 (Tm.n r.t), .string (Tm.s r.t), .slice a2 (Tm.l r.t).length d2, .slice n2 r.ns.length m2', .int .i64 r.nx] 35) = W6 at *
      generalize W5.heap.size = g9 at *
      have HSS := fun V (x : Ext W6 V) => Lib.hid (same_read r a1 a2 n1 n2 d1 d2 m1' m2' V _ _ (R1b.out.ext x) (R2.out.ext x) HSM.out)
      go_wp2_with (first | (go_at_call 12; refine (HLV _ X6.out).out.mono ?_; rintro e W7 ⟨rfl, x⟩; have X7 := Lib.hid (X6.out.trans x); have XQ := Lib.hid x; have k1 := (B1b.out.ext x).cell; have k2 := (B2.out.ext x).cell; clear x) | (go_at_call 16; refine (HSS _ XQ.out).out.mono ?_; rintro e W8 ⟨rfl, x⟩; have X8 := Lib.hid (X7.out.trans x); clear x))
      go_ret
      exact ⟨rfl, X8.out⟩
end Go.Proofs.YtgcdhffeacdegaaGreatDoor

namespace Go.Proofs.YtgcdhffeacdegaaGreatDoor
open Go.RowKit Go.El Go.ChangeShapes Go.WideShapes Go.ChangeAt Go.Joins Go.ChangeMaps

set_option maxRecDepth 100000 in
theorem parseClauses_calls (H : Type) (enc : TypeId × Value → H) (W : World) (base : Nat) (args : Array Value) (ds gs : List (DataW H)) (before : List MemPlace)
    (hval : ∀ (j : Nat) t v, Tryz.f3.params[j]? = some t → args[j]? = some v → Value.okWide Tryz.prog W .any base t v)
    (hW : DataW.Whole enc Tryz.prog Tryz.f3.params.toList Rows.parseClausesSpec.vars false W args.toList ds gs before) (g : EnvP W) :
    Calls Tryz.prog 3 args W fun e W' => e = .returned (.bool true) ∧ Ext W W' ∧ Rows.parseClausesSpec.fn H (ds ++ gs) = { results := [.lit (.bool true)], args := ds } := by
  obtain ⟨p, q, hA0, hV, rfl, hfz, hnd⟩ := hW
  have hA : DataW.TrodAll enc Tryz.prog W 0 (fun _ => true) true Tryz.f3.params.toList args.toList ds p := hA0
  rw [Tryz.params3] at hA hval
  obtain ⟨v0, vs0, d0, ds0, p0, q0, hargs, rfl, rfl, h0, r0⟩ := trodAll_cons hA
  obtain ⟨v1, vs1, d1, ds1, p1, q1, rfl, rfl, rfl, h1, r1⟩ := trodAll_cons r0
  obtain ⟨v2, vs2, d2, ds2, p2, q2, rfl, rfl, rfl, h2, r2⟩ := trodAll_cons r1
  obtain ⟨rfl, rfl, rfl⟩ := trodAll_nil r2
  obtain rfl : args = #[v0, v1, v2] := Array.ext' hargs
  obtain ⟨rfl, rfl⟩ := trodVars_none hV
  obtain ⟨A0, L, c0, rfl, hl, hn, hLn⟩ := open_ops opType Tryz.underlying22 (hval 0 22 v0 rfl rfl) h0
  unfold maxLen at hn hLn
  obtain ⟨A1, B1, k1, rfl, hb1, hc1, hm1⟩ := open_bytes (hval 1 23 v1 rfl rfl) h1
  obtain ⟨z, rfl, _, _, _⟩ := open_int Tryz.underlying3 (hval 2 3 v2 rfl rfl) h2
  exact (parseClauses_any L A0 c0 B1 A1 k1 z W hl (by omega) (fun o ho => by have := hn o ho; omega) hb1 (by unfold maxLen at hm1; omega) hc1 g.g g.t).mono fun e W' ⟨he, hx⟩ => ⟨he, hx, rfl⟩

set_option maxRecDepth 100000 in
/-- What is claimed of one call: it returns true; nothing that was there has turned. -/
theorem parseClauses_row (H : Type) (enc : TypeId × Value → H) (W : World) (base : Nat) (args : Array Value) (ds gs : List (DataW H)) (before : List MemPlace)
    (hval : ∀ (j : Nat) t v, Tryz.f3.params[j]? = some t → args[j]? = some v → Value.okWide Tryz.prog W .any base t v)
    (hW : DataW.Whole enc Tryz.prog Tryz.f3.params.toList Rows.parseClausesSpec.vars false W args.toList ds gs before) (hL : laidMetH Tryz.prog Rows.parseClausesRow.laid W) (hS : W.ShapedOpen Tryz.prog) :
    Calls Tryz.prog 3 args W fun e W' => ∃ v, e = .returned v ∧ Rows.parseClausesSpec.post enc Tryz.prog Tryz.f3 false true false false W args v W' := by
  have hlaid : Rows.parseClausesRow.laid = laidL := rfl
  rw [hlaid] at hL
  refine (parseClauses_calls H enc W base args ds gs before hval hW (env_of_laid hL hS)).mono fun e W' ⟨he, hx, hs⟩ => ?_
  subst he
  exact ⟨_, rfl, post_law (tb := 4) laidOut (by kernel_rfl) rfl (by kernel_rfl) Tryz.underlying4 hW hs hx⟩

theorem parseClauses_reads (os : Os) {H : Type} (enc : TypeId × Value → H) : ∃ places, DataW.whole enc Tryz.prog ((laidWorld os).forCall (fun _ _ => 0) ⟨#[], #[.slice none 0 0, .slice none 0 0, .int .i64 0], []⟩).memory Tryz.f3.params.toList Rows.parseClausesSpec.vars false (#[.slice none 0 0, .slice none 0 0, .int .i64 0] : Array Value).toList 8 = some ([.nil, .nil, .lit (.int .i64 0)], [], places) :=
  ⟨[], by kernel_rfl⟩

set_option maxRecDepth 100000 in
theorem parseClauses_start (os : Os) {H : Type} (enc : TypeId × Value → H) : ∃ (w : World) (tape : Tape) (i : Input), w.os = os ∧ (w.forCall tape i).Shaped Tryz.prog ∧ i.vars = [] ∧ Input.okWide Tryz.prog (w.forCall tape i) .any w.heap.size 3 i ∧
      (OpenSpec.ofChange Rows.parseClausesSpec).preRow enc Tryz.prog Tryz.f3 Rows.parseClausesRow.domain false Rows.parseClausesRow.laid (w.forCall tape i).memory i.args ∧ ({} : Assume).holds Tryz.prog (lone (Frame.enter Tryz.prog 3 i.args .normal) [] (w.forCall tape i)) := by
  obtain ⟨places, hx⟩ := parseClauses_reads os enc
  refine ⟨laidWorld os, fun _ _ => 0, ⟨#[], #[.slice none 0 0, .slice none 0 0, .int .i64 0], []⟩, World.laidAll_os _ _ _, World.shaped_of_ZipB (by kernel_rfl) (by kernel_rfl), rfl, ?_, ?_, ?_⟩
  · have hok : Input.okWideB Tryz.prog ((laidWorld os).forCall (fun _ _ => 0) ⟨#[], #[.slice none 0 0, .slice none 0 0, .int .i64 0], []⟩) 3 ⟨#[], #[.slice none 0 0, .slice none 0 0, .int .i64 0], []⟩ = true := by kernel_rfl
    exact (Input.okWide_of_okWideB hok).2
  · exact OpenSpec.preRow_of_cond 8 hx (by kernel_rfl) (fun k hk => by cases hk) (by kernel_rfl) (laid_met os _)
  · simp only [Assume.holds]
    exact ⟨by simp, by simp, (fun h => by cases h), by simp, by simp⟩

set_option maxRecDepth 100000 in
theorem parseClauses_lifted (os : Os) (started : os.Started) (H : Type) (enc : TypeId × Value → H) (F : Stop.Interp) :
    ReturnsInHanded {} Tryz.checked os 3 .any ((OpenSpec.ofChange Rows.parseClausesSpec).preRow enc Tryz.prog Tryz.f3 Rows.parseClausesRow.domain false Rows.parseClausesRow.laid) (((OpenSpec.ofChange Rows.parseClausesSpec).at F).post enc Tryz.prog Tryz.f3 false true false false) := by
  refine returnsInHanded_of_row (C := Tryz.checked) (s := OpenSpec.ofChange Rows.parseClausesSpec) own started (by kernel_rfl) Tryz.func3 (parseClauses_start os enc) ?_
  intro W base args ds gs before hval hW _ _ _ hL hS _
  exact parseClauses_row H enc W base args ds gs before hval hW hL hS

theorem parseClauses_said : Rows.ParseClausesSaid :=
  OpenClaim.holds_of_cond 3 Tryz.f3 rfl rfl rfl rfl rfl rfl rfl ⟨rfl, rfl, rfl, rfl, rfl⟩ rfl rfl rfl rfl rfl (by kernel_rfl) Tryz.func3 (by kernel_rfl)
    (of_decide_eq_true (by kernel_rfl)) (by unfold Func.isWrapper; first | (rw [if_pos (by decide +kernel)]; kernel_rfl) | (rw [if_neg (by decide +kernel)]; exact ⟨rfl, rfl⟩))
    (fun os started H enc _ F => by rw [OpenClaim.pre_eq_preRow]; exact parseClauses_lifted os started H enc F)

theorem parseClauses_plain (f : FuncId) (fn : Func) (hf : Tryz.pinned.checked.prog.funcNamed Rows.parseClausesRow.func = some f) (hfn : Tryz.pinned.checked.prog.funcs[f]? = some fn) :
    true = Tryz.pinned.checked.prog.looks [] ∧ ∀ (j : Nat) t, fn.params[j]? = some t → Tryz.pinned.checked.prog.wantsStandIn t = false := by
  obtain rfl : f = 3 := Option.some.inj ((show Tryz.prog.funcNamed Rows.parseClausesRow.func = some 3 by kernel_rfl).symm.trans hf) |>.symm
  obtain rfl : fn = Tryz.f3 := (Option.some.inj (Tryz.func3.symm.trans hfn)).symm
  refine ⟨by kernel_rfl, fun j t ht => ?_⟩
  have hall : (Tryz.f3.params.toList.all fun t => !Tryz.prog.wantsStandIn t) = true := by kernel_rfl
  have hm := List.all_eq_true.1 hall t (by simpa using Array.mem_of_getElem? ht)
  have hw : Tryz.prog.wantsStandIn t = false := by simpa using hm
  exact hw

/-- The card: ParseClauses. -/
theorem parseClauses_card : Rows.ParseClausesCardSaid :=
  Claim7.holds_tied_plain_at .later [] _ _ _ _ parseClauses_said (fun _ h => by cases h) (by kernel_rfl) (fun _ h => by cases h) parseClauses_row_tie rfl ⟨rfl, rfl⟩ (by kernel_rfl) rfl parseClauses_plain (by kernel_rfl)

end Go.Proofs.YtgcdhffeacdegaaGreatDoor
