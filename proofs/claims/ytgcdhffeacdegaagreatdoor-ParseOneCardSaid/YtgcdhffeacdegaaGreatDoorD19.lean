/- ParseOne: any text without its point, by any operators. -/
import Derived.Test.YtgcdhffeacdegaaGreatDoorC52

namespace Go.Proofs.YtgcdhffeacdegaaGreatDoor
open Go.RowKit Go.El

set_option maxRecDepth 100000 in
set_option maxHeartbeats 4000000 in
theorem refOne_any {s : ByteArray} {tb : Nat} {w : World} (hs : s.size ≤ 60000) {I Q T : List OpV} {tv : Value} (hr : RefAt 70 w tb tv T) (hf : ∀ s, findR s false T = findO s I ∧ findR s true T = findO s Q) (hbd : ∀ p : OpV, p ∈ I ∨ p ∈ Q → -1000000 ≤ p.p ∧ p.p ≤ 1000000) :
    Calls Tryz.prog 20 #[.string s, .pointer (some ⟨tb, 0, none⟩)] w (OnePost w (oneR ⟨fun s => findO s I, fun s => findO s Q⟩ (s.data.toList ++ [32, 46]))) := by
  obtain ⟨P, hP⟩ : ∃ P, (⟨fun s => findO s I, fun s => findO s Q⟩ : Ops) = P := ⟨_, rfl⟩
  have hqd : (s ++ (⟨#[32, 46]⟩ : ByteArray)).data.toList = s.data.toList ++ [32, 46] := by simp
  have hcv := fun W : World => Lib.run_convert_string_bytes (P := Tryz.prog) W 9 23 5 (s ++ ⟨#[32, 46]⟩) Tryz.underlying9 Tryz.underlying23 Tryz.underlying5
  have hqz : (s ++ (⟨#[32, 46]⟩ : ByteArray)).size = s.size + 2 := by simp; rfl
  rw [hP, ← hqd]
  have HALL : ∀ (A : Option Addr) (cap : Nat) (W : World), BytesAt W A (s ++ (⟨#[32, 46]⟩ : ByteArray)).data.toList → (s ++ (⟨#[32, 46]⟩ : ByteArray)).size ≤ cap → Ext w W → Calls Tryz.prog 18 #[.slice A (s ++ (⟨#[32, 46]⟩ : ByteArray)).size cap, .pointer (some ⟨tb, 0, none⟩)] W (AllPost W (allR P (s ++ (⟨#[32, 46]⟩ : ByteArray)).data.toList)) := by
    intro A cap W hb hc hx
    have hlen : (s ++ (⟨#[32, 46]⟩ : ByteArray)).data.toList.length = (s ++ (⟨#[32, 46]⟩ : ByteArray)).size := by rw [Array.length_toList]; rfl
    have := rAllR (cap := cap) hb (by rw [hlen, hqz]; omega) (by rw [hlen]; exact hc) (hr.ext hx) hf hbd
    rw [hlen, hP] at this
    exact this
  have hx := ext_box4 w (.cells #[.int .i64 0, .int .i64 0, .string ⟨#[]⟩, .slice none 0 0, .slice none 0 0, .int .i64 0] 35)
  have HX := Lib.hid hx
  have HZ := Lib.hid (Blk.new w 35 #[.int .i64 0, .int .i64 0, .string ⟨#[]⟩, .slice none 0 0, .slice none 0 0, .int .i64 0])
  have HSZ := Lib.hid (World.size_alloc w (.cells #[.int .i64 0, .int .i64 0, .string ⟨#[]⟩, .slice none 0 0, .slice none 0 0, .int .i64 0] 35))
  have hzr := zeroRead
  have HALL2 := Lib.hid HALL
  have HCV := Lib.hid hcv
  clear hx hP hr hf hbd hqd hqz HALL hcv
  obtain ⟨X, hX⟩ : ∃ X, allR P (s ++ (⟨#[32, 46]⟩ : ByteArray)).data.toList = X := ⟨_, rfl⟩
  unfold oneR
  rw [hX] at HALL2 ⊢
  clear hX
  go_enter Tryz.func20, Tryz.ntmps20
  go_upto_region 1 with fail
  generalize w.alloc (.cells #[.int .i64 0, .int .i64 0, .string ⟨#[]⟩, .slice none 0 0, .slice none 0 0, .int .i64 0] 35) = W1 at *
  go_wp2_with fail
  generalize s ++ (⟨#[32, 46]⟩ : ByteArray) = q at *
  have hcv1 := HCV.out W1
  have HB := Lib.hid (bytes_new W1 q)
  have HE := Lib.hid (ext_bytes W1 5 q)
  generalize Lib.bytesWorld W1 5 q = W2 at hcv1 HB HE
  have HA := fun A cap h1 h2 => Lib.hid (HALL2.out A cap W2 h1 h2 (HX.out.trans HE.out))
  clear HCV HALL2
  rw [hcv1]
  go_simp
  go_upto_region 2 with (go_at_call 18; refine (HA _ _ HB.out (grownCap_ge _ _ _ _)).out.mono ?_; rintro e W6 ⟨v, M, rfl, hm, hl⟩; obtain ⟨A6, c6, rfl⟩ := own_value hm.own; have HM := Lib.hid hm; have HL := Lib.hid hl; have X6 := Lib.hid (HX.out.trans (HE.out.trans hm.ext)); have Z6 := Lib.hid (HZ.out.ext (HE.out.trans hm.ext)); have zc := (HZ.out.ext (HE.out.trans hm.ext)).cell; have zf := (HZ.out.ext (HE.out.trans hm.ext)).frozen; clear hm hl)
  by_cases h0 : X.2.2 = 0
  · have e0 : (X.2.2 != 0) = false := by simpa using h0
    have hlm : X.1.length = M.length := by rw [← HL.out]; simp
    by_cases h1 : M.length = 1
    · obtain ⟨p, hp⟩ : ∃ p, M = [p] := List.length_eq_one_iff.1 h1
      subst hp
      obtain ⟨r, A, c, n, m⟩ := p
      have hXe : oneX X = (r, 0) := by
        unfold oneX
        rw [if_neg (by simp [h0]), if_neg (by simp [hlm]), ← HL.out]
        rfl
      have HXE := Lib.hid hXe
      obtain ⟨b, off, rfl, hc⟩ := El.Src.form (Src.of_own HM.out.own) (by simp) (by omega)
      have d0 : W6.cell? ⟨b, off, none⟩ = some (.int .i64 (Tm.k r.t)) := hc 0 _ rfl
      have d1 : W6.cell? ⟨b, off + 1, none⟩ = some (.int .i64 (Tm.n r.t)) := hc 1 _ rfl
      have d2 : W6.cell? ⟨b, off + 2, none⟩ = some (.string (Tm.s r.t)) := hc 2 _ rfl
      have d3 : W6.cell? ⟨b, off + 3, none⟩ = some (.slice A (Tm.l r.t).length c) := hc 3 _ rfl
      have d4 : W6.cell? ⟨b, off + 4, none⟩ = some (.slice n r.ns.length m) := hc 4 _ rfl
      have d5 : W6.cell? ⟨b, off + 5, none⟩ = some (.int .i64 r.nx) := hc 5 _ rfl
      have HK := Lib.hid (HM.out.kid (r, A, c, n, m) (by simp))
      have hgb : w.heap.size < W2.heap.size := by have := HE.out.size; have := HSZ.out; omega
      clear hc hXe h1 hlm h0
      have hl1 : ([(r, A, c, n, m)] : List RdP).length = 1 := rfl
      rw [hl1]
      clear hl1
      go_wp2_with fail
      have kb := blk_set6 Z6.out (.int .i64 (Tm.k r.t)) (.int .i64 (Tm.n r.t)) (.string (Tm.s r.t)) (.slice A (Tm.l r.t).length c) (.slice n r.ns.length m) (.int .i64 r.nx)
      have kc := kb.cell
      have hm6 := mods_set6 (S := [w.heap.size]) (W := W6) (z := w.heap.size) (by simp) (.int .i64 (Tm.k r.t)) (.int .i64 (Tm.n r.t)) (.string (Tm.s r.t)) (.slice A (Tm.l r.t).length c) (.slice n r.ns.length m) (.int .i64 r.nx)
      have hrd : RdIn (fun k => w.heap.size ≤ k ∧ k < ((((((W6.setCell ⟨w.heap.size, 0, none⟩ (.int .i64 (Tm.k r.t))).setCell ⟨w.heap.size, 1, none⟩ (.int .i64 (Tm.n r.t))).setCell ⟨w.heap.size, 2, none⟩ (.string (Tm.s r.t))).setCell ⟨w.heap.size, 3, none⟩ (.slice A (Tm.l r.t).length c)).setCell ⟨w.heap.size, 4, none⟩ (.slice n r.ns.length m)).setCell ⟨w.heap.size, 5, none⟩ (.int .i64 r.nx)).heap.size) _ (r, A, c, n, m) := RdIn.mods hm6 (fun k hk => by have := hk.1; simp; omega) (fun k hk => ⟨by have := hk.1; omega, Nat.lt_of_lt_of_le hk.2.1 hm6.size⟩) HK.out
      refine bodyPost_ret (v := .tuple #[rdV r.t A c n r.ns.length m r.nx, .int .i64 0]) ?_ rfl ⟨_, by rw [HXE.out], by rw [HXE.out]; exact ⟨A, c, n, m, rfl, hrd.tm, hrd.ns, hrd.cap, fun a ha => hrd.blk a ha⟩, ext_set6 X6.out (Nat.le_refl _) _ _ _ _ _ _⟩
      simp [results, Tryz.results20, go_sem, kc, rdV]
    · have h1b : ((M.length : Int) != 1) = true := by
        rw [bne_iff_ne]
        omega
      have hXe : oneX X = (zeroR, 100) := by
        unfold oneX
        rw [if_neg (by simp [h0]), if_pos (by rw [hlm]; exact h1)]
      clear h0 hlm h1
      go_wp2_with fail
      have kb := blk_set6 Z6.out (.int .i64 0) (.int .i64 0) (.string ⟨#[]⟩) (.slice none 0 0) (.slice none 0 0) (.int .i64 0)
      have kc := kb.cell
      refine bodyPost_ret (v := .tuple #[.agg #[.int .i64 0, .int .i64 0, .string ⟨#[]⟩, .slice none 0 0, .slice none 0 0, .int .i64 0], .int .i64 100]) ?_ rfl ⟨_, by rw [hXe], by rw [hXe]; exact ReadAt.zero _ _, ext_set6 X6.out (Nat.le_refl _) _ _ _ _ _ _⟩
      simp [results, Tryz.results20, go_sem, kc]
  · have e0 : (X.2.2 != 0) = true := by simpa using h0
    have hXe : oneX X = (zeroR, X.2.2) := by unfold oneX; rw [if_pos h0]
    clear h0
    go_wp2_with fail
    have kb := blk_set6 Z6.out (.int .i64 0) (.int .i64 0) (.string ⟨#[]⟩) (.slice none 0 0) (.slice none 0 0) (.int .i64 0)
    have kc := kb.cell
    refine bodyPost_ret (v := .tuple #[.agg #[.int .i64 0, .int .i64 0, .string ⟨#[]⟩, .slice none 0 0, .slice none 0 0, .int .i64 0], .int .i64 X.2.2]) ?_ rfl ⟨_, by rw [hXe], by rw [hXe]; exact ReadAt.zero _ _, ext_set6 X6.out (Nat.le_refl _) _ _ _ _ _ _⟩
    simp [results, Tryz.results20, go_sem, kc]
end Go.Proofs.YtgcdhffeacdegaaGreatDoor

namespace Go.Proofs.YtgcdhffeacdegaaGreatDoor
open Go.RowKit Go.El

theorem oneR_small {O : Ops} {B : List UInt8} (hB : B.length ≤ 65536) : SmallR (oneR O B).1 := by
  unfold oneR oneX
  split
  · exact small_zero
  · split
    · exact small_zero
    · cases hl : (allR O B).1 with
      | nil => exact small_zero
      | cons r l => exact (allR_small hB).1 r (by rw [hl]; simp)

set_option maxRecDepth 100000 in
set_option maxHeartbeats 8000000 in
theorem parseOneLaw_any (L : List OpV) (A0 : Option Addr) (c0 : Nat) (s : ByteArray) (w : World) (hl : El.Src w A0 L.length 3 (flat opCells L)) (hL : L.length ≤ 9223372036854775807) (hg : ∀ o ∈ L, o.s.size ≤ 9223372036854775807)  (g : Glob w) (hT : TypesAt 0 w) :
    Calls Tryz.prog 5 #[.slice A0 L.length c0, .string s] w fun e w' => e = .returned (.bool true) ∧ Ext w w' := by
  have HG := Lib.hid g
  have HT := Lib.hid hT
  have HLV := fun W (x : Ext w W) => Lib.hid (lives10_any W (g.ext x) (hT.ext x))
  have HTB := fun W (x : Ext w W) => Lib.hid (tables_any A0 c0 L W (hT.ext x) (hl.ext x) hL hg)
  by_cases hlg : LgO L
  · have HLG := Lib.hid (ops10Large_any A0 c0 L w hl hL hg true (iff_of_true rfl hlg))
    clear g hT hl hg hlg
    go_enter Tryz.func5, Tryz.ntmps5
    go_wp2_with (first | (go_at_call 11; refine HLG.out.mono ?_; rintro e W1 ⟨rfl, x1⟩; have X1 := Lib.hid x1; clear x1) | (go_at_call 12; refine (HLV _ X1.out).out.mono ?_; rintro e W2 ⟨rfl, x⟩; have X2 := Lib.hid (X1.out.trans x); clear x))
    go_ret
    exact ⟨rfl, X2.out⟩
  · have HLG := Lib.hid (ops10Large_any A0 c0 L w hl hL hg false (by simp [hlg]))
    clear g hT hl hg hlg
    by_cases hz : 2000 < s.size
    · go_enter Tryz.func5, Tryz.ntmps5
      go_wp2_with (first | (go_at_call 11; refine HLG.out.mono ?_; rintro e W1 ⟨rfl, x1⟩; have X1 := Lib.hid x1; clear x1) | (go_at_call 12; refine (HLV _ X1.out).out.mono ?_; rintro e W2 ⟨rfl, x⟩; have X2 := Lib.hid (X1.out.trans x); clear x))
      go_ret
      exact ⟨rfl, X2.out⟩
    · go_enter Tryz.func5, Tryz.ntmps5
      go_upto_region 4 with (first | (go_at_call 11; refine HLG.out.mono ?_; rintro e W1 ⟨rfl, x1⟩; have X1 := Lib.hid x1; clear x1) | (go_at_call 13; refine (HTB _ X1.out).out.mono ?_; rintro e W2 ⟨tb, rb, I, Q, rfl, hop, hrf, x2⟩; have X2 := Lib.hid (X1.out.trans x2); have HOP := Lib.hid hop; have HRF := Lib.hid hrf; clear hop hrf x2))
      obtain ⟨tb', m1, m2, etb, htab, hbd⟩ := HOP.out
      injection etb with etb
      injection etb with etb
      injection etb with etb _
      subst etb
      have HOK : Hid (OpsOk W2 tb I Q) := Lib.hid ⟨⟨m1, m2, htab⟩, hbd, HT.out.ext X2.out⟩
      obtain ⟨rb', tv, T, erb, hre, hfn, hbd2⟩ := HRF.out
      injection erb with erb
      injection erb with erb _
      subst erb
      have HRE := Lib.hid hre
      have HFN := Lib.hid hfn
      have HBD := Lib.hid hbd2
      clear htab hbd hre hfn hbd2 HOP HRF
      obtain ⟨P, hP⟩ : ∃ P, (⟨fun s => findO s I, fun s => findO s Q⟩ : Ops) = P := ⟨_, rfl⟩
      have HP := Lib.hid hP
      clear hP
      have HPA := Lib.hid (parseOne_any (s := s) (by omega) (HG.out.ext X2.out) HOK.out)
      rw [HP.out] at HPA
      have hsm := oneR_small (O := P) (B := s.data.toList ++ [32, 46]) (by simp; omega)
      obtain ⟨Y, hY⟩ : ∃ Y, oneR P (s.data.toList ++ [32, 46]) = Y := ⟨_, rfl⟩
      rw [hY] at HPA hsm
      have HYY := Lib.hid hY
      have HSM := Lib.hid hsm
      clear hY hsm
      obtain ⟨r, y⟩ := Y
      have HP1 := Lib.hid (HPA.out.mono (fun e w' h => h.two))
      clear HPA
      dsimp only at HP1
      go_upto_region 5 with (go_at_call 19; refine HP1.out.mono ?_; rintro e W3 ⟨a1, d1, n1, m1', rfl, hr, hx⟩; have HR1 := Lib.hid hr; have X3 := Lib.hid (X2.out.trans hx); have XR := Lib.hid hx; clear hr hx)
      have hxa := ext_box4 W3 (.cells #[.int .i64 (Tm.k r.t), .int .i64 (Tm.n r.t), .string (Tm.s r.t), .slice a1 (Tm.l r.t).length d1, .slice n1 r.ns.length m1', .int .i64 r.nx] 35)
      have B1 := Lib.hid (Blk.new W3 35 #[.int .i64 (Tm.k r.t), .int .i64 (Tm.n r.t), .string (Tm.s r.t), .slice a1 (Tm.l r.t).length d1, .slice n1 r.ns.length m1', .int .i64 r.nx])
      have R1 := Lib.hid (HR1.out.ext hxa)
      have X4 := Lib.hid (X3.out.trans hxa)
      have HRE4 := Lib.hid (HRE.out.ext (XR.out.trans hxa))
      clear hxa
      generalize W3.alloc (.cells #[.int .i64 (Tm.k r.t), .int .i64 (Tm.n r.t), .string (Tm.s r.t), .slice a1 (Tm.l r.t).length d1, .slice n1 r.ns.length m1', .int .i64 r.nx] 35) = W4 at *
      generalize W3.heap.size = g7 at *
      have HRA := Lib.hid (refOne_any (s := s) (by omega) HRE4.out HFN.out HBD.out)
      rw [HP.out, HYY.out] at HRA
      have HP2 := Lib.hid (HRA.out.mono (fun e w' h => h.two))
      clear HRA
      dsimp only at HP2
      go_upto_region 6 with (go_at_call 20; refine HP2.out.mono ?_; rintro e W5 ⟨a2, d2, n2, m2', rfl, hr, hx⟩; have HR2 := Lib.hid hr; have X5 := Lib.hid (X4.out.trans hx); have XS := Lib.hid hx; clear hr hx)
      have hxb := ext_box4 W5 (.cells #[.int .i64 (Tm.k r.t), .int .i64 (Tm.n r.t), .string (Tm.s r.t), .slice a2 (Tm.l r.t).length d2, .slice n2 r.ns.length m2', .int .i64 r.nx] 35)
      have B2 := Lib.hid (Blk.new W5 35 #[.int .i64 (Tm.k r.t), .int .i64 (Tm.n r.t), .string (Tm.s r.t), .slice a2 (Tm.l r.t).length d2, .slice n2 r.ns.length m2', .int .i64 r.nx])
      have B1b := Lib.hid ((B1.out.ext XS.out).ext hxb)
      have R2 := Lib.hid (HR2.out.ext hxb)
      have R1b := Lib.hid ((R1.out.ext XS.out).ext hxb)
      have X6 := Lib.hid (X5.out.trans hxb)
      clear hxb
      generalize W5.alloc (.cells #[.int .i64 (Tm.k r.t), .int .i64 (Tm.n r.t), .string (Tm.s r.t), .slice a2 (Tm.l r.t).length d2, .slice n2 r.ns.length m2', .int .i64 r.nx] 35) = W6 at *
      generalize W5.heap.size = g9 at *
      have HSS := fun V (x : Ext W6 V) => Lib.hid (same_read r a1 a2 n1 n2 d1 d2 m1' m2' V _ _ (R1b.out.ext x) (R2.out.ext x) HSM.out)
      go_wp2_with (first | (go_at_call 12; refine (HLV _ X6.out).out.mono ?_; rintro e W7 ⟨rfl, x⟩; have X7 := Lib.hid (X6.out.trans x); have XQ := Lib.hid x; have k1 := (B1b.out.ext x).cell; have k2 := (B2.out.ext x).cell; clear x) | (go_at_call 16; refine (HSS _ XQ.out).out.mono ?_; rintro e W8 ⟨rfl, x⟩; have X8 := Lib.hid (X7.out.trans x); clear x))
      go_ret
      exact ⟨rfl, X8.out⟩
end Go.Proofs.YtgcdhffeacdegaaGreatDoor

namespace Go.Proofs.YtgcdhffeacdegaaGreatDoor
open Go.RowKit Go.El Go.ChangeShapes Go.WideShapes Go.ChangeAt Go.Joins Go.ChangeMaps

set_option maxRecDepth 100000 in
theorem parseOne_calls (H : Type) (enc : TypeId × Value → H) (W : World) (base : Nat) (args : Array Value) (ds gs : List (DataW H)) (before : List MemPlace)
    (hval : ∀ (j : Nat) t v, Tryz.f5.params[j]? = some t → args[j]? = some v → Value.okWide Tryz.prog W .any base t v)
    (hW : DataW.Whole enc Tryz.prog Tryz.f5.params.toList Rows.parseOneSpec.vars false W args.toList ds gs before) (g : EnvP W) :
    Calls Tryz.prog 5 args W fun e W' => e = .returned (.bool true) ∧ Ext W W' ∧ Rows.parseOneSpec.fn H (ds ++ gs) = { results := [.lit (.bool true)], args := ds } := by
  obtain ⟨p, q, hA0, hV, rfl, hfz, hnd⟩ := hW
  have hA : DataW.TrodAll enc Tryz.prog W 0 (fun _ => true) true Tryz.f5.params.toList args.toList ds p := hA0
  rw [Tryz.params5] at hA hval
  obtain ⟨v0, vs0, d0, ds0, p0, q0, hargs, rfl, rfl, h0, r0⟩ := trodAll_cons hA
  obtain ⟨v1, vs1, d1, ds1, p1, q1, rfl, rfl, rfl, h1, r1⟩ := trodAll_cons r0
  obtain ⟨rfl, rfl, rfl⟩ := trodAll_nil r1
  obtain rfl : args = #[v0, v1] := Array.ext' hargs
  obtain ⟨rfl, rfl⟩ := trodVars_none hV
  obtain ⟨A0, L, c0, rfl, hl, hn, hLn⟩ := open_ops opType Tryz.underlying22 (hval 0 22 v0 rfl rfl) h0
  unfold maxLen at hn hLn
  obtain ⟨s1, rfl, _, _, hm1⟩ := open_string Tryz.underlying9 (hval 1 9 v1 rfl rfl) h1
  exact (parseOneLaw_any L A0 c0 s1 W hl (by omega) (fun o ho => by have := hn o ho; omega) g.g g.t).mono fun e W' ⟨he, hx⟩ => ⟨he, hx, rfl⟩

set_option maxRecDepth 100000 in
/-- What is claimed of one call: it returns true; nothing that was there has turned. -/
theorem parseOne_row (H : Type) (enc : TypeId × Value → H) (W : World) (base : Nat) (args : Array Value) (ds gs : List (DataW H)) (before : List MemPlace)
    (hval : ∀ (j : Nat) t v, Tryz.f5.params[j]? = some t → args[j]? = some v → Value.okWide Tryz.prog W .any base t v)
    (hW : DataW.Whole enc Tryz.prog Tryz.f5.params.toList Rows.parseOneSpec.vars false W args.toList ds gs before) (hL : laidMetH Tryz.prog Rows.parseOneRow.laid W) (hS : W.ShapedOpen Tryz.prog) :
    Calls Tryz.prog 5 args W fun e W' => ∃ v, e = .returned v ∧ Rows.parseOneSpec.post enc Tryz.prog Tryz.f5 false true false false W args v W' := by
  have hlaid : Rows.parseOneRow.laid = laidL := rfl
  rw [hlaid] at hL
  refine (parseOne_calls H enc W base args ds gs before hval hW (env_of_laid hL hS)).mono fun e W' ⟨he, hx, hs⟩ => ?_
  subst he
  exact ⟨_, rfl, post_law (tb := 4) laidOut (by kernel_rfl) rfl (by kernel_rfl) Tryz.underlying4 hW hs hx⟩

theorem parseOne_reads (os : Os) {H : Type} (enc : TypeId × Value → H) : ∃ places, DataW.whole enc Tryz.prog ((laidWorld os).forCall (fun _ _ => 0) ⟨#[], #[.slice none 0 0, .string ⟨#[]⟩], []⟩).memory Tryz.f5.params.toList Rows.parseOneSpec.vars false (#[.slice none 0 0, .string ⟨#[]⟩] : Array Value).toList 8 = some ([.nil, .lit (.string [])], [], places) :=
  ⟨[], by kernel_rfl⟩

set_option maxRecDepth 100000 in
theorem parseOne_start (os : Os) {H : Type} (enc : TypeId × Value → H) : ∃ (w : World) (tape : Tape) (i : Input), w.os = os ∧ (w.forCall tape i).Shaped Tryz.prog ∧ i.vars = [] ∧ Input.okWide Tryz.prog (w.forCall tape i) .any w.heap.size 5 i ∧
      (OpenSpec.ofChange Rows.parseOneSpec).preRow enc Tryz.prog Tryz.f5 Rows.parseOneRow.domain false Rows.parseOneRow.laid (w.forCall tape i).memory i.args ∧ ({} : Assume).holds Tryz.prog (lone (Frame.enter Tryz.prog 5 i.args .normal) [] (w.forCall tape i)) := by
  obtain ⟨places, hx⟩ := parseOne_reads os enc
  refine ⟨laidWorld os, fun _ _ => 0, ⟨#[], #[.slice none 0 0, .string ⟨#[]⟩], []⟩, World.laidAll_os _ _ _, World.shaped_of_ZipB (by kernel_rfl) (by kernel_rfl), rfl, ?_, ?_, ?_⟩
  · have hok : Input.okWideB Tryz.prog ((laidWorld os).forCall (fun _ _ => 0) ⟨#[], #[.slice none 0 0, .string ⟨#[]⟩], []⟩) 5 ⟨#[], #[.slice none 0 0, .string ⟨#[]⟩], []⟩ = true := by kernel_rfl
    exact (Input.okWide_of_okWideB hok).2
  · exact OpenSpec.preRow_of_cond 8 hx (by kernel_rfl) (fun k hk => by cases hk) (by kernel_rfl) (laid_met os _)
  · simp only [Assume.holds]
    exact ⟨by simp, by simp, (fun h => by cases h), by simp, by simp⟩

set_option maxRecDepth 100000 in
theorem parseOne_lifted (os : Os) (started : os.Started) (H : Type) (enc : TypeId × Value → H) (F : Stop.Interp) :
    ReturnsInHanded {} Tryz.checked os 5 .any ((OpenSpec.ofChange Rows.parseOneSpec).preRow enc Tryz.prog Tryz.f5 Rows.parseOneRow.domain false Rows.parseOneRow.laid) (((OpenSpec.ofChange Rows.parseOneSpec).at F).post enc Tryz.prog Tryz.f5 false true false false) := by
  refine returnsInHanded_of_row (C := Tryz.checked) (s := OpenSpec.ofChange Rows.parseOneSpec) own started (by kernel_rfl) Tryz.func5 (parseOne_start os enc) ?_
  intro W base args ds gs before hval hW _ _ _ hL hS _
  exact parseOne_row H enc W base args ds gs before hval hW hL hS

theorem parseOne_said : Rows.ParseOneSaid :=
  OpenClaim.holds_of_cond 5 Tryz.f5 rfl rfl rfl rfl rfl rfl rfl ⟨rfl, rfl, rfl, rfl, rfl⟩ rfl rfl rfl rfl rfl (by kernel_rfl) Tryz.func5 (by kernel_rfl)
    (of_decide_eq_true (by kernel_rfl)) (by unfold Func.isWrapper; first | (rw [if_pos (by decide +kernel)]; kernel_rfl) | (rw [if_neg (by decide +kernel)]; exact ⟨rfl, rfl⟩))
    (fun os started H enc _ F => by rw [OpenClaim.pre_eq_preRow]; exact parseOne_lifted os started H enc F)

theorem parseOne_plain (f : FuncId) (fn : Func) (hf : Tryz.pinned.checked.prog.funcNamed Rows.parseOneRow.func = some f) (hfn : Tryz.pinned.checked.prog.funcs[f]? = some fn) :
    true = Tryz.pinned.checked.prog.looks [] ∧ ∀ (j : Nat) t, fn.params[j]? = some t → Tryz.pinned.checked.prog.wantsStandIn t = false := by
  obtain rfl : f = 5 := Option.some.inj ((show Tryz.prog.funcNamed Rows.parseOneRow.func = some 5 by kernel_rfl).symm.trans hf) |>.symm
  obtain rfl : fn = Tryz.f5 := (Option.some.inj (Tryz.func5.symm.trans hfn)).symm
  refine ⟨by kernel_rfl, fun j t ht => ?_⟩
  have hall : (Tryz.f5.params.toList.all fun t => !Tryz.prog.wantsStandIn t) = true := by kernel_rfl
  have hm := List.all_eq_true.1 hall t (by simpa using Array.mem_of_getElem? ht)
  have hw : Tryz.prog.wantsStandIn t = false := by simpa using hm
  exact hw

/-- The card: ParseOne. -/
theorem parseOne_card : Rows.ParseOneCardSaid :=
  Claim7.holds_tied_plain_at .later [] _ _ _ _ parseOne_said (fun _ h => by cases h) (by kernel_rfl) (fun _ h => by cases h) parseOne_row_tie rfl ⟨rfl, rfl⟩ (by kernel_rfl) rfl parseOne_plain (by kernel_rfl)

end Go.Proofs.YtgcdhffeacdegaaGreatDoor
