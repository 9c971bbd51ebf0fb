/- Layer 10, the program: the walk of list. -/
import Derived.Test.YtgcdhffeacdegaaGreatDoorG24
namespace Go.Proofs.YtgcdhffeacdegaaGreatDoor
open Go.RowKit Go.El

/-- A list behind its row. -/
def listM (O : Ops) (n : Nat) (x : PR (List Tm)) : PR Tm := match x with
  | .bad q => .bad q
  | .ok l q ms => if isPu q 124 then wantM 93 (fun u => listT l u) (termN O n 999 q.tail ms) else wantP 93 (listT l (atomT nilB)) q ms
theorem list_no {O : Ops} {n : Nat} {x : PR (List Tm)} {l : List Tm} {r : List TokV} {ns : List ByteArray} {bad : Bool} (h : resIs x l r ns bad) (hs : (!bad && isPu r 124) = false) :
    resIs (listM O n x) (listT l (atomT nilB)) (if (!bad && isPu r 93) = true then r.tail else r) ns (bad || !isPu r 93) := by
  cases x with
  | bad q =>
    obtain ⟨rfl, rfl⟩ := h
    exact ⟨rfl, rfl⟩
  | ok b q ms =>
    obtain ⟨rfl, rfl, rfl, rfl⟩ := h
    have hs2 : isPu q 124 = false := by simpa using hs
    show resIs (if isPu q 124 then _ else _) _ _ _ _
    rw [hs2]
    show resIs (wantP 93 _ q ms) _ _ _ _
    unfold wantP
    cases isPu q 93
    · exact ⟨rfl, rfl⟩
    · exact ⟨rfl, rfl, rfl, rfl⟩
theorem list_yes {O : Ops} {n : Nat} {x : PR (List Tm)} {l : List Tm} {r : List TokV} {ns : List ByteArray} {bad : Bool} (h : resIs x l r ns bad) (hs : (!bad && isPu r 124) = true) {u : Tm} {r2 : List TokV} {ns2 : List ByteArray} {b2 : Bool} (h2 : resIs (termN O n 999 r.tail ns) u r2 ns2 b2) :
    resIs (listM O n x) (listT l u) (if (!b2 && isPu r2 93) = true then r2.tail else r2) ns2 (b2 || !isPu r2 93) := by
  cases x with
  | bad q =>
    obtain ⟨rfl, rfl⟩ := h
    cases hs
  | ok b q ms =>
    obtain ⟨rfl, rfl, rfl, rfl⟩ := h
    have hs2 : isPu q 124 = true := by simpa using hs
    show resIs (if isPu q 124 then _ else _) _ _ _ _
    rw [hs2]
    exact want_res (c := 93) (g := fun u => listT b u) h2
theorem size_set4 (W : World) (z : Nat) (a b c d : Value) : (set4 W z a b c d).heap.size = W.heap.size := by simp [set4]
theorem clr_set4 {S : List Nat} {nv : Value} {W : World} {k : Nat} (h : Clr2 S nv W k) (z : Nat) (a b c d : Value) : Clr2 S nv (set4 W z a b c d) k := ⟨h.1, h.2.1, by rw [size_set4]; exact h.2.2⟩
theorem blk_set4_far {W : World} {g z : Nat} {T : TypeId} {cs : Array Value} (h : Blk W g T cs) (hz : g ≠ z) (a b c d : Value) : Blk (set4 W z a b c d) g T cs :=
  (((h.far (p := ⟨z, 0, none⟩) (by simpa using hz) a).far (p := ⟨z, 1, none⟩) (by simpa using hz) b).far (p := ⟨z, 2, none⟩) (by simpa using hz) c).far (p := ⟨z, 3, none⟩) (by simpa using hz) d
set_option maxRecDepth 100000 in
set_option maxHeartbeats 8000000 in
theorem paList {f : PF} {N : Nat} (IH : PTermC f N) {r : List TokV} (hN : r.length ≤ N) {w : World} {nv : Value} {ns : List ByteArray} (h : PaAt f w r nv ns false) {n : Nat} (hn : 5 * r.length + 6 ≤ n) :
    Calls Tryz.prog 139 #[.pointer (some ⟨f.pb, 0, none⟩)] w (TPost f w nv r (listM f.O n (rowN f.O n false [] r ns))) := by
  have hx := ext_box4 w (.cells #[.int .i64 0, .int .i64 0, .string ⟨#[]⟩, .slice none 0 0] 32)
  have HO := Lib.hid h.old
  have HR := Lib.hid (paRow_all IH hN (h.ext hx) hn)
  have HZ := Lib.hid (Blk.new w 32 #[.int .i64 0, .int .i64 0, .string ⟨#[]⟩, .slice none 0 0])
  have HC := Lib.hid (clr_box h (Nat.le_refl _) HZ.out.lt)
  have S0 := Lib.hid (PStep.ext (S := f.S) (nv := nv) hx)
  have HSZ := Lib.hid (World.size_alloc w (.cells #[.int .i64 0, .int .i64 0, .string ⟨#[]⟩, .slice none 0 0] 32))
  have HNN := Lib.hid hN
  have HM := Lib.hid hn
  have hp : f.pb < w.heap.size := h.blk.lt
  have HA := fun W => Lib.hid (pAtom_any nilB W)
  unfold nilB at HA
  obtain ⟨X, hX⟩ : ∃ X, rowN f.O n false [] r ns = X := ⟨_, rfl⟩
  rw [hX] at HR ⊢
  clear h hx hN hn hX
  go_enter Tryz.func139, Tryz.ntmps139
  go_upto_region 1 with fail
  generalize w.alloc (.cells #[.int .i64 0, .int .i64 0, .string ⟨#[]⟩, .slice none 0 0] 32) = W0 at *
  go_upto_region 2 with (go_at_call 141; refine HR.out.mono ?_; rintro e W1 ⟨v1, M, nv1, r1, ns1, b1, rfl, hres, h1, s1, hr1, hne, hml, hl1⟩; obtain ⟨A1, c1, rfl⟩ := own_value hr1.own; have HRES0 := Lib.hid hres; have H1 := Lib.hid h1; have S1 := Lib.hid s1; have R1 := Lib.hid hr1; have HML := Lib.hid hml; have L1 := Lib.hid hl1; clear hres h1 s1 hr1 hne hml hl1)
  have Z1 := Lib.hid (HZ.out.mods S1.out.mods HC.out.no)
  have C1 := Lib.hid (S1.out.clr HC.out)
  go_upto_region 3 with (go_at_call 103; refine (HA _).out.mono ?_; rintro e W2 ⟨rfl, x2⟩; have X2 := Lib.hid x2; clear x2)
  have H2 := Lib.hid (H1.out.ext X2.out)
  have hx3 := ext_box4 W2 (.cells #[.int .i64 3, .int .i64 0, .string ⟨#[91, 93]⟩, .slice none 0 0] 32)
  have H3 := Lib.hid (H2.out.ext hx3)
  have S3 := Lib.hid (PStep.ext (S := f.S) (nv := nv1) (X2.out.trans hx3))
  have Z3 := Lib.hid (Z1.out.ext (X2.out.trans hx3))
  have C3 := Lib.hid (S3.out.clr C1.out)
  have B3 : Hid (Blk (W2.alloc (.cells #[.int .i64 3, .int .i64 0, .string ⟨#[91, 93]⟩, .slice none 0 0] 32)) W2.heap.size 32 #[.int .i64 (Tm.k (atomT nilB)), .int .i64 (Tm.n (atomT nilB)), .string (Tm.s (atomT nilB)), .slice none (Tm.l (atomT nilB)).length 0]) := Lib.hid (Blk.new W2 32 #[.int .i64 3, .int .i64 0, .string ⟨#[91, 93]⟩, .slice none 0 0])
  have D3 := Lib.hid (clr_box H2.out (Nat.le_refl _) B3.out.lt)
  have G3 : Hid (W1.heap.size ≤ W2.heap.size) := Lib.hid X2.out.size
  have G0 : Hid (W0.heap.size ≤ W2.heap.size) := Lib.hid (Nat.le_trans S1.out.size X2.out.size)
  have hgw : w.heap.size < W2.heap.size := by have := G0.out; have := HSZ.out; omega
  clear hx3 H2 X2 Z1
  generalize W2.alloc (.cells #[.int .i64 3, .int .i64 0, .string ⟨#[91, 93]⟩, .slice none 0 0] 32) = W3 at *
  generalize W2.heap.size = gB at *
  have HS := Lib.hid (paSkip ⟨#[124]⟩ H3.out)
  rw [isPs_lit] at HS
  cases hs : (!b1 && isPu r1 124)
  · rw [hs] at HS
    have HRES := Lib.hid (list_no (O := f.O) (n := n) HRES0.out hs)
    have LX := L1
    clear hs
    go_upto_region 5 with (go_at_call 138; refine HS.out.mono ?_; rintro e WX ⟨rfl, h4, s4⟩; have HX := Lib.hid h4; have S4 := Lib.hid s4; clear h4 s4)
    have SXW : Hid (W0.heap.size ≤ WX.heap.size) := Lib.hid (Nat.le_trans S1.out.size (Nat.le_trans S3.out.size S4.out.size))
    have SX := Lib.hid (S0.out.trans (S1.out.trans (S3.out.trans S4.out)))
    have RX := Lib.hid ((R1.out.step S3.out).step S4.out)
    have ZX := Lib.hid (Z3.out.mods S4.out.mods C3.out.no)
    have CZ := Lib.hid (S4.out.clr C3.out)
    have BX := Lib.hid (B3.out.mods S4.out.mods D3.out.no)
    have CB := Lib.hid (S4.out.clr D3.out)
    have TX : Hid (TmIn (NewT f.S nv1 W0 WX) WX (atomT nilB) none 0) := Lib.hid (TmsIn.term (TmsIn.nil _ _ _ _) 3 0 nilB)
    generalize atomT nilB = u at *
    have HW := Lib.hid (paWant ⟨#[93]⟩ HX.out)
    rw [isPs_lit] at HW
    have bcx := BX.out.cell
    go_upto_region 6 with (go_at_call 143; refine HW.out.mono ?_; rintro e W7 ⟨rfl, h7, s7⟩; have H7 := Lib.hid h7; have S7 := Lib.hid s7; clear h7 s7)
    have B7 := Lib.hid (BX.out.mods S7.out.mods CB.out.no)
    have Z7 := Lib.hid (ZX.out.mods S7.out.mods CZ.out.no)
    have R7 := Lib.hid (RX.out.step S7.out)
    have T7 := Lib.hid (pstep_tmN S7.out TX.out)
    have HL := Lib.hid (tlist_any M A1 c1 u none 0 W7 (NewT f.S nv1 W0 W7) (Src.of_own R7.out.own) (fun p hp => (R7.out.kid p hp).mono (fun k hk => hk.1)) T7.out (fun a ha => (R7.out.far a.block (by rw [ha]; rfl)).2.2.2) (fun k hk => hk.2.2.2) HML.out)
    have b7 := B7.out.cell
    clear bcx
    go_wp2_with (go_at_call 169; refine HL.out.mono ?_; rintro e W8 ⟨A8, c8, rfl, ht8, hx8⟩; have T8 := Lib.hid ht8; have X8 := Lib.hid hx8; have Z8 := Lib.hid (Z7.out.ext hx8); have zc := (Z7.out.ext hx8).cell; have zf := (Z7.out.ext hx8).frozen; clear ht8 hx8)
    obtain ⟨tr, htr⟩ : ∃ tr, listT (M.map (fun (p : TmP) => p.1)) u = tr := ⟨_, rfl⟩
    rw [htr] at T8 HRES ⊢
    have kb := blk_set4 Z8.out (.int .i64 (Tm.k tr)) (.int .i64 (Tm.n tr)) (.string (Tm.s tr)) (.slice A8 (Tm.l tr).length c8)
    have kc := kb.cell
    have h9 := (H7.out.ext X8.out).set4 HO.out (Nat.le_refl _) Z8.out (.int .i64 (Tm.k tr)) (.int .i64 (Tm.n tr)) (.string (Tm.s tr)) (.slice A8 (Tm.l tr).length c8)
    have s9 := pstep_set4 (SX.out.trans (S7.out.trans (PStep.ext X8.out))) (Nat.le_refl _) (.int .i64 (Tm.k tr)) (.int .i64 (Tm.n tr)) (.string (Tm.s tr)) (.slice A8 (Tm.l tr).length c8)
    have hnew : TmIn (NewT f.S nv1 W0 W8) W8 tr A8 c8 := T8.out.mono (fun k hk => by
      rcases hk with hk | ⟨hk1, hk2⟩
      · exact hk.step (PStep.ext X8.out)
      · exact ⟨Nat.le_trans (Nat.le_trans SXW.out S7.out.size) hk1, clr_box H7.out hk1 hk2⟩)
    have t9 := tmN_wide (w := w) (tmN_set4 hnew (z := w.heap.size) (by have := HSZ.out; omega) (.int .i64 (Tm.k tr)) (.int .i64 (Tm.n tr)) (.string (Tm.s tr)) (.slice A8 (Tm.l tr).length c8)) (by have := HSZ.out; omega)
    refine bodyPost_ret (v := .agg #[.int .i64 (Tm.k tr), .int .i64 (Tm.n tr), .string (Tm.s tr), .slice A8 (Tm.l tr).length c8]) ?_ rfl ⟨tr, A8, c8, nv1, _, _, _, rfl, HRES.out, h9, s9, t9, Nat.le_trans (tail_le _ _) LX.out⟩
    simp [results, Tryz.results139, go_sem, kc]
  · have hs2 := hs
    rw [hs] at HS
    have hb : b1 = false := by
      cases b1
      · rfl
      · cases hs2
    have hpu : isPu r1 124 = true := by
      subst hb
      simpa using hs2
    subst hb
    have HSH := Lib.hid hs
    have htl : r1.tail.length + 1 = r1.length := by
      cases r1 with
      | nil => cases hpu
      | cons a b => rfl
    have HTL := Lib.hid htl
    clear hs hs2 hpu htl
    go_upto_region 4 with (go_at_call 138; refine HS.out.mono ?_; rintro e W4 ⟨rfl, h4, s4⟩; have H4 := Lib.hid h4; have S4 := Lib.hid s4; clear h4 s4)
    have HT4 := Lib.hid (IH r1.tail ns1 nv1 W4 n 999 (by have := HTL.out; have := L1.out; have := HNN.out; omega) H4.out (by have := HTL.out; have := L1.out; have := HM.out; omega))
    have Z4 := Lib.hid (Z3.out.mods S4.out.mods C3.out.no)
    have C4 := Lib.hid (S4.out.clr C3.out)
    have B4 := Lib.hid (B3.out.mods S4.out.mods D3.out.no)
    have D4 := Lib.hid (S4.out.clr D3.out)
    have G4 : Hid (W0.heap.size ≤ W4.heap.size) := Lib.hid (Nat.le_trans S1.out.size (Nat.le_trans S3.out.size S4.out.size))
    go_upto_region 5 with (go_at_call 41; refine HT4.out.mono ?_; rintro e W5 ⟨u, Au, cu, nv5, r5, ns5, b5, rfl, hres, h5, s5, ht5, hl5⟩; have HRES5 := Lib.hid hres; have H5 := Lib.hid h5; have S5 := Lib.hid s5; have T5 := Lib.hid ht5; have L5 := Lib.hid hl5; have B5 := Lib.hid (B4.out.mods s5.mods D4.out.no); have fb5 := (B4.out.mods s5.mods D4.out.no).frozen; have cb5 := (B4.out.mods s5.mods D4.out.no).cell; clear hres h5 s5 ht5 hl5)
    rw [set4_eq]
    have HX := Lib.hid (H5.out.set4 HO.out (Nat.le_of_lt hgw) B5.out (.int .i64 (Tm.k u)) (.int .i64 (Tm.n u)) (.string (Tm.s u)) (.slice Au (Tm.l u).length cu))
    have SX := Lib.hid (pstep_set4 (S0.out.trans (S1.out.trans (S3.out.trans (S4.out.trans S5.out)))) (Nat.le_of_lt hgw) (.int .i64 (Tm.k u)) (.int .i64 (Tm.n u)) (.string (Tm.s u)) (.slice Au (Tm.l u).length cu))
    have RX := Lib.hid (R1.out.step (pstep_set4 (S3.out.trans (S4.out.trans S5.out)) G3.out (.int .i64 (Tm.k u)) (.int .i64 (Tm.n u)) (.string (Tm.s u)) (.slice Au (Tm.l u).length cu)))
    have ZX := Lib.hid (blk_set4_far (Z4.out.mods S5.out.mods C4.out.no) (Nat.ne_of_lt hgw) (.int .i64 (Tm.k u)) (.int .i64 (Tm.n u)) (.string (Tm.s u)) (.slice Au (Tm.l u).length cu))
    have CZ := Lib.hid (clr_set4 (S5.out.clr C4.out) gB (.int .i64 (Tm.k u)) (.int .i64 (Tm.n u)) (.string (Tm.s u)) (.slice Au (Tm.l u).length cu))
    have BX := Lib.hid (blk_s4 B5.out (.int .i64 (Tm.k u)) (.int .i64 (Tm.n u)) (.string (Tm.s u)) (.slice Au (Tm.l u).length cu))
    have CB := Lib.hid (clr_set4 (S5.out.clr D4.out) gB (.int .i64 (Tm.k u)) (.int .i64 (Tm.n u)) (.string (Tm.s u)) (.slice Au (Tm.l u).length cu))
    have TX := Lib.hid (tmN_wide (w := W0) (tmN_set4 T5.out (z := gB) D4.out.2.2 (.int .i64 (Tm.k u)) (.int .i64 (Tm.n u)) (.string (Tm.s u)) (.slice Au (Tm.l u).length cu)) G4.out)
    have HRES := Lib.hid (list_yes (O := f.O) (n := n) HRES0.out HSH.out HRES5.out)
    have LX : Hid (r5.length ≤ r.length) := Lib.hid (Nat.le_trans L5.out (by have := HTL.out; have := L1.out; omega))
    have SXW : Hid (W0.heap.size ≤ (set4 W5 gB (.int .i64 (Tm.k u)) (.int .i64 (Tm.n u)) (.string (Tm.s u)) (.slice Au (Tm.l u).length cu)).heap.size) := Lib.hid (by rw [size_set4]; exact Nat.le_trans G4.out S5.out.size)
    generalize set4 W5 gB (.int .i64 (Tm.k u)) (.int .i64 (Tm.n u)) (.string (Tm.s u)) (.slice Au (Tm.l u).length cu) = WX at *
    clear H5 B5 fb5 cb5 T5 HRES5 Z4 C4 B4 D4 H4 HT4
    have HW := Lib.hid (paWant ⟨#[93]⟩ HX.out)
    rw [isPs_lit] at HW
    have bcx := BX.out.cell
    go_upto_region 6 with (go_at_call 143; refine HW.out.mono ?_; rintro e W7 ⟨rfl, h7, s7⟩; have H7 := Lib.hid h7; have S7 := Lib.hid s7; clear h7 s7)
    have B7 := Lib.hid (BX.out.mods S7.out.mods CB.out.no)
    have Z7 := Lib.hid (ZX.out.mods S7.out.mods CZ.out.no)
    have R7 := Lib.hid (RX.out.step S7.out)
    have T7 := Lib.hid (pstep_tmN S7.out TX.out)
    have HL := Lib.hid (tlist_any M A1 c1 u Au cu W7 (NewT f.S nv5 W0 W7) (Src.of_own R7.out.own) (fun p hp => (R7.out.kid p hp).mono (fun k hk => hk.1)) T7.out (fun a ha => (R7.out.far a.block (by rw [ha]; rfl)).2.2.2) (fun k hk => hk.2.2.2) HML.out)
    have b7 := B7.out.cell
    clear bcx
    go_wp2_with (go_at_call 169; refine HL.out.mono ?_; rintro e W8 ⟨A8, c8, rfl, ht8, hx8⟩; have T8 := Lib.hid ht8; have X8 := Lib.hid hx8; have Z8 := Lib.hid (Z7.out.ext hx8); have zc := (Z7.out.ext hx8).cell; have zf := (Z7.out.ext hx8).frozen; clear ht8 hx8)
    obtain ⟨tr, htr⟩ : ∃ tr, listT (M.map (fun (p : TmP) => p.1)) u = tr := ⟨_, rfl⟩
    rw [htr] at T8 HRES ⊢
    have kb := blk_set4 Z8.out (.int .i64 (Tm.k tr)) (.int .i64 (Tm.n tr)) (.string (Tm.s tr)) (.slice A8 (Tm.l tr).length c8)
    have kc := kb.cell
    have h9 := (H7.out.ext X8.out).set4 HO.out (Nat.le_refl _) Z8.out (.int .i64 (Tm.k tr)) (.int .i64 (Tm.n tr)) (.string (Tm.s tr)) (.slice A8 (Tm.l tr).length c8)
    have s9 := pstep_set4 (SX.out.trans (S7.out.trans (PStep.ext X8.out))) (Nat.le_refl _) (.int .i64 (Tm.k tr)) (.int .i64 (Tm.n tr)) (.string (Tm.s tr)) (.slice A8 (Tm.l tr).length c8)
    have hnew : TmIn (NewT f.S nv5 W0 W8) W8 tr A8 c8 := T8.out.mono (fun k hk => by
      rcases hk with hk | ⟨hk1, hk2⟩
      · exact hk.step (PStep.ext X8.out)
      · exact ⟨Nat.le_trans (Nat.le_trans SXW.out S7.out.size) hk1, clr_box H7.out hk1 hk2⟩)
    have t9 := tmN_wide (w := w) (tmN_set4 hnew (z := w.heap.size) (by have := HSZ.out; omega) (.int .i64 (Tm.k tr)) (.int .i64 (Tm.n tr)) (.string (Tm.s tr)) (.slice A8 (Tm.l tr).length c8)) (by have := HSZ.out; omega)
    refine bodyPost_ret (v := .agg #[.int .i64 (Tm.k tr), .int .i64 (Tm.n tr), .string (Tm.s tr), .slice A8 (Tm.l tr).length c8]) ?_ rfl ⟨tr, A8, c8, nv5, _, _, _, rfl, HRES.out, h9, s9, t9, Nat.le_trans (tail_le _ _) LX.out⟩
    simp [results, Tryz.results139, go_sem, kc]
end Go.Proofs.YtgcdhffeacdegaaGreatDoor
