/- Layer 10, the program: the walk of operand. -/
import Derived.Test.YtgcdhffeacdegaaGreatDoorH28
namespace Go.Proofs.YtgcdhffeacdegaaGreatDoor
open Go.RowKit Go.El
theorem ret_bP {a b : Bool} (h : a = b) : Ending.returned (.bool a) = Ending.returned (.bool b) := by rw [h]
set_option maxRecDepth 100000 in
theorem indexS_any (L : List ByteArray) (v : ByteArray) (b off c : Nat) (w : World) (h : ∀ j x, L[j]? = some x → w.cell? ⟨b, off + j, none⟩ = some (.string x)) (hl : L.length ≤ 1000) :
  Calls Tryz.prog 136 #[.slice (some ⟨b, off, none⟩) L.length c, .string v] w fun e w' => (∃ r : Int, e = .returned (.int .i64 r) ∧ -1 ≤ r ∧ (0 ≤ r ↔ v ∈ L)) ∧ w = w' := by
 have H := Lib.hid h
 clear h
 go_enter Tryz.func136, Tryz.ntmps136
 go_wp2_with fail
 go_loopw [8] (fun i wr => ∃ k : Nat, k ≤ L.length ∧ i = .int .i64 k ∧ w = wr ∧ Hid (∀ j x, j < k → L[j]? = some x → ¬ v = x)) (fun i _ => L.length - (intOf i).toNat)
 case atStart => exact ⟨0, Nat.zero_le _, rfl, rfl, Lib.hid (fun j x h => by omega)⟩
 case round =>
  obtain ⟨k, hk, rfl, rfl, HN⟩ := hrel
  by_cases hlt : k < L.length
  ·have ho : L[k]? = some L[k] := List.getElem?_eq_getElem hlt
   have c0 := H.out k _ ho
   have HK := Lib.hid ho
   clear ho
   generalize L[k] = x at *
   have hb := @str_beq v x
   by_cases hx : v = x
   ·have HM := Lib.hid (List.mem_of_getElem? HK.out)
    rw [decide_eq_true hx] at hb
    have HX := Lib.hid hx
    clear hx
    go_wp2_with fail
    go_ret
    exact ⟨⟨k, rfl, by omega, fun _ => by rw [HX.out]; exact HM.out, fun _ => by omega⟩, rfl⟩
   ·rw [decide_eq_false hx] at hb
    have HX := Lib.hid hx
    clear hx
    go_wp2_with fail
    go_roundw
    case rel =>
     exact ⟨k + 1, hlt, by go_num, trivial, Lib.hid (fun j y hj hy => by
      rcases Nat.lt_succ_iff_lt_or_eq.1 hj with h | rfl
      ·exact HN.out j y h hy
      ·have := Option.some.inj (hy.symm.trans HK.out)
       rw [this]
       exact HX.out)⟩
    case measure => simp [intOf]; omega
  ·obtain rfl : k = L.length := by omega
   go_wp2_with fail
   go_ret
   refine ⟨⟨-1, rfl, by omega, fun h => by omega, fun h => ?_⟩, rfl⟩
   obtain ⟨j, hj⟩ := List.mem_iff_getElem?.1 h
   exact absurd rfl (HN.out j _ (List.getElem?_eq_some_iff.1 hj).1 hj)
set_option maxRecDepth 100000 in
theorem containsS_any (L : List ByteArray) (v : ByteArray) (b off c : Nat) (w : World) (R : Bool) (h : ∀ j x, L[j]? = some x → w.cell? ⟨b, off + j, none⟩ = some (.string x)) (hl : L.length ≤ 1000) (hR : R = true ↔ v ∈ L) :
  Calls Tryz.prog 93 #[.slice (some ⟨b, off, none⟩) L.length c, .string v] w fun e w' => e = .returned (.bool R) ∧ w = w' := by
 have H := Lib.hid (indexS_any L v b off c w h hl)
 have HR := Lib.hid hR
 clear h hR
 generalize L.length = n at *
 go_enter Tryz.func93, Tryz.ntmps93
 go_wp2_with (go_at_call 136; refine H.out.mono ?_; rintro e W1 ⟨⟨r, rfl, hr1, hr2⟩, rfl⟩; have HR2 := Lib.hid hr2; clear hr2)
 go_ret
 exact ⟨ret_bP (by rw [Bool.eq_iff_iff, HR.out, ← HR2.out]; simp), rfl⟩
theorem lit3 (W : World) (a b c : ByteArray) (j : Nat) (x : ByteArray) (h : [a, b, c][j]? = some x) : (W.alloc (.cells #[.string a, .string b, .string c] 9)).cell? ⟨W.heap.size, 0 + j, none⟩ = some (.string x) := by
 have hb := (Blk.new W 9 #[.string a, .string b, .string c]).cell j
 rw [Nat.zero_add, hb]
 match j, h with
 | 0, h => simp at h; simp [h]
 | 1, h => simp at h; simp [h]
 | 2, h => simp at h; simp [h]
 | n + 3, h => simp at h
set_option maxRecDepth 100000 in
set_option maxHeartbeats 8000000 in
theorem paOper_par {f : PF} {N : Nat} (IH : PTermC f N) (most : Int) {r : List TokV} (hN : r.length ≤ N + 1) {w : World} {nv : Value} {ns : List ByteArray} (h : PaAt f w r nv ns false) {n : Nat} (hn : 5 * r.length + 3 ≤ n) {t0 : TokV} {q : List TokV} (e : r = t0 :: q) (hk : t0.kind = 5) (hs : t0.s = ⟨#[40]⟩) :
  Calls Tryz.prog 64 #[.pointer (some ⟨f.pb, 0, none⟩), .int .i64 most] w (OPost f w nv r (operN f.O n most r ns)) := by
 obtain ⟨m, rfl⟩ : ∃ m, n = m + 1 := ⟨n - 1, by omega⟩
 have HN := fun W (x : Ext w W) => Lib.hid (paNext (h.ext x) e)
 unfold tokA at HN
 have hop : operN f.O (m + 1) most r ns = bracN f.O m t0 q ns := by rw [e]; simp [operN, hk]
 rw [hop]
 obtain ⟨u, qq, hq⟩ := h.toks.more h.suf e (by rw [hk]; decide)
 have t1 := suf_tail h.suf e
 have t3 := plI_tail h.suf e
 have hqn : q ≠ [] := by rw [hq]; simp
 have hkL := plI_lt h.suf h.nil
 have hLL := h.toks.len
 have HL : Hid (ns.length + q.length ≤ f.L.length) := Lib.hid (by have := h.nl; rw [e] at this; simp at this; omega)
 have HQL : Hid (q.length + 1 = r.length) := Lib.hid (by rw [e]; simp)
 have HL2 := Lib.hid h.nl
 have HT3 := Lib.hid t3
 have HNN := Lib.hid hN
 have HM := Lib.hid hn
 clear t3 hq hN hn
 obtain ⟨X, hX⟩ : ∃ X, bracN f.O m t0 q ns = X := ⟨_, rfl⟩
 rw [hX]
 have HLX := Lib.hid hX
 clear hX
 rw [hk, hs] at HN
 have HSS := Lib.hid hs
 clear e hk hs hop
 generalize t0.n = tn at *
 generalize t0.at_ = ta at *
 generalize t0.lay = tl at *
 have hx := ext_box4 w (.cells #[.int .i64 0, .int .i64 0, .string ⟨#[]⟩, .slice none 0 0] 32)
 have HO := Lib.hid h.old
 have HXB := Lib.hid hx
 have H := Lib.hid h
 have HZ := Lib.hid (Blk.new w 32 #[.int .i64 0, .int .i64 0, .string ⟨#[]⟩, .slice none 0 0])
 have c5 := hx.cell h.cells.c5
 have HSZ := Lib.hid (World.size_alloc w (.cells #[.int .i64 0, .int .i64 0, .string ⟨#[]⟩, .slice none 0 0] 32))
 have hp : f.pb < w.heap.size := h.blk.lt
 clear h hx
 go_enter Tryz.func64, Tryz.ntmps64
 go_upto_region 4 with (go_at_call 42; refine (HN _ HXB.out).out.mono ?_; rintro e W1 ⟨rfl, x1⟩; have X1 := Lib.hid ((HXB.out.trans x1).alloc (.cells #[.int .i64 5, .string ⟨#[40]⟩, .int .i64 tn, .int .i64 ta, .bool tl] 55)); have Z1 := Lib.hid ((HZ.out.ext x1).ext (ext_box4 _ (.cells #[.int .i64 5, .string ⟨#[40]⟩, .int .i64 tn, .int .i64 ta, .bool tl] 55))); have B6 := Lib.hid (Blk.new W1 55 #[.int .i64 5, .string ⟨#[40]⟩, .int .i64 tn, .int .i64 ta, .bool tl]); have G6 : Hid (w.heap.size < W1.heap.size) := Lib.hid (by have := x1.size; rw [HSZ.out] at this; omega); clear x1)
 generalize W1.alloc (.cells #[.int .i64 5, .string ⟨#[40]⟩, .int .i64 tn, .int .i64 ta, .bool tl] 55) = WB at *
 generalize W1.heap.size = g6 at *
 have HB := Lib.hid (H.out.ext X1.out)
 have SB := Lib.hid (PStep.ext (S := f.S) (nv := nv) X1.out)
 have ZB := Z1
 have CB := Lib.hid (clr_box H.out (Nat.le_refl _) Z1.out.lt)
 have k6 := B6.out.cell
 have GB : Hid (w.heap.size < WB.heap.size) := Lib.hid Z1.out.lt
 clear HXB HZ c5 Z1 HN
 have HCT := Lib.hid (containsS_any [⟨#[40]⟩, ⟨#[91]⟩, ⟨#[123]⟩] ⟨#[40]⟩ WB.heap.size 0 3 (WB.alloc (.cells #[.string ⟨#[40]⟩, .string ⟨#[91]⟩, .string ⟨#[123]⟩] 9)) true (lit3 WB _ _ _) (by simp) (by simp))
 simp only [List.length_cons, List.length_nil, Nat.reduceAdd] at HCT
 have HB2 := Lib.hid (HB.out.ext (ext_box4 WB (.cells #[.string ⟨#[40]⟩, .string ⟨#[91]⟩, .string ⟨#[123]⟩] 9)))
 have SB2 := Lib.hid (SB.out.trans (PStep.ext (ext_box4 WB (.cells #[.string ⟨#[40]⟩, .string ⟨#[91]⟩, .string ⟨#[123]⟩] 9))))
 have ZB2 := Lib.hid (ZB.out.ext (ext_box4 WB (.cells #[.string ⟨#[40]⟩, .string ⟨#[91]⟩, .string ⟨#[123]⟩] 9)))
 have B62 := Lib.hid (B6.out.ext (ext_box4 WB (.cells #[.string ⟨#[40]⟩, .string ⟨#[91]⟩, .string ⟨#[123]⟩] 9)))
 have CB2 := Lib.hid ((PStep.ext (S := f.S) (nv := nv) (ext_box4 WB (.cells #[.string ⟨#[40]⟩, .string ⟨#[91]⟩, .string ⟨#[123]⟩] 9))).clr CB.out)
 have hl6 := B6.out.lt
 go_upto_region 8 with (go_at_call 93; refine HCT.out.mono ?_; rintro e W2 ⟨rfl, hw2⟩; subst hw2)
 clear HB SB ZB B6 CB k6 HCT hl6 GB
 generalize WB.alloc (.cells #[.string ⟨#[40]⟩, .string ⟨#[91]⟩, .string ⟨#[123]⟩] 9) = WD at *
 clear X1
 generalize WB.heap.size = gD at *
 have HB := HB2
 have SB := SB2
 have ZB := ZB2
 have CB := CB2
 have B6 := B62
 have k6 := B6.out.cell
 have GB : Hid (w.heap.size < WD.heap.size) := Lib.hid ZB.out.lt
 clear HB2 SB2 ZB2 CB2 B62
 have s1 := HB.out.setI t1 hqn HL.out ((plI f.L r : Int) + 1) (by rw [HT3.out]; omega)
 have c1 := HB.out.cells.c1
 have f1 := HB.out.blk.frozen 1
 have H6 := Lib.hid s1.1
 have S6 := Lib.hid (SB.out.trans s1.2)
 have hg6 : g6 ≠ f.pb := by have := G6.out; omega
 have Z6 : Hid (Blk (WD.setCell ⟨f.pb, 1, none⟩ (.int .i64 ((plI f.L r : Int) + 1))) w.heap.size 32 #[.int .i64 0, .int .i64 0, .string ⟨#[]⟩, .slice none 0 0]) := Lib.hid (ZB.out.far (p := ⟨f.pb, 1, none⟩) (by simp; omega) _)
 have B66 : Hid (Blk (WD.setCell ⟨f.pb, 1, none⟩ (.int .i64 ((plI f.L r : Int) + 1))) g6 55 #[.int .i64 5, .string ⟨#[40]⟩, .int .i64 tn, .int .i64 ta, .bool tl]) := Lib.hid (B6.out.far (p := ⟨f.pb, 1, none⟩) (by simpa using hg6) _)
 have C6 := Lib.hid (s1.2.clr CB.out)
 have G66 : Hid (w.heap.size < (WD.setCell ⟨f.pb, 1, none⟩ (.int .i64 ((plI f.L r : Int) + 1))).heap.size) := Lib.hid Z6.out.lt
 generalize plI f.L r = k at *
 clear s1 k6
 go_upto_region 9 with fail
 generalize WD.setCell ⟨f.pb, 1, none⟩ (.int .i64 ((k : Int) + 1)) = W6 at *
 clear c1 f1 HB SB ZB CB B6 GB
 have m6 := B66.out.cell
 have HB := H6
 have SB := S6
 have ZB := Z6
 have CB := C6
 have GB := G66
 clear H6 S6 Z6 C6 G66
 have HT := Lib.hid (paBrac_par IH (by have := HNN.out; have := HQL.out; omega) HB.out (n := m) (by have := HM.out; have := HQL.out; omega) t0 HSS.out)
 rw [HLX.out] at HT
 go_wp2_with (go_at_call 95; refine HT.out.mono ?_; rintro e W5 ⟨t, p, A, c, nv5, r5, ns5, b5, rfl, hres, h5, s5, ht5, hl5⟩; have HRES := Lib.hid hres; have H5 := Lib.hid h5; have S5 := Lib.hid (SB.out.trans s5); have T5 := Lib.hid ht5; have L5 := Lib.hid hl5; have Z5 := Lib.hid (ZB.out.mods s5.mods CB.out.no); have zc := (ZB.out.mods s5.mods CB.out.no).cell; have zf := (ZB.out.mods s5.mods CB.out.no).frozen; clear hres h5 s5 ht5 hl5)
 have G5 : Hid (w.heap.size < W6.heap.size) := GB
 have kb := blk_set4 Z5.out (.int .i64 (Tm.k t)) (.int .i64 (Tm.n t)) (.string (Tm.s t)) (.slice A (Tm.l t).length c)
 have kc := kb.cell
 have h7 := H5.out.set4 HO.out (Nat.le_refl _) Z5.out (.int .i64 (Tm.k t)) (.int .i64 (Tm.n t)) (.string (Tm.s t)) (.slice A (Tm.l t).length c)
 have s7 := pstep_set4 S5.out (Nat.le_refl _) (.int .i64 (Tm.k t)) (.int .i64 (Tm.n t)) (.string (Tm.s t)) (.slice A (Tm.l t).length c)
 have t7 := tmN_wide (w := w) (tmN_set4 T5.out (z := w.heap.size) G5.out (.int .i64 (Tm.k t)) (.int .i64 (Tm.n t)) (.string (Tm.s t)) (.slice A (Tm.l t).length c)) (Nat.le_of_lt G5.out)
 refine bodyPost_ret (v := .tuple #[.agg #[.int .i64 (Tm.k t), .int .i64 (Tm.n t), .string (Tm.s t), .slice A (Tm.l t).length c], .int .i64 p]) ?_ rfl ⟨t, p, A, c, nv5, r5, ns5, b5, rfl, HRES.out, h7, s7, t7, Nat.le_trans L5.out (by have := HQL.out; omega)⟩
 simp [results, Tryz.results64, go_sem, kc]
set_option maxRecDepth 100000 in
set_option maxHeartbeats 8000000 in
theorem paOper_sq {f : PF} {N : Nat} (IH : PTermC f N) (most : Int) {r : List TokV} (hN : r.length ≤ N + 1) {w : World} {nv : Value} {ns : List ByteArray} (h : PaAt f w r nv ns false) {n : Nat} (hn : 5 * r.length + 3 ≤ n) {t0 : TokV} {q : List TokV} (e : r = t0 :: q) (hk : t0.kind = 5) (hs : t0.s = ⟨#[91]⟩) :
  Calls Tryz.prog 64 #[.pointer (some ⟨f.pb, 0, none⟩), .int .i64 most] w (OPost f w nv r (operN f.O n most r ns)) := by
 obtain ⟨m, rfl⟩ : ∃ m, n = m + 1 := ⟨n - 1, by omega⟩
 have HN := fun W (x : Ext w W) => Lib.hid (paNext (h.ext x) e)
 unfold tokA at HN
 have hop : operN f.O (m + 1) most r ns = bracN f.O m t0 q ns := by rw [e]; simp [operN, hk]
 rw [hop]
 obtain ⟨u, qq, hq⟩ := h.toks.more h.suf e (by rw [hk]; decide)
 have t1 := suf_tail h.suf e
 have t3 := plI_tail h.suf e
 have hqn : q ≠ [] := by rw [hq]; simp
 have hkL := plI_lt h.suf h.nil
 have hLL := h.toks.len
 have HL : Hid (ns.length + q.length ≤ f.L.length) := Lib.hid (by have := h.nl; rw [e] at this; simp at this; omega)
 have HQL : Hid (q.length + 1 = r.length) := Lib.hid (by rw [e]; simp)
 have HL2 := Lib.hid h.nl
 have HT3 := Lib.hid t3
 have HNN := Lib.hid hN
 have HM := Lib.hid hn
 clear t3 hq hN hn
 obtain ⟨X, hX⟩ : ∃ X, bracN f.O m t0 q ns = X := ⟨_, rfl⟩
 rw [hX]
 have HLX := Lib.hid hX
 clear hX
 rw [hk, hs] at HN
 have HSS := Lib.hid hs
 clear e hk hs hop
 generalize t0.n = tn at *
 generalize t0.at_ = ta at *
 generalize t0.lay = tl at *
 have hx := ext_box4 w (.cells #[.int .i64 0, .int .i64 0, .string ⟨#[]⟩, .slice none 0 0] 32)
 have HO := Lib.hid h.old
 have HXB := Lib.hid hx
 have H := Lib.hid h
 have HZ := Lib.hid (Blk.new w 32 #[.int .i64 0, .int .i64 0, .string ⟨#[]⟩, .slice none 0 0])
 have c5 := hx.cell h.cells.c5
 have HSZ := Lib.hid (World.size_alloc w (.cells #[.int .i64 0, .int .i64 0, .string ⟨#[]⟩, .slice none 0 0] 32))
 have hp : f.pb < w.heap.size := h.blk.lt
 clear h hx
 go_enter Tryz.func64, Tryz.ntmps64
 go_upto_region 4 with (go_at_call 42; refine (HN _ HXB.out).out.mono ?_; rintro e W1 ⟨rfl, x1⟩; have X1 := Lib.hid ((HXB.out.trans x1).alloc (.cells #[.int .i64 5, .string ⟨#[91]⟩, .int .i64 tn, .int .i64 ta, .bool tl] 55)); have Z1 := Lib.hid ((HZ.out.ext x1).ext (ext_box4 _ (.cells #[.int .i64 5, .string ⟨#[91]⟩, .int .i64 tn, .int .i64 ta, .bool tl] 55))); have B6 := Lib.hid (Blk.new W1 55 #[.int .i64 5, .string ⟨#[91]⟩, .int .i64 tn, .int .i64 ta, .bool tl]); have G6 : Hid (w.heap.size < W1.heap.size) := Lib.hid (by have := x1.size; rw [HSZ.out] at this; omega); clear x1)
 generalize W1.alloc (.cells #[.int .i64 5, .string ⟨#[91]⟩, .int .i64 tn, .int .i64 ta, .bool tl] 55) = WB at *
 generalize W1.heap.size = g6 at *
 have HB := Lib.hid (H.out.ext X1.out)
 have SB := Lib.hid (PStep.ext (S := f.S) (nv := nv) X1.out)
 have ZB := Z1
 have CB := Lib.hid (clr_box H.out (Nat.le_refl _) Z1.out.lt)
 have k6 := B6.out.cell
 have GB : Hid (w.heap.size < WB.heap.size) := Lib.hid Z1.out.lt
 clear HXB HZ c5 Z1 HN
 have HCT := Lib.hid (containsS_any [⟨#[40]⟩, ⟨#[91]⟩, ⟨#[123]⟩] ⟨#[91]⟩ WB.heap.size 0 3 (WB.alloc (.cells #[.string ⟨#[40]⟩, .string ⟨#[91]⟩, .string ⟨#[123]⟩] 9)) true (lit3 WB _ _ _) (by simp) (by simp))
 simp only [List.length_cons, List.length_nil, Nat.reduceAdd] at HCT
 have HB2 := Lib.hid (HB.out.ext (ext_box4 WB (.cells #[.string ⟨#[40]⟩, .string ⟨#[91]⟩, .string ⟨#[123]⟩] 9)))
 have SB2 := Lib.hid (SB.out.trans (PStep.ext (ext_box4 WB (.cells #[.string ⟨#[40]⟩, .string ⟨#[91]⟩, .string ⟨#[123]⟩] 9))))
 have ZB2 := Lib.hid (ZB.out.ext (ext_box4 WB (.cells #[.string ⟨#[40]⟩, .string ⟨#[91]⟩, .string ⟨#[123]⟩] 9)))
 have B62 := Lib.hid (B6.out.ext (ext_box4 WB (.cells #[.string ⟨#[40]⟩, .string ⟨#[91]⟩, .string ⟨#[123]⟩] 9)))
 have CB2 := Lib.hid ((PStep.ext (S := f.S) (nv := nv) (ext_box4 WB (.cells #[.string ⟨#[40]⟩, .string ⟨#[91]⟩, .string ⟨#[123]⟩] 9))).clr CB.out)
 have hl6 := B6.out.lt
 go_upto_region 8 with (go_at_call 93; refine HCT.out.mono ?_; rintro e W2 ⟨rfl, hw2⟩; subst hw2)
 clear HB SB ZB B6 CB k6 HCT hl6 GB
 generalize WB.alloc (.cells #[.string ⟨#[40]⟩, .string ⟨#[91]⟩, .string ⟨#[123]⟩] 9) = WD at *
 clear X1
 generalize WB.heap.size = gD at *
 have HB := HB2
 have SB := SB2
 have ZB := ZB2
 have CB := CB2
 have B6 := B62
 have k6 := B6.out.cell
 have GB : Hid (w.heap.size < WD.heap.size) := Lib.hid ZB.out.lt
 clear HB2 SB2 ZB2 CB2 B62
 have s1 := HB.out.setI t1 hqn HL.out ((plI f.L r : Int) + 1) (by rw [HT3.out]; omega)
 have c1 := HB.out.cells.c1
 have f1 := HB.out.blk.frozen 1
 have H6 := Lib.hid s1.1
 have S6 := Lib.hid (SB.out.trans s1.2)
 have hg6 : g6 ≠ f.pb := by have := G6.out; omega
 have Z6 : Hid (Blk (WD.setCell ⟨f.pb, 1, none⟩ (.int .i64 ((plI f.L r : Int) + 1))) w.heap.size 32 #[.int .i64 0, .int .i64 0, .string ⟨#[]⟩, .slice none 0 0]) := Lib.hid (ZB.out.far (p := ⟨f.pb, 1, none⟩) (by simp; omega) _)
 have B66 : Hid (Blk (WD.setCell ⟨f.pb, 1, none⟩ (.int .i64 ((plI f.L r : Int) + 1))) g6 55 #[.int .i64 5, .string ⟨#[91]⟩, .int .i64 tn, .int .i64 ta, .bool tl]) := Lib.hid (B6.out.far (p := ⟨f.pb, 1, none⟩) (by simpa using hg6) _)
 have C6 := Lib.hid (s1.2.clr CB.out)
 have G66 : Hid (w.heap.size < (WD.setCell ⟨f.pb, 1, none⟩ (.int .i64 ((plI f.L r : Int) + 1))).heap.size) := Lib.hid Z6.out.lt
 generalize plI f.L r = k at *
 clear s1 k6
 go_upto_region 9 with fail
 generalize WD.setCell ⟨f.pb, 1, none⟩ (.int .i64 ((k : Int) + 1)) = W6 at *
 clear c1 f1 HB SB ZB CB B6 GB
 have m6 := B66.out.cell
 have HB := H6
 have SB := S6
 have ZB := Z6
 have CB := C6
 have GB := G66
 clear H6 S6 Z6 C6 G66
 have HT := Lib.hid (paBrac_sq IH (by have := HNN.out; have := HQL.out; omega) HB.out (n := m) (by have := HM.out; have := HQL.out; omega) t0 HSS.out)
 rw [HLX.out] at HT
 go_wp2_with (go_at_call 95; refine HT.out.mono ?_; rintro e W5 ⟨t, p, A, c, nv5, r5, ns5, b5, rfl, hres, h5, s5, ht5, hl5⟩; have HRES := Lib.hid hres; have H5 := Lib.hid h5; have S5 := Lib.hid (SB.out.trans s5); have T5 := Lib.hid ht5; have L5 := Lib.hid hl5; have Z5 := Lib.hid (ZB.out.mods s5.mods CB.out.no); have zc := (ZB.out.mods s5.mods CB.out.no).cell; have zf := (ZB.out.mods s5.mods CB.out.no).frozen; clear hres h5 s5 ht5 hl5)
 have G5 : Hid (w.heap.size < W6.heap.size) := GB
 have kb := blk_set4 Z5.out (.int .i64 (Tm.k t)) (.int .i64 (Tm.n t)) (.string (Tm.s t)) (.slice A (Tm.l t).length c)
 have kc := kb.cell
 have h7 := H5.out.set4 HO.out (Nat.le_refl _) Z5.out (.int .i64 (Tm.k t)) (.int .i64 (Tm.n t)) (.string (Tm.s t)) (.slice A (Tm.l t).length c)
 have s7 := pstep_set4 S5.out (Nat.le_refl _) (.int .i64 (Tm.k t)) (.int .i64 (Tm.n t)) (.string (Tm.s t)) (.slice A (Tm.l t).length c)
 have t7 := tmN_wide (w := w) (tmN_set4 T5.out (z := w.heap.size) G5.out (.int .i64 (Tm.k t)) (.int .i64 (Tm.n t)) (.string (Tm.s t)) (.slice A (Tm.l t).length c)) (Nat.le_of_lt G5.out)
 refine bodyPost_ret (v := .tuple #[.agg #[.int .i64 (Tm.k t), .int .i64 (Tm.n t), .string (Tm.s t), .slice A (Tm.l t).length c], .int .i64 p]) ?_ rfl ⟨t, p, A, c, nv5, r5, ns5, b5, rfl, HRES.out, h7, s7, t7, Nat.le_trans L5.out (by have := HQL.out; omega)⟩
 simp [results, Tryz.results64, go_sem, kc]
set_option maxRecDepth 100000 in
set_option maxHeartbeats 8000000 in
theorem paOper_cur {f : PF} {N : Nat} (IH : PTermC f N) (most : Int) {r : List TokV} (hN : r.length ≤ N + 1) {w : World} {nv : Value} {ns : List ByteArray} (h : PaAt f w r nv ns false) {n : Nat} (hn : 5 * r.length + 3 ≤ n) {t0 : TokV} {q : List TokV} (e : r = t0 :: q) (hk : t0.kind = 5) (hs : t0.s = ⟨#[123]⟩) :
  Calls Tryz.prog 64 #[.pointer (some ⟨f.pb, 0, none⟩), .int .i64 most] w (OPost f w nv r (operN f.O n most r ns)) := by
 obtain ⟨m, rfl⟩ : ∃ m, n = m + 1 := ⟨n - 1, by omega⟩
 have HN := fun W (x : Ext w W) => Lib.hid (paNext (h.ext x) e)
 unfold tokA at HN
 have hop : operN f.O (m + 1) most r ns = bracN f.O m t0 q ns := by rw [e]; simp [operN, hk]
 rw [hop]
 obtain ⟨u, qq, hq⟩ := h.toks.more h.suf e (by rw [hk]; decide)
 have t1 := suf_tail h.suf e
 have t3 := plI_tail h.suf e
 have hqn : q ≠ [] := by rw [hq]; simp
 have hkL := plI_lt h.suf h.nil
 have hLL := h.toks.len
 have HL : Hid (ns.length + q.length ≤ f.L.length) := Lib.hid (by have := h.nl; rw [e] at this; simp at this; omega)
 have HQL : Hid (q.length + 1 = r.length) := Lib.hid (by rw [e]; simp)
 have HL2 := Lib.hid h.nl
 have HT3 := Lib.hid t3
 have HNN := Lib.hid hN
 have HM := Lib.hid hn
 clear t3 hq hN hn
 obtain ⟨X, hX⟩ : ∃ X, bracN f.O m t0 q ns = X := ⟨_, rfl⟩
 rw [hX]
 have HLX := Lib.hid hX
 clear hX
 rw [hk, hs] at HN
 have HSS := Lib.hid hs
 clear e hk hs hop
 generalize t0.n = tn at *
 generalize t0.at_ = ta at *
 generalize t0.lay = tl at *
 have hx := ext_box4 w (.cells #[.int .i64 0, .int .i64 0, .string ⟨#[]⟩, .slice none 0 0] 32)
 have HO := Lib.hid h.old
 have HXB := Lib.hid hx
 have H := Lib.hid h
 have HZ := Lib.hid (Blk.new w 32 #[.int .i64 0, .int .i64 0, .string ⟨#[]⟩, .slice none 0 0])
 have c5 := hx.cell h.cells.c5
 have HSZ := Lib.hid (World.size_alloc w (.cells #[.int .i64 0, .int .i64 0, .string ⟨#[]⟩, .slice none 0 0] 32))
 have hp : f.pb < w.heap.size := h.blk.lt
 clear h hx
 go_enter Tryz.func64, Tryz.ntmps64
 go_upto_region 4 with (go_at_call 42; refine (HN _ HXB.out).out.mono ?_; rintro e W1 ⟨rfl, x1⟩; have X1 := Lib.hid ((HXB.out.trans x1).alloc (.cells #[.int .i64 5, .string ⟨#[123]⟩, .int .i64 tn, .int .i64 ta, .bool tl] 55)); have Z1 := Lib.hid ((HZ.out.ext x1).ext (ext_box4 _ (.cells #[.int .i64 5, .string ⟨#[123]⟩, .int .i64 tn, .int .i64 ta, .bool tl] 55))); have B6 := Lib.hid (Blk.new W1 55 #[.int .i64 5, .string ⟨#[123]⟩, .int .i64 tn, .int .i64 ta, .bool tl]); have G6 : Hid (w.heap.size < W1.heap.size) := Lib.hid (by have := x1.size; rw [HSZ.out] at this; omega); clear x1)
 generalize W1.alloc (.cells #[.int .i64 5, .string ⟨#[123]⟩, .int .i64 tn, .int .i64 ta, .bool tl] 55) = WB at *
 generalize W1.heap.size = g6 at *
 have HB := Lib.hid (H.out.ext X1.out)
 have SB := Lib.hid (PStep.ext (S := f.S) (nv := nv) X1.out)
 have ZB := Z1
 have CB := Lib.hid (clr_box H.out (Nat.le_refl _) Z1.out.lt)
 have k6 := B6.out.cell
 have GB : Hid (w.heap.size < WB.heap.size) := Lib.hid Z1.out.lt
 clear HXB HZ c5 Z1 HN
 have HCT := Lib.hid (containsS_any [⟨#[40]⟩, ⟨#[91]⟩, ⟨#[123]⟩] ⟨#[123]⟩ WB.heap.size 0 3 (WB.alloc (.cells #[.string ⟨#[40]⟩, .string ⟨#[91]⟩, .string ⟨#[123]⟩] 9)) true (lit3 WB _ _ _) (by simp) (by simp))
 simp only [List.length_cons, List.length_nil, Nat.reduceAdd] at HCT
 have HB2 := Lib.hid (HB.out.ext (ext_box4 WB (.cells #[.string ⟨#[40]⟩, .string ⟨#[91]⟩, .string ⟨#[123]⟩] 9)))
 have SB2 := Lib.hid (SB.out.trans (PStep.ext (ext_box4 WB (.cells #[.string ⟨#[40]⟩, .string ⟨#[91]⟩, .string ⟨#[123]⟩] 9))))
 have ZB2 := Lib.hid (ZB.out.ext (ext_box4 WB (.cells #[.string ⟨#[40]⟩, .string ⟨#[91]⟩, .string ⟨#[123]⟩] 9)))
 have B62 := Lib.hid (B6.out.ext (ext_box4 WB (.cells #[.string ⟨#[40]⟩, .string ⟨#[91]⟩, .string ⟨#[123]⟩] 9)))
 have CB2 := Lib.hid ((PStep.ext (S := f.S) (nv := nv) (ext_box4 WB (.cells #[.string ⟨#[40]⟩, .string ⟨#[91]⟩, .string ⟨#[123]⟩] 9))).clr CB.out)
 have hl6 := B6.out.lt
 go_upto_region 8 with (go_at_call 93; refine HCT.out.mono ?_; rintro e W2 ⟨rfl, hw2⟩; subst hw2)
 clear HB SB ZB B6 CB k6 HCT hl6 GB
 generalize WB.alloc (.cells #[.string ⟨#[40]⟩, .string ⟨#[91]⟩, .string ⟨#[123]⟩] 9) = WD at *
 clear X1
 generalize WB.heap.size = gD at *
 have HB := HB2
 have SB := SB2
 have ZB := ZB2
 have CB := CB2
 have B6 := B62
 have k6 := B6.out.cell
 have GB : Hid (w.heap.size < WD.heap.size) := Lib.hid ZB.out.lt
 clear HB2 SB2 ZB2 CB2 B62
 have s1 := HB.out.setI t1 hqn HL.out ((plI f.L r : Int) + 1) (by rw [HT3.out]; omega)
 have c1 := HB.out.cells.c1
 have f1 := HB.out.blk.frozen 1
 have H6 := Lib.hid s1.1
 have S6 := Lib.hid (SB.out.trans s1.2)
 have hg6 : g6 ≠ f.pb := by have := G6.out; omega
 have Z6 : Hid (Blk (WD.setCell ⟨f.pb, 1, none⟩ (.int .i64 ((plI f.L r : Int) + 1))) w.heap.size 32 #[.int .i64 0, .int .i64 0, .string ⟨#[]⟩, .slice none 0 0]) := Lib.hid (ZB.out.far (p := ⟨f.pb, 1, none⟩) (by simp; omega) _)
 have B66 : Hid (Blk (WD.setCell ⟨f.pb, 1, none⟩ (.int .i64 ((plI f.L r : Int) + 1))) g6 55 #[.int .i64 5, .string ⟨#[123]⟩, .int .i64 tn, .int .i64 ta, .bool tl]) := Lib.hid (B6.out.far (p := ⟨f.pb, 1, none⟩) (by simpa using hg6) _)
 have C6 := Lib.hid (s1.2.clr CB.out)
 have G66 : Hid (w.heap.size < (WD.setCell ⟨f.pb, 1, none⟩ (.int .i64 ((plI f.L r : Int) + 1))).heap.size) := Lib.hid Z6.out.lt
 generalize plI f.L r = k at *
 clear s1 k6
 go_upto_region 9 with fail
 generalize WD.setCell ⟨f.pb, 1, none⟩ (.int .i64 ((k : Int) + 1)) = W6 at *
 clear c1 f1 HB SB ZB CB B6 GB
 have m6 := B66.out.cell
 have HB := H6
 have SB := S6
 have ZB := Z6
 have CB := C6
 have GB := G66
 clear H6 S6 Z6 C6 G66
 have HT := Lib.hid (paBrac_cur IH (by have := HNN.out; have := HQL.out; omega) HB.out (n := m) (by have := HM.out; have := HQL.out; omega) t0 HSS.out)
 rw [HLX.out] at HT
 go_wp2_with (go_at_call 95; refine HT.out.mono ?_; rintro e W5 ⟨t, p, A, c, nv5, r5, ns5, b5, rfl, hres, h5, s5, ht5, hl5⟩; have HRES := Lib.hid hres; have H5 := Lib.hid h5; have S5 := Lib.hid (SB.out.trans s5); have T5 := Lib.hid ht5; have L5 := Lib.hid hl5; have Z5 := Lib.hid (ZB.out.mods s5.mods CB.out.no); have zc := (ZB.out.mods s5.mods CB.out.no).cell; have zf := (ZB.out.mods s5.mods CB.out.no).frozen; clear hres h5 s5 ht5 hl5)
 have G5 : Hid (w.heap.size < W6.heap.size) := GB
 have kb := blk_set4 Z5.out (.int .i64 (Tm.k t)) (.int .i64 (Tm.n t)) (.string (Tm.s t)) (.slice A (Tm.l t).length c)
 have kc := kb.cell
 have h7 := H5.out.set4 HO.out (Nat.le_refl _) Z5.out (.int .i64 (Tm.k t)) (.int .i64 (Tm.n t)) (.string (Tm.s t)) (.slice A (Tm.l t).length c)
 have s7 := pstep_set4 S5.out (Nat.le_refl _) (.int .i64 (Tm.k t)) (.int .i64 (Tm.n t)) (.string (Tm.s t)) (.slice A (Tm.l t).length c)
 have t7 := tmN_wide (w := w) (tmN_set4 T5.out (z := w.heap.size) G5.out (.int .i64 (Tm.k t)) (.int .i64 (Tm.n t)) (.string (Tm.s t)) (.slice A (Tm.l t).length c)) (Nat.le_of_lt G5.out)
 refine bodyPost_ret (v := .tuple #[.agg #[.int .i64 (Tm.k t), .int .i64 (Tm.n t), .string (Tm.s t), .slice A (Tm.l t).length c], .int .i64 p]) ?_ rfl ⟨t, p, A, c, nv5, r5, ns5, b5, rfl, HRES.out, h7, s7, t7, Nat.le_trans L5.out (by have := HQL.out; omega)⟩
 simp [results, Tryz.results64, go_sem, kc]
end Go.Proofs.YtgcdhffeacdegaaGreatDoor
