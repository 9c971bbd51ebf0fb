/- Layer 10, the program: the walk of operand: what is no bracket. -/
import Derived.Test.YtgcdhffeacdegaaGreatDoorH29
namespace Go.Proofs.YtgcdhffeacdegaaGreatDoor
open Go.RowKit Go.El
set_option maxRecDepth 100000 in
set_option maxHeartbeats 8000000 in
theorem paOper_end {f : PF} {N : Nat} (most : Int) {r : List TokV} (_ : r.length ≤ N + 1) {w : World} {nv : Value} {ns : List ByteArray} (h : PaAt f w r nv ns false) {n : Nat} (hn : 5 * r.length + 3 ≤ n) {t0 : TokV} {q : List TokV} (e : r = t0 :: q) (hk : t0.kind = 6) :
  Calls Tryz.prog 64 #[.pointer (some ⟨f.pb, 0, none⟩), .int .i64 most] w (OPost f w nv r (operN f.O n most r ns)) := by
 obtain ⟨m, rfl⟩ : ∃ m, n = m + 1 := ⟨n - 1, by omega⟩
 have HN := fun W (x : Ext w W) => Lib.hid (paNext (h.ext x) e)
 unfold tokA at HN
 have hop : operN f.O (m + 1) most r ns = .bad r := by rw [e]; simp [operN, hk]
 rw [hop]
 rw [hk] at HN
 clear e hk hop hn
 generalize t0.n = tn at *
 generalize t0.at_ = ta at *
 generalize t0.lay = tl at *
 generalize t0.s = ts at *
 have hx := ext_box4 w (.cells #[.int .i64 0, .int .i64 0, .string ⟨#[]⟩, .slice none 0 0] 32)
 have HO := Lib.hid h.old
 have HXB := Lib.hid hx
 have H := Lib.hid h
 have HZ := Lib.hid (Blk.new w 32 #[.int .i64 0, .int .i64 0, .string ⟨#[]⟩, .slice none 0 0])
 have c5 := hx.cell h.cells.c5
 have HSZ := Lib.hid (World.size_alloc w (.cells #[.int .i64 0, .int .i64 0, .string ⟨#[]⟩, .slice none 0 0] 32))
 have hp : f.pb < w.heap.size := h.blk.lt
 clear h hx
 go_enter Tryz.func64, Tryz.ntmps64
 go_upto_region 4 with (go_at_call 42; refine (HN _ HXB.out).out.mono ?_; rintro e W1 ⟨rfl, x1⟩; have X1 := Lib.hid ((HXB.out.trans x1).alloc (.cells #[.int .i64 6, .string ts, .int .i64 tn, .int .i64 ta, .bool tl] 55)); have Z1 := Lib.hid ((HZ.out.ext x1).ext (ext_box4 _ (.cells #[.int .i64 6, .string ts, .int .i64 tn, .int .i64 ta, .bool tl] 55))); have B6 := Lib.hid (Blk.new W1 55 #[.int .i64 6, .string ts, .int .i64 tn, .int .i64 ta, .bool tl]); have G6 : Hid (w.heap.size < W1.heap.size) := Lib.hid (by have := x1.size; rw [HSZ.out] at this; omega); clear x1)
 generalize W1.alloc (.cells #[.int .i64 6, .string ts, .int .i64 tn, .int .i64 ta, .bool tl] 55) = WB at *
 generalize W1.heap.size = g6 at *
 have HB := Lib.hid (H.out.ext X1.out)
 have SB := Lib.hid (PStep.ext (S := f.S) (nv := nv) X1.out)
 have ZB := Z1
 have CB := Lib.hid (clr_box H.out (Nat.le_refl _) Z1.out.lt)
 have k6 := B6.out.cell
 have GB : Hid (w.heap.size < WB.heap.size) := Lib.hid Z1.out.lt
 clear HXB HZ c5 Z1 HN
 have HF := Lib.hid (paFail HB.out)
 unfold tmZ at HF
 go_wp2_with (go_at_call 94; refine HF.out.mono ?_; rintro e W5 ⟨rfl, h5, s5⟩; have H5 := Lib.hid h5; have S5 := Lib.hid (SB.out.trans s5); have Z5 := Lib.hid (ZB.out.mods s5.mods CB.out.no); have zc := Z5.out.cell; have zf := Z5.out.frozen; clear h5 s5)
 have kb := blk_set4 Z5.out (.int .i64 0) (.int .i64 0) (.string ⟨#[]⟩) (.slice none 0 0)
 have kc := kb.cell
 have h7 := H5.out.set4 HO.out (Nat.le_refl _) Z5.out (.int .i64 0) (.int .i64 0) (.string ⟨#[]⟩) (.slice none 0 0)
 have s7 := pstep_set4 S5.out (Nat.le_refl _) (.int .i64 0) (.int .i64 0) (.string ⟨#[]⟩) (.slice none 0 0)
 refine bodyPost_ret (v := .tuple #[.agg #[.int .i64 0, .int .i64 0, .string ⟨#[]⟩, .slice none 0 0], .int .i64 0]) ?_ rfl ⟨.mk 0 0 ⟨#[]⟩ [], 0, none, 0, nv, r, ns, true, rfl, ⟨rfl, rfl⟩, h7, s7, TmsIn.nil _ _ _ _, Nat.le_refl _⟩
 simp [results, Tryz.results64, go_sem, kc]
set_option maxRecDepth 100000 in
set_option maxHeartbeats 8000000 in
theorem paOper_odd {f : PF} {N : Nat} (most : Int) {r : List TokV} (_ : r.length ≤ N + 1) {w : World} {nv : Value} {ns : List ByteArray} (h : PaAt f w r nv ns false) {n : Nat} (hn : 5 * r.length + 3 ≤ n) {t0 : TokV} {q : List TokV} (e : r = t0 :: q) (hk : t0.kind = 5) (hs : t0.s ∉ ([⟨#[40]⟩, ⟨#[91]⟩, ⟨#[123]⟩] : List ByteArray)) :
  Calls Tryz.prog 64 #[.pointer (some ⟨f.pb, 0, none⟩), .int .i64 most] w (OPost f w nv r (operN f.O n most r ns)) := by
 obtain ⟨m, rfl⟩ : ∃ m, n = m + 1 := ⟨n - 1, by omega⟩
 have HN := fun W (x : Ext w W) => Lib.hid (paNext (h.ext x) e)
 unfold tokA at HN
 have hop : operN f.O (m + 1) most r ns = .bad r := by
  obtain ⟨m2, rfl⟩ : ∃ m2, m = m2 + 1 := ⟨m - 1, by rw [e] at hn; simp at hn; omega⟩
  rw [e]
  have hx : ∀ c : UInt8, t0.s.data.toList = [c] → t0.s = ⟨#[c]⟩ := fun c hc => by rw [← strB_mk t0.s, hc]; rfl
  have h1 : ¬ t0.s.data.toList = [40] := fun hc => hs (by rw [hx _ hc]; simp)
  have h2 : ¬ t0.s.data.toList = [91] := fun hc => hs (by rw [hx _ hc]; simp)
  have h3 : ¬ t0.s.data.toList = [123] := fun hc => hs (by rw [hx _ hc]; simp)
  simp [operN, hk, bracN, h1, h2, h3]
 rw [hop]
 rw [hk] at HN
 clear e hk hop hn
 generalize t0.n = tn at *
 generalize t0.at_ = ta at *
 generalize t0.lay = tl at *
 generalize t0.s = ts at *
 have HSS := Lib.hid hs
 clear hs
 have hx := ext_box4 w (.cells #[.int .i64 0, .int .i64 0, .string ⟨#[]⟩, .slice none 0 0] 32)
 have HO := Lib.hid h.old
 have HXB := Lib.hid hx
 have H := Lib.hid h
 have HZ := Lib.hid (Blk.new w 32 #[.int .i64 0, .int .i64 0, .string ⟨#[]⟩, .slice none 0 0])
 have c5 := hx.cell h.cells.c5
 have HSZ := Lib.hid (World.size_alloc w (.cells #[.int .i64 0, .int .i64 0, .string ⟨#[]⟩, .slice none 0 0] 32))
 have hp : f.pb < w.heap.size := h.blk.lt
 clear h hx
 go_enter Tryz.func64, Tryz.ntmps64
 go_upto_region 4 with (go_at_call 42; refine (HN _ HXB.out).out.mono ?_; rintro e W1 ⟨rfl, x1⟩; have X1 := Lib.hid ((HXB.out.trans x1).alloc (.cells #[.int .i64 5, .string ts, .int .i64 tn, .int .i64 ta, .bool tl] 55)); have Z1 := Lib.hid ((HZ.out.ext x1).ext (ext_box4 _ (.cells #[.int .i64 5, .string ts, .int .i64 tn, .int .i64 ta, .bool tl] 55))); have B6 := Lib.hid (Blk.new W1 55 #[.int .i64 5, .string ts, .int .i64 tn, .int .i64 ta, .bool tl]); have G6 : Hid (w.heap.size < W1.heap.size) := Lib.hid (by have := x1.size; rw [HSZ.out] at this; omega); clear x1)
 generalize W1.alloc (.cells #[.int .i64 5, .string ts, .int .i64 tn, .int .i64 ta, .bool tl] 55) = WB at *
 generalize W1.heap.size = g6 at *
 have HB := Lib.hid (H.out.ext X1.out)
 have SB := Lib.hid (PStep.ext (S := f.S) (nv := nv) X1.out)
 have ZB := Z1
 have CB := Lib.hid (clr_box H.out (Nat.le_refl _) Z1.out.lt)
 have k6 := B6.out.cell
 have GB : Hid (w.heap.size < WB.heap.size) := Lib.hid Z1.out.lt
 clear HXB HZ c5 Z1 HN
 have HCT := Lib.hid (containsS_any [⟨#[40]⟩, ⟨#[91]⟩, ⟨#[123]⟩] ts WB.heap.size 0 3 (WB.alloc (.cells #[.string ⟨#[40]⟩, .string ⟨#[91]⟩, .string ⟨#[123]⟩] 9)) false (lit3 WB _ _ _) (by simp) (iff_of_false (by simp) HSS.out))
 simp only [List.length_cons, List.length_nil, Nat.reduceAdd] at HCT
 have HB2 := Lib.hid (HB.out.ext (ext_box4 WB (.cells #[.string ⟨#[40]⟩, .string ⟨#[91]⟩, .string ⟨#[123]⟩] 9)))
 have SB2 := Lib.hid (SB.out.trans (PStep.ext (ext_box4 WB (.cells #[.string ⟨#[40]⟩, .string ⟨#[91]⟩, .string ⟨#[123]⟩] 9))))
 have ZB2 := Lib.hid (ZB.out.ext (ext_box4 WB (.cells #[.string ⟨#[40]⟩, .string ⟨#[91]⟩, .string ⟨#[123]⟩] 9)))
 have CB2 := Lib.hid ((PStep.ext (S := f.S) (nv := nv) (ext_box4 WB (.cells #[.string ⟨#[40]⟩, .string ⟨#[91]⟩, .string ⟨#[123]⟩] 9))).clr CB.out)
 have hl6 := B6.out.lt
 go_upto_region 7 with (go_at_call 93; refine HCT.out.mono ?_; rintro e W2 ⟨rfl, hw2⟩; subst hw2)
 clear HB SB ZB B6 CB k6 HCT hl6 GB
 generalize WB.alloc (.cells #[.string ⟨#[40]⟩, .string ⟨#[91]⟩, .string ⟨#[123]⟩] 9) = WD at *
 have SB := SB2
 have ZB := ZB2
 have CB := CB2
 have HF := Lib.hid (paFail HB2.out)
 unfold tmZ at HF
 go_wp2_with (go_at_call 94; refine HF.out.mono ?_; rintro e W5 ⟨rfl, h5, s5⟩; have H5 := Lib.hid h5; have S5 := Lib.hid (SB.out.trans s5); have Z5 := Lib.hid (ZB.out.mods s5.mods CB.out.no); have zc := Z5.out.cell; have zf := Z5.out.frozen; clear h5 s5)
 have kb := blk_set4 Z5.out (.int .i64 0) (.int .i64 0) (.string ⟨#[]⟩) (.slice none 0 0)
 have kc := kb.cell
 have h7 := H5.out.set4 HO.out (Nat.le_refl _) Z5.out (.int .i64 0) (.int .i64 0) (.string ⟨#[]⟩) (.slice none 0 0)
 have s7 := pstep_set4 S5.out (Nat.le_refl _) (.int .i64 0) (.int .i64 0) (.string ⟨#[]⟩) (.slice none 0 0)
 refine bodyPost_ret (v := .tuple #[.agg #[.int .i64 0, .int .i64 0, .string ⟨#[]⟩, .slice none 0 0], .int .i64 0]) ?_ rfl ⟨.mk 0 0 ⟨#[]⟩ [], 0, none, 0, nv, r, ns, true, rfl, ⟨rfl, rfl⟩, h7, s7, TmsIn.nil _ _ _ _, Nat.le_refl _⟩
 simp [results, Tryz.results64, go_sem, kc]
set_option maxRecDepth 100000 in
set_option maxHeartbeats 8000000 in
theorem paOper_int {f : PF} {N : Nat} (most : Int) {r : List TokV} (hN : r.length ≤ N + 1) {w : World} {nv : Value} {ns : List ByteArray} (h : PaAt f w r nv ns false) {n : Nat} (hn : 5 * r.length + 3 ≤ n) {t0 : TokV} {q : List TokV} (e : r = t0 :: q) (hk : t0.kind = 4) :
  Calls Tryz.prog 64 #[.pointer (some ⟨f.pb, 0, none⟩), .int .i64 most] w (OPost f w nv r (operN f.O n most r ns)) := by
 obtain ⟨m, rfl⟩ : ∃ m, n = m + 1 := ⟨n - 1, by omega⟩
 have HN := fun W (x : Ext w W) => Lib.hid (paNext (h.ext x) e)
 unfold tokA at HN
 have hop : operN f.O (m + 1) most r ns = .ok (intT t0.n, 0) q ns := by rw [e]; simp [operN, hk]
 rw [hop]
 obtain ⟨u, qq, hq⟩ := h.toks.more h.suf e (by rw [hk]; decide)
 have t1 := suf_tail h.suf e
 have t3 := plI_tail h.suf e
 have hqn : q ≠ [] := by rw [hq]; simp
 have hkL := plI_lt h.suf h.nil
 have hLL := h.toks.len
 have HL : Hid (ns.length + q.length ≤ f.L.length) := Lib.hid (by have := h.nl; rw [e] at this; simp at this; omega)
 have HQL : Hid (q.length + 1 = r.length) := Lib.hid (by rw [e]; simp)
 have HL2 := Lib.hid h.nl
 have HT3 := Lib.hid t3
 have HNN := Lib.hid hN
 have HM := Lib.hid hn
 clear t3 hq hN hn
 rw [hk] at HN
 clear e hk hop
 generalize t0.n = tn at *
 generalize t0.at_ = ta at *
 generalize t0.lay = tl at *
 generalize t0.s = ts at *
 have hx := ext_box4 w (.cells #[.int .i64 0, .int .i64 0, .string ⟨#[]⟩, .slice none 0 0] 32)
 have HO := Lib.hid h.old
 have HXB := Lib.hid hx
 have H := Lib.hid h
 have HZ := Lib.hid (Blk.new w 32 #[.int .i64 0, .int .i64 0, .string ⟨#[]⟩, .slice none 0 0])
 have c5 := hx.cell h.cells.c5
 have HSZ := Lib.hid (World.size_alloc w (.cells #[.int .i64 0, .int .i64 0, .string ⟨#[]⟩, .slice none 0 0] 32))
 have hp : f.pb < w.heap.size := h.blk.lt
 clear h hx
 go_enter Tryz.func64, Tryz.ntmps64
 go_upto_region 4 with (go_at_call 42; refine (HN _ HXB.out).out.mono ?_; rintro e W1 ⟨rfl, x1⟩; have X1 := Lib.hid ((HXB.out.trans x1).alloc (.cells #[.int .i64 4, .string ts, .int .i64 tn, .int .i64 ta, .bool tl] 55)); have Z1 := Lib.hid ((HZ.out.ext x1).ext (ext_box4 _ (.cells #[.int .i64 4, .string ts, .int .i64 tn, .int .i64 ta, .bool tl] 55))); have B6 := Lib.hid (Blk.new W1 55 #[.int .i64 4, .string ts, .int .i64 tn, .int .i64 ta, .bool tl]); have G6 : Hid (w.heap.size < W1.heap.size) := Lib.hid (by have := x1.size; rw [HSZ.out] at this; omega); clear x1)
 generalize W1.alloc (.cells #[.int .i64 4, .string ts, .int .i64 tn, .int .i64 ta, .bool tl] 55) = WB at *
 generalize W1.heap.size = g6 at *
 have HB := Lib.hid (H.out.ext X1.out)
 have SB := Lib.hid (PStep.ext (S := f.S) (nv := nv) X1.out)
 have ZB := Z1
 have CB := Lib.hid (clr_box H.out (Nat.le_refl _) Z1.out.lt)
 have k6 := B6.out.cell
 have GB : Hid (w.heap.size < WB.heap.size) := Lib.hid Z1.out.lt
 clear HXB HZ c5 Z1 HN
 go_upto_region 12 with fail
 have s1 := HB.out.setI t1 hqn HL.out ((plI f.L r : Int) + 1) (by rw [HT3.out]; omega)
 have c1 := HB.out.cells.c1
 have f1 := HB.out.blk.frozen 1
 have H6 := Lib.hid s1.1
 have S6 := Lib.hid (SB.out.trans s1.2)
 have hg6 : g6 ≠ f.pb := by have := G6.out; omega
 have Z6 : Hid (Blk (WB.setCell ⟨f.pb, 1, none⟩ (.int .i64 ((plI f.L r : Int) + 1))) w.heap.size 32 #[.int .i64 0, .int .i64 0, .string ⟨#[]⟩, .slice none 0 0]) := Lib.hid (ZB.out.far (p := ⟨f.pb, 1, none⟩) (by simp; omega) _)
 have B66 : Hid (Blk (WB.setCell ⟨f.pb, 1, none⟩ (.int .i64 ((plI f.L r : Int) + 1))) g6 55 #[.int .i64 4, .string ts, .int .i64 tn, .int .i64 ta, .bool tl]) := Lib.hid (B6.out.far (p := ⟨f.pb, 1, none⟩) (by simpa using hg6) _)
 have C6 := Lib.hid (s1.2.clr CB.out)
 have G66 : Hid (w.heap.size < (WB.setCell ⟨f.pb, 1, none⟩ (.int .i64 ((plI f.L r : Int) + 1))).heap.size) := Lib.hid Z6.out.lt
 generalize plI f.L r = k at *
 clear s1 k6
 go_upto_region 13 with fail
 generalize WB.setCell ⟨f.pb, 1, none⟩ (.int .i64 ((k : Int) + 1)) = W6 at *
 clear c1 f1 HB SB ZB CB B6 GB
 have m6 := B66.out.cell
 have HB := H6
 have SB := S6
 have ZB := Z6
 have CB := C6
 have GB := G66
 clear H6 S6 Z6 C6 G66
 have HI := Lib.hid (pInt_any tn W6)
 go_wp2_with (go_at_call 96; refine HI.out.mono ?_; rintro e W5 ⟨rfl, x5⟩; have H5 := Lib.hid (HB.out.ext x5); have S5 := Lib.hid (SB.out.trans (PStep.ext x5)); have Z5 := Lib.hid (ZB.out.ext x5); have zc := (ZB.out.ext x5).cell; have zf := (ZB.out.ext x5).frozen; clear x5)
 have kb := blk_set4 Z5.out (.int .i64 2) (.int .i64 tn) (.string ⟨#[]⟩) (.slice none 0 0)
 have kc := kb.cell
 have h7 := H5.out.set4 HO.out (Nat.le_refl _) Z5.out (.int .i64 2) (.int .i64 tn) (.string ⟨#[]⟩) (.slice none 0 0)
 have s7 := pstep_set4 S5.out (Nat.le_refl _) (.int .i64 2) (.int .i64 tn) (.string ⟨#[]⟩) (.slice none 0 0)
 refine bodyPost_ret (v := .tuple #[.agg #[.int .i64 2, .int .i64 tn, .string ⟨#[]⟩, .slice none 0 0], .int .i64 0]) ?_ rfl ⟨intT tn, 0, none, 0, nv, q, ns, false, rfl, ⟨rfl, rfl, rfl, rfl⟩, h7, s7, TmsIn.term (TmsIn.nil _ _ _ _) 2 tn ⟨#[]⟩, by have := HQL.out; omega⟩
 simp [results, Tryz.results64, go_sem, kc]
set_option maxRecDepth 100000 in
set_option maxHeartbeats 8000000 in
theorem paOper_var {f : PF} {N : Nat} (most : Int) {r : List TokV} (hN : r.length ≤ N + 1) {w : World} {nv : Value} {ns : List ByteArray} (h : PaAt f w r nv ns false) {n : Nat} (hn : 5 * r.length + 3 ≤ n) {t0 : TokV} {q : List TokV} (e : r = t0 :: q) (hk : t0.kind = 3) :
  Calls Tryz.prog 64 #[.pointer (some ⟨f.pb, 0, none⟩), .int .i64 most] w (OPost f w nv r (operN f.O n most r ns)) := by
 obtain ⟨m, rfl⟩ : ∃ m, n = m + 1 := ⟨n - 1, by omega⟩
 have HN := fun W (x : Ext w W) => Lib.hid (paNext (h.ext x) e)
 unfold tokA at HN
 have hop : operN f.O (m + 1) most r ns = .ok (varT t0.s ns, 0) q (varN t0.s ns) := by rw [e]; simp [operN, hk]
 rw [hop]
 obtain ⟨u, qq, hq⟩ := h.toks.more h.suf e (by rw [hk]; decide)
 have t1 := suf_tail h.suf e
 have t3 := plI_tail h.suf e
 have hqn : q ≠ [] := by rw [hq]; simp
 have hkL := plI_lt h.suf h.nil
 have hLL := h.toks.len
 have HL : Hid (ns.length + q.length ≤ f.L.length) := Lib.hid (by have := h.nl; rw [e] at this; simp at this; omega)
 have HQL : Hid (q.length + 1 = r.length) := Lib.hid (by rw [e]; simp)
 have HL2 := Lib.hid h.nl
 have HT3 := Lib.hid t3
 have HNN := Lib.hid hN
 have HM := Lib.hid hn
 clear t3 hq hN hn
 rw [hk] at HN
 clear e hk hop
 generalize t0.n = tn at *
 generalize t0.at_ = ta at *
 generalize t0.lay = tl at *
 generalize t0.s = ts at *
 have hx := ext_box4 w (.cells #[.int .i64 0, .int .i64 0, .string ⟨#[]⟩, .slice none 0 0] 32)
 have HO := Lib.hid h.old
 have HXB := Lib.hid hx
 have H := Lib.hid h
 have HZ := Lib.hid (Blk.new w 32 #[.int .i64 0, .int .i64 0, .string ⟨#[]⟩, .slice none 0 0])
 have c5 := hx.cell h.cells.c5
 have HSZ := Lib.hid (World.size_alloc w (.cells #[.int .i64 0, .int .i64 0, .string ⟨#[]⟩, .slice none 0 0] 32))
 have hp : f.pb < w.heap.size := h.blk.lt
 clear h hx
 go_enter Tryz.func64, Tryz.ntmps64
 go_upto_region 4 with (go_at_call 42; refine (HN _ HXB.out).out.mono ?_; rintro e W1 ⟨rfl, x1⟩; have X1 := Lib.hid ((HXB.out.trans x1).alloc (.cells #[.int .i64 3, .string ts, .int .i64 tn, .int .i64 ta, .bool tl] 55)); have Z1 := Lib.hid ((HZ.out.ext x1).ext (ext_box4 _ (.cells #[.int .i64 3, .string ts, .int .i64 tn, .int .i64 ta, .bool tl] 55))); have B6 := Lib.hid (Blk.new W1 55 #[.int .i64 3, .string ts, .int .i64 tn, .int .i64 ta, .bool tl]); have G6 : Hid (w.heap.size < W1.heap.size) := Lib.hid (by have := x1.size; rw [HSZ.out] at this; omega); clear x1)
 generalize W1.alloc (.cells #[.int .i64 3, .string ts, .int .i64 tn, .int .i64 ta, .bool tl] 55) = WB at *
 generalize W1.heap.size = g6 at *
 have HB := Lib.hid (H.out.ext X1.out)
 have SB := Lib.hid (PStep.ext (S := f.S) (nv := nv) X1.out)
 have ZB := Z1
 have CB := Lib.hid (clr_box H.out (Nat.le_refl _) Z1.out.lt)
 have k6 := B6.out.cell
 have GB : Hid (w.heap.size < WB.heap.size) := Lib.hid Z1.out.lt
 clear HXB HZ c5 Z1 HN
 go_upto_region 12 with fail
 have s1 := HB.out.setI t1 hqn HL.out ((plI f.L r : Int) + 1) (by rw [HT3.out]; omega)
 have c1 := HB.out.cells.c1
 have f1 := HB.out.blk.frozen 1
 have H6 := Lib.hid s1.1
 have S6 := Lib.hid (SB.out.trans s1.2)
 have hg6 : g6 ≠ f.pb := by have := G6.out; omega
 have Z6 : Hid (Blk (WB.setCell ⟨f.pb, 1, none⟩ (.int .i64 ((plI f.L r : Int) + 1))) w.heap.size 32 #[.int .i64 0, .int .i64 0, .string ⟨#[]⟩, .slice none 0 0]) := Lib.hid (ZB.out.far (p := ⟨f.pb, 1, none⟩) (by simp; omega) _)
 have B66 : Hid (Blk (WB.setCell ⟨f.pb, 1, none⟩ (.int .i64 ((plI f.L r : Int) + 1))) g6 55 #[.int .i64 3, .string ts, .int .i64 tn, .int .i64 ta, .bool tl]) := Lib.hid (B6.out.far (p := ⟨f.pb, 1, none⟩) (by simpa using hg6) _)
 have C6 := Lib.hid (s1.2.clr CB.out)
 have G66 : Hid (w.heap.size < (WB.setCell ⟨f.pb, 1, none⟩ (.int .i64 ((plI f.L r : Int) + 1))).heap.size) := Lib.hid Z6.out.lt
 generalize plI f.L r = k at *
 clear s1 k6
 go_upto_region 13 with fail
 generalize WB.setCell ⟨f.pb, 1, none⟩ (.int .i64 ((k : Int) + 1)) = W6 at *
 clear c1 f1 HB SB ZB CB B6 GB
 have m6 := B66.out.cell
 have HB := H6
 have SB := S6
 have ZB := Z6
 have CB := C6
 have GB := G66
 clear H6 S6 Z6 C6 G66
 have HV := Lib.hid (paVariable ts HB.out (by have := HL2.out; have := HQL.out; omega))
 obtain ⟨vn, hvn⟩ : ∃ vn, varT ts ns = .mk 1 vn ⟨#[]⟩ [] := by
  unfold varT
  cases varI ts ns with
  | some k => exact ⟨_, rfl⟩
  | none => exact ⟨_, rfl⟩
 rw [hvn, tmVal_var] at HV
 have HVN := Lib.hid hvn
 clear hvn
 go_wp2_with (go_at_call 97; refine HV.out.mono ?_; rintro e W5 ⟨nv5, rfl, h5, s5⟩; have H5 := Lib.hid h5; have S5 := Lib.hid (SB.out.trans s5); have Z5 := Lib.hid (ZB.out.mods s5.mods CB.out.no); have zc := Z5.out.cell; have zf := Z5.out.frozen; clear h5 s5)
 have kb := blk_set4 Z5.out (.int .i64 1) (.int .i64 vn) (.string ⟨#[]⟩) (.slice none 0 0)
 have kc := kb.cell
 have h7 := H5.out.set4 HO.out (Nat.le_refl _) Z5.out (.int .i64 1) (.int .i64 vn) (.string ⟨#[]⟩) (.slice none 0 0)
 have s7 := pstep_set4 S5.out (Nat.le_refl _) (.int .i64 1) (.int .i64 vn) (.string ⟨#[]⟩) (.slice none 0 0)
 refine bodyPost_ret (v := .tuple #[.agg #[.int .i64 1, .int .i64 vn, .string ⟨#[]⟩, .slice none 0 0], .int .i64 0]) ?_ rfl ⟨.mk 1 vn ⟨#[]⟩ [], 0, none, 0, nv5, q, varN ts ns, false, rfl, ?_, h7, s7, TmsIn.term (TmsIn.nil _ _ _ _) 1 vn ⟨#[]⟩, by have := HQL.out; omega⟩
 ·simp [results, Tryz.results64, go_sem, kc]
 ·rw [HVN.out]
  exact ⟨rfl, rfl, rfl, rfl⟩
set_option maxRecDepth 100000 in
set_option maxHeartbeats 8000000 in
theorem paOper_name {f : PF} {N : Nat} (IH : PTermC f N) (most : Int) {r : List TokV} (hN : r.length ≤ N + 1) {w : World} {nv : Value} {ns : List ByteArray} (h : PaAt f w r nv ns false) {n : Nat} (hn : 5 * r.length + 3 ≤ n) {t0 : TokV} {q : List TokV} (e : r = t0 :: q) (hk : t0.kind = 2) :
  Calls Tryz.prog 64 #[.pointer (some ⟨f.pb, 0, none⟩), .int .i64 most] w (OPost f w nv r (operN f.O n most r ns)) := by
 obtain ⟨m, rfl⟩ : ∃ m, n = m + 1 := ⟨n - 1, by omega⟩
 have HN := fun W (x : Ext w W) => Lib.hid (paNext (h.ext x) e)
 unfold tokA at HN
 have hop : operN f.O (m + 1) most r ns = namedN f.O m t0.s q ns := by rw [e]; simp [operN, hk]
 rw [hop]
 obtain ⟨X, hX⟩ : ∃ X, namedN f.O m t0.s q ns = X := ⟨_, rfl⟩
 rw [hX]
 have HLX := Lib.hid hX
 clear hX
 obtain ⟨u, qq, hq⟩ := h.toks.more h.suf e (by rw [hk]; decide)
 have t1 := suf_tail h.suf e
 have t3 := plI_tail h.suf e
 have hqn : q ≠ [] := by rw [hq]; simp
 have hkL := plI_lt h.suf h.nil
 have hLL := h.toks.len
 have HL : Hid (ns.length + q.length ≤ f.L.length) := Lib.hid (by have := h.nl; rw [e] at this; simp at this; omega)
 have HQL : Hid (q.length + 1 = r.length) := Lib.hid (by rw [e]; simp)
 have HL2 := Lib.hid h.nl
 have HT3 := Lib.hid t3
 have HNN := Lib.hid hN
 have HM := Lib.hid hn
 clear t3 hq hN hn
 rw [hk] at HN
 clear e hk hop
 generalize t0.n = tn at *
 generalize t0.at_ = ta at *
 generalize t0.lay = tl at *
 generalize t0.s = ts at *
 have hx := ext_box4 w (.cells #[.int .i64 0, .int .i64 0, .string ⟨#[]⟩, .slice none 0 0] 32)
 have HO := Lib.hid h.old
 have HXB := Lib.hid hx
 have H := Lib.hid h
 have HZ := Lib.hid (Blk.new w 32 #[.int .i64 0, .int .i64 0, .string ⟨#[]⟩, .slice none 0 0])
 have c5 := hx.cell h.cells.c5
 have HSZ := Lib.hid (World.size_alloc w (.cells #[.int .i64 0, .int .i64 0, .string ⟨#[]⟩, .slice none 0 0] 32))
 have hp : f.pb < w.heap.size := h.blk.lt
 clear h hx
 go_enter Tryz.func64, Tryz.ntmps64
 go_upto_region 4 with (go_at_call 42; refine (HN _ HXB.out).out.mono ?_; rintro e W1 ⟨rfl, x1⟩; have X1 := Lib.hid ((HXB.out.trans x1).alloc (.cells #[.int .i64 2, .string ts, .int .i64 tn, .int .i64 ta, .bool tl] 55)); have Z1 := Lib.hid ((HZ.out.ext x1).ext (ext_box4 _ (.cells #[.int .i64 2, .string ts, .int .i64 tn, .int .i64 ta, .bool tl] 55))); have B6 := Lib.hid (Blk.new W1 55 #[.int .i64 2, .string ts, .int .i64 tn, .int .i64 ta, .bool tl]); have G6 : Hid (w.heap.size < W1.heap.size) := Lib.hid (by have := x1.size; rw [HSZ.out] at this; omega); clear x1)
 generalize W1.alloc (.cells #[.int .i64 2, .string ts, .int .i64 tn, .int .i64 ta, .bool tl] 55) = WB at *
 generalize W1.heap.size = g6 at *
 have HB := Lib.hid (H.out.ext X1.out)
 have SB := Lib.hid (PStep.ext (S := f.S) (nv := nv) X1.out)
 have ZB := Z1
 have CB := Lib.hid (clr_box H.out (Nat.le_refl _) Z1.out.lt)
 have k6 := B6.out.cell
 have GB : Hid (w.heap.size < WB.heap.size) := Lib.hid Z1.out.lt
 clear HXB HZ c5 Z1 HN
 go_upto_region 12 with fail
 have s1 := HB.out.setI t1 hqn HL.out ((plI f.L r : Int) + 1) (by rw [HT3.out]; omega)
 have c1 := HB.out.cells.c1
 have f1 := HB.out.blk.frozen 1
 have H6 := Lib.hid s1.1
 have S6 := Lib.hid (SB.out.trans s1.2)
 have hg6 : g6 ≠ f.pb := by have := G6.out; omega
 have Z6 : Hid (Blk (WB.setCell ⟨f.pb, 1, none⟩ (.int .i64 ((plI f.L r : Int) + 1))) w.heap.size 32 #[.int .i64 0, .int .i64 0, .string ⟨#[]⟩, .slice none 0 0]) := Lib.hid (ZB.out.far (p := ⟨f.pb, 1, none⟩) (by simp; omega) _)
 have B66 : Hid (Blk (WB.setCell ⟨f.pb, 1, none⟩ (.int .i64 ((plI f.L r : Int) + 1))) g6 55 #[.int .i64 2, .string ts, .int .i64 tn, .int .i64 ta, .bool tl]) := Lib.hid (B6.out.far (p := ⟨f.pb, 1, none⟩) (by simpa using hg6) _)
 have C6 := Lib.hid (s1.2.clr CB.out)
 have G66 : Hid (w.heap.size < (WB.setCell ⟨f.pb, 1, none⟩ (.int .i64 ((plI f.L r : Int) + 1))).heap.size) := Lib.hid Z6.out.lt
 generalize plI f.L r = k at *
 clear s1 k6
 go_upto_region 13 with fail
 generalize WB.setCell ⟨f.pb, 1, none⟩ (.int .i64 ((k : Int) + 1)) = W6 at *
 clear c1 f1 HB SB ZB CB B6 GB
 have m6 := B66.out.cell
 have HB := H6
 have SB := S6
 have ZB := Z6
 have CB := C6
 have GB := G66
 clear H6 S6 Z6 C6 G66
 have HT := Lib.hid (paNamed IH ts (by have := HNN.out; have := HQL.out; omega) HB.out (n := m) (by have := HM.out; have := HQL.out; omega))
 rw [HLX.out] at HT
 go_wp2_with (go_at_call 98; refine HT.out.mono ?_; rintro e W5 ⟨t, A, c, nv5, r5, ns5, b5, rfl, hres, h5, s5, ht5, hl5⟩; have HRES := Lib.hid hres; have H5 := Lib.hid h5; have S5 := Lib.hid (SB.out.trans s5); have T5 := Lib.hid ht5; have L5 := Lib.hid hl5; have Z5 := Lib.hid (ZB.out.mods s5.mods CB.out.no); have zc := (ZB.out.mods s5.mods CB.out.no).cell; have zf := (ZB.out.mods s5.mods CB.out.no).frozen; clear hres h5 s5 ht5 hl5)
 have G5 : Hid (w.heap.size < W6.heap.size) := GB
 have kb := blk_set4 Z5.out (.int .i64 (Tm.k t)) (.int .i64 (Tm.n t)) (.string (Tm.s t)) (.slice A (Tm.l t).length c)
 have kc := kb.cell
 have h7 := H5.out.set4 HO.out (Nat.le_refl _) Z5.out (.int .i64 (Tm.k t)) (.int .i64 (Tm.n t)) (.string (Tm.s t)) (.slice A (Tm.l t).length c)
 have s7 := pstep_set4 S5.out (Nat.le_refl _) (.int .i64 (Tm.k t)) (.int .i64 (Tm.n t)) (.string (Tm.s t)) (.slice A (Tm.l t).length c)
 have t7 := tmN_wide (w := w) (tmN_set4 T5.out (z := w.heap.size) G5.out (.int .i64 (Tm.k t)) (.int .i64 (Tm.n t)) (.string (Tm.s t)) (.slice A (Tm.l t).length c)) (Nat.le_of_lt G5.out)
 refine bodyPost_ret (v := .tuple #[.agg #[.int .i64 (Tm.k t), .int .i64 (Tm.n t), .string (Tm.s t), .slice A (Tm.l t).length c], .int .i64 0]) ?_ rfl ⟨t, 0, A, c, nv5, r5, ns5, b5, rfl, HRES.out, h7, s7, t7, Nat.le_trans L5.out (by have := HQL.out; omega)⟩
 simp [results, Tryz.results64, go_sem, kc]
set_option maxRecDepth 100000 in
set_option maxHeartbeats 8000000 in
theorem paOper_sign {f : PF} {N : Nat} (IH : PTermC f N) (most : Int) {r : List TokV} (hN : r.length ≤ N + 1) {w : World} {nv : Value} {ns : List ByteArray} (h : PaAt f w r nv ns false) {n : Nat} (hn : 5 * r.length + 3 ≤ n) {t0 : TokV} {q : List TokV} (e : r = t0 :: q) (hk : t0.kind = 1) :
  Calls Tryz.prog 64 #[.pointer (some ⟨f.pb, 0, none⟩), .int .i64 most] w (OPost f w nv r (operN f.O n most r ns)) := by
 obtain ⟨m, rfl⟩ : ∃ m, n = m + 1 := ⟨n - 1, by omega⟩
 have HN := fun W (x : Ext w W) => Lib.hid (paNext (h.ext x) e)
 unfold tokA at HN
 have hop : operN f.O (m + 1) most r ns = signN f.O m t0.s most q ns := by rw [e]; simp [operN, hk]
 rw [hop]
 obtain ⟨X, hX⟩ : ∃ X, signN f.O m t0.s most q ns = X := ⟨_, rfl⟩
 rw [hX]
 have HLX := Lib.hid hX
 clear hX
 obtain ⟨u, qq, hq⟩ := h.toks.more h.suf e (by rw [hk]; decide)
 have t1 := suf_tail h.suf e
 have t3 := plI_tail h.suf e
 have hqn : q ≠ [] := by rw [hq]; simp
 have hkL := plI_lt h.suf h.nil
 have hLL := h.toks.len
 have HL : Hid (ns.length + q.length ≤ f.L.length) := Lib.hid (by have := h.nl; rw [e] at this; simp at this; omega)
 have HQL : Hid (q.length + 1 = r.length) := Lib.hid (by rw [e]; simp)
 have HL2 := Lib.hid h.nl
 have HT3 := Lib.hid t3
 have HNN := Lib.hid hN
 have HM := Lib.hid hn
 clear t3 hq hN hn
 rw [hk] at HN
 clear e hk hop
 generalize t0.n = tn at *
 generalize t0.at_ = ta at *
 generalize t0.lay = tl at *
 generalize t0.s = ts at *
 have hx := ext_box4 w (.cells #[.int .i64 0, .int .i64 0, .string ⟨#[]⟩, .slice none 0 0] 32)
 have HO := Lib.hid h.old
 have HXB := Lib.hid hx
 have H := Lib.hid h
 have HZ := Lib.hid (Blk.new w 32 #[.int .i64 0, .int .i64 0, .string ⟨#[]⟩, .slice none 0 0])
 have c5 := hx.cell h.cells.c5
 have HSZ := Lib.hid (World.size_alloc w (.cells #[.int .i64 0, .int .i64 0, .string ⟨#[]⟩, .slice none 0 0] 32))
 have hp : f.pb < w.heap.size := h.blk.lt
 clear h hx
 go_enter Tryz.func64, Tryz.ntmps64
 go_upto_region 4 with (go_at_call 42; refine (HN _ HXB.out).out.mono ?_; rintro e W1 ⟨rfl, x1⟩; have X1 := Lib.hid ((HXB.out.trans x1).alloc (.cells #[.int .i64 1, .string ts, .int .i64 tn, .int .i64 ta, .bool tl] 55)); have Z1 := Lib.hid ((HZ.out.ext x1).ext (ext_box4 _ (.cells #[.int .i64 1, .string ts, .int .i64 tn, .int .i64 ta, .bool tl] 55))); have B6 := Lib.hid (Blk.new W1 55 #[.int .i64 1, .string ts, .int .i64 tn, .int .i64 ta, .bool tl]); have G6 : Hid (w.heap.size < W1.heap.size) := Lib.hid (by have := x1.size; rw [HSZ.out] at this; omega); clear x1)
 generalize W1.alloc (.cells #[.int .i64 1, .string ts, .int .i64 tn, .int .i64 ta, .bool tl] 55) = WB at *
 generalize W1.heap.size = g6 at *
 have HB := Lib.hid (H.out.ext X1.out)
 have SB := Lib.hid (PStep.ext (S := f.S) (nv := nv) X1.out)
 have ZB := Z1
 have CB := Lib.hid (clr_box H.out (Nat.le_refl _) Z1.out.lt)
 have k6 := B6.out.cell
 have GB : Hid (w.heap.size < WB.heap.size) := Lib.hid Z1.out.lt
 clear HXB HZ c5 Z1 HN
 go_upto_region 12 with fail
 have s1 := HB.out.setI t1 hqn HL.out ((plI f.L r : Int) + 1) (by rw [HT3.out]; omega)
 have c1 := HB.out.cells.c1
 have f1 := HB.out.blk.frozen 1
 have H6 := Lib.hid s1.1
 have S6 := Lib.hid (SB.out.trans s1.2)
 have hg6 : g6 ≠ f.pb := by have := G6.out; omega
 have Z6 : Hid (Blk (WB.setCell ⟨f.pb, 1, none⟩ (.int .i64 ((plI f.L r : Int) + 1))) w.heap.size 32 #[.int .i64 0, .int .i64 0, .string ⟨#[]⟩, .slice none 0 0]) := Lib.hid (ZB.out.far (p := ⟨f.pb, 1, none⟩) (by simp; omega) _)
 have B66 : Hid (Blk (WB.setCell ⟨f.pb, 1, none⟩ (.int .i64 ((plI f.L r : Int) + 1))) g6 55 #[.int .i64 1, .string ts, .int .i64 tn, .int .i64 ta, .bool tl]) := Lib.hid (B6.out.far (p := ⟨f.pb, 1, none⟩) (by simpa using hg6) _)
 have C6 := Lib.hid (s1.2.clr CB.out)
 have G66 : Hid (w.heap.size < (WB.setCell ⟨f.pb, 1, none⟩ (.int .i64 ((plI f.L r : Int) + 1))).heap.size) := Lib.hid Z6.out.lt
 generalize plI f.L r = k at *
 clear s1 k6
 go_upto_region 13 with fail
 generalize WB.setCell ⟨f.pb, 1, none⟩ (.int .i64 ((k : Int) + 1)) = W6 at *
 clear c1 f1 HB SB ZB CB B6 GB
 have m6 := B66.out.cell
 have HB := H6
 have SB := S6
 have ZB := Z6
 have CB := C6
 have GB := G66
 clear H6 S6 Z6 C6 G66
 have HT := Lib.hid (paSign IH ts most (by have := HNN.out; have := HQL.out; omega) HB.out (n := m) (by have := HM.out; have := HQL.out; omega))
 rw [HLX.out] at HT
 go_wp2_with (go_at_call 99; refine HT.out.mono ?_; rintro e W5 ⟨t, p, A, c, nv5, r5, ns5, b5, rfl, hres, h5, s5, ht5, hl5⟩; have HRES := Lib.hid hres; have H5 := Lib.hid h5; have S5 := Lib.hid (SB.out.trans s5); have T5 := Lib.hid ht5; have L5 := Lib.hid hl5; have Z5 := Lib.hid (ZB.out.mods s5.mods CB.out.no); have zc := (ZB.out.mods s5.mods CB.out.no).cell; have zf := (ZB.out.mods s5.mods CB.out.no).frozen; clear hres h5 s5 ht5 hl5)
 have G5 : Hid (w.heap.size < W6.heap.size) := GB
 have kb := blk_set4 Z5.out (.int .i64 (Tm.k t)) (.int .i64 (Tm.n t)) (.string (Tm.s t)) (.slice A (Tm.l t).length c)
 have kc := kb.cell
 have h7 := H5.out.set4 HO.out (Nat.le_refl _) Z5.out (.int .i64 (Tm.k t)) (.int .i64 (Tm.n t)) (.string (Tm.s t)) (.slice A (Tm.l t).length c)
 have s7 := pstep_set4 S5.out (Nat.le_refl _) (.int .i64 (Tm.k t)) (.int .i64 (Tm.n t)) (.string (Tm.s t)) (.slice A (Tm.l t).length c)
 have t7 := tmN_wide (w := w) (tmN_set4 T5.out (z := w.heap.size) G5.out (.int .i64 (Tm.k t)) (.int .i64 (Tm.n t)) (.string (Tm.s t)) (.slice A (Tm.l t).length c)) (Nat.le_of_lt G5.out)
 refine bodyPost_ret (v := .tuple #[.agg #[.int .i64 (Tm.k t), .int .i64 (Tm.n t), .string (Tm.s t), .slice A (Tm.l t).length c], .int .i64 p]) ?_ rfl ⟨t, p, A, c, nv5, r5, ns5, b5, rfl, HRES.out, h7, s7, t7, Nat.le_trans L5.out (by have := HQL.out; omega)⟩
 simp [results, Tryz.results64, go_sem, kc]
theorem paOperand {f : PF} {N : Nat} (IH : PTermC f N) (most : Int) {r : List TokV} (hN : r.length ≤ N + 1) {w : World} {nv : Value} {ns : List ByteArray} (h : PaAt f w r nv ns false) {n : Nat} (hn : 5 * r.length + 3 ≤ n) :
  Calls Tryz.prog 64 #[.pointer (some ⟨f.pb, 0, none⟩), .int .i64 most] w (OPost f w nv r (operN f.O n most r ns)) := by
 obtain ⟨t0, q, e⟩ := ToksOk.ne h.suf h.nil
 rcases tok_kind (h.toks.head h.suf e) with hk | hk | hk | hk | hk | hk
 ·exact paOper_sign IH most hN h hn e hk
 ·exact paOper_name IH most hN h hn e hk
 ·exact paOper_var most hN h hn e hk
 ·exact paOper_int most hN h hn e hk
 ·by_cases h1 : t0.s = ⟨#[40]⟩
  ·exact paOper_par IH most hN h hn e hk h1
  ·by_cases h2 : t0.s = ⟨#[91]⟩
   ·exact paOper_sq IH most hN h hn e hk h2
   ·by_cases h3 : t0.s = ⟨#[123]⟩
    ·exact paOper_cur IH most hN h hn e hk h3
    ·exact paOper_odd most hN h hn e hk (by simp [h1, h2, h3])
 ·exact paOper_end most hN h hn e hk
end Go.Proofs.YtgcdhffeacdegaaGreatDoor

/- Layer 10, the program: the state of term. -/
namespace Go.Proofs.YtgcdhffeacdegaaGreatDoor
open Go.RowKit Go.El
def loopM (O : Ops) (n : Nat) (most : Int) (t : Tm) (o : OpV) (x : PR Tm) : PR Tm := match x with
 | .bad q => .bad q
 | .ok u q ms => loopN O n most (.mk 4 0 o.s [t, u]) o.p q ms
def termM (O : Ops) (n : Nat) (most : Int) (x : PR (Tm × Int)) : PR Tm := match x with
 | .bad q => .bad q
 | .ok a q ms => loopN O n most a.1 a.2 q ms
theorem termN_eq (O : Ops) (n : Nat) (most : Int) (r : List TokV) (ns : List ByteArray) : termN O (n + 1) most r ns = termM O n most (operN O n most r ns) := by
 simp only [termN]
 cases operN O n most r ns <;> rfl
theorem loop_none (O : Ops) (n : Nat) (most : Int) (t : Tm) (p : Int) (q : List TokV) (ms : List ByteArray) (h : infixF O q = none) : loopN O (n + 1) most t p q ms = .ok t q ms := by
 simp only [loopN, h]
theorem loop_stop (O : Ops) (n : Nat) (most : Int) (t : Tm) (p : Int) (q : List TokV) (ms : List ByteArray) {o : OpV} (h : infixF O q = some o) (hs : most < o.p ∨ leftI o.p o.t < p) : loopN O (n + 1) most t p q ms = .ok t q ms := by
 simp only [loopN, h]
 rw [if_pos hs]
theorem loop_go (O : Ops) (n : Nat) (most : Int) (t : Tm) (p : Int) (q : List TokV) (ms : List ByteArray) {o : OpV} (h : infixF O q = some o) (hs : ¬ (most < o.p ∨ leftI o.p o.t < p)) : loopN O (n + 1) most t p q ms = loopM O n most t o (termN O n (rightI o.p o.t) q.tail ms) := by
 simp only [loopN, h]
 rw [if_neg hs]
 cases termN O n (rightI o.p o.t) q.tail ms <;> rfl
structure TermSt (f : PF) (w : World) (nv0 : Value) (most : Int) (r0 : List TokV) (X : PR Tm) (gB : Nat) (W : World) (p : Int) (t : Tm) (A : Option Addr) (c : Nat) (nv : Value) (q : List TokV) (ms : List ByteArray) (bad : Bool) : Prop where
 pa : PaAt f W q nv ms bad
 st : PStep f.S nv0 w nv W
 zb : Blk W w.heap.size 32 #[.int .i64 0, .int .i64 0, .string ⟨#[]⟩, .slice none 0 0]
 cz : Clr2 f.S nv W w.heap.size
 tb : Blk W gB 32 #[.int .i64 (Tm.k t), .int .i64 (Tm.n t), .string (Tm.s t), .slice A (Tm.l t).length c]
 cb : Clr2 f.S nv W gB
 ne : w.heap.size < gB
 tm : TmIn (fun k => NewT f.S nv w W k ∧ k ≠ gB ∧ k ≠ w.heap.size) W t A c
 len : q.length ≤ r0.length
 bd : bad = true → X = .bad q
 ok : bad = false → ∃ n, 5 * q.length + 1 ≤ n ∧ loopN f.O n most t p q ms = X
theorem TermSt.ext {f : PF} {w : World} {nv0 : Value} {most : Int} {r0 : List TokV} {X : PR Tm} {gB : Nat} {W W' : World} {p : Int} {t : Tm} {A : Option Addr} {c : Nat} {nv : Value} {q : List TokV} {ms : List ByteArray} {bad : Bool} (h : TermSt f w nv0 most r0 X gB W p t A c nv q ms bad) (x : Ext W W') : TermSt f w nv0 most r0 X gB W' p t A c nv q ms bad :=
 ⟨h.pa.ext x, h.st.trans (PStep.ext x), h.zb.ext x, (PStep.ext x).clr h.cz, h.tb.ext x, (PStep.ext x).clr h.cb, h.ne, (h.tm.ext x).mono (fun _ hk => ⟨hk.1.step (PStep.ext x), hk.2⟩), h.len, h.bd, h.ok⟩
theorem loop_end {x y : PR Tm} {t : Tm} {q : List TokV} {ms : List ByteArray} (h : x = .ok t q ms) (hx : x = y) : resIs y t q ms false := by
 rw [← hx, h]
 exact ⟨rfl, rfl, rfl, rfl⟩
theorem infix_more {f : PF} {W : World} {q : List TokV} {nv : Value} {ms : List ByteArray} {bad : Bool} (h : PaAt f W q nv ms bad) {o : OpV} (hi : infixF f.O q = some o) : q.tail <:+ f.L ∧ q.tail ≠ [] ∧ plI f.L q.tail = plI f.L q + 1 ∧ q.tail.length + 1 = q.length := by
 obtain ⟨t, q2, e⟩ := ToksOk.ne h.suf h.nil
 have hk : t.kind ≠ 6 := by
  intro hk
  rw [e] at hi
  unfold infixF at hi
  simp only at hi
  split at hi
  ·next hc =>
   rcases hc with hc | hc
   ·omega
   ·simp [isPu, hk] at hc
  ·cases hi
 obtain ⟨u, p, e2⟩ := h.toks.more h.suf e hk
 have hq : q.tail = q2 := by rw [e]; rfl
 rw [hq]
 exact ⟨suf_tail h.suf e, by simp [e2], plI_tail h.suf e, by rw [e]; simp⟩
theorem oper_end {O : Ops} {n : Nat} {most : Int} {x : PR (Tm × Int)} {a : Tm × Int} {r : List TokV} {ns : List ByteArray} {bad : Bool} (h : resIs x a r ns bad) : (bad = true → termM O n most x = .bad r) ∧ (bad = false → loopN O n most a.1 a.2 r ns = termM O n most x) := by
 cases x with
 | bad q =>
  obtain ⟨rfl, rfl⟩ := h
  exact ⟨fun _ => rfl, fun h => by cases h⟩
 | ok b q ms =>
  obtain ⟨rfl, rfl, rfl, rfl⟩ := h
  exact ⟨fun h => by (cases h), fun _ => rfl⟩
theorem loopM_end {O : Ops} {n : Nat} {most : Int} {t : Tm} {o : OpV} {x : PR Tm} {a : Tm} {r : List TokV} {ns : List ByteArray} {bad : Bool} (h : resIs x a r ns bad) : (bad = true → loopM O n most t o x = .bad r) ∧ (bad = false → loopN O n most (.mk 4 0 o.s [t, a]) o.p r ns = loopM O n most t o x) := by
 cases x with
 | bad q =>
  obtain ⟨rfl, rfl⟩ := h
  exact ⟨fun _ => rfl, fun h => by cases h⟩
 | ok b q ms =>
  obtain ⟨rfl, rfl, rfl, rfl⟩ := h
  exact ⟨fun h => by (cases h), fun _ => rfl⟩
theorem mods_set4 (S : List Nat) (W : World) (z : Nat) (hz : z ∈ S) (a b c d : Value) : Mods S W (set4 W z a b c d) :=
 (((((Mods.refl S W).setCell (p := ⟨z, 0, none⟩) (.inl hz) a).setCell (p := ⟨z, 1, none⟩) (.inl hz) b).setCell (p := ⟨z, 2, none⟩) (.inl hz) c).setCell (p := ⟨z, 3, none⟩) (.inl hz) d)
theorem TermSt.tmE {f : PF} {w : World} {nv0 : Value} {most : Int} {r0 : List TokV} {X : PR Tm} {gB : Nat} {W : World} {p : Int} {t : Tm} {A : Option Addr} {c : Nat} {nv : Value} {q : List TokV} {ms : List ByteArray} {bad : Bool} (h : TermSt f w nv0 most r0 X gB W p t A c nv q ms bad) (a b c2 d : Value) : TmIn (NewT f.S nv w (set4 W w.heap.size a b c2 d)) (set4 W w.heap.size a b c2 d) t A c :=
 TmIn.mods (mods_set4 [w.heap.size] W w.heap.size (by simp) a b c2 d) (fun _ hk => by simpa using hk.2.2) (fun _ hk => ⟨hk.1.1, clr_set4 hk.1.2 _ _ _ _ _⟩) h.tm
theorem TermSt.next {f : PF} {w : World} {nv0 : Value} {most : Int} {r0 : List TokV} {X : PR Tm} {gB : Nat} {W8 W9 : World} {t u : Tm} {A c9A : Option Addr} {c c9 : Nat} {nv8 : Value} {q8 : List TokV} {ms8 : List ByteArray} {b8 : Bool} {o : OpV} {m1 : Nat} {Y2 : PR Tm}
  (hk : loopM f.O m1 most t o Y2 = X) (h8 : PaAt f W8 q8 nv8 ms8 b8) (s8 : PStep f.S nv0 w nv8 W8) (z8 : Blk W8 w.heap.size 32 #[.int .i64 0, .int .i64 0, .string ⟨#[]⟩, .slice none 0 0]) (cz8 : Clr2 f.S nv8 W8 w.heap.size) (tb8 : Blk W8 gB 32 #[.int .i64 (Tm.k t), .int .i64 (Tm.n t), .string (Tm.s t), .slice A (Tm.l t).length c]) (cb8 : Clr2 f.S nv8 W8 gB) (ne : w.heap.size < gB) (hres : resIs Y2 u q8 ms8 b8) (ho : f.old w.heap.size) (l8 : q8.length ≤ r0.length) (hf : 5 * q8.length + 1 ≤ m1) (x9 : Ext W8 W9)
  (t9 : TmIn (fun k => (NewT f.S nv8 w W8 k ∧ k ≠ gB ∧ k ≠ w.heap.size) ∨ (W8.heap.size ≤ k ∧ k < W9.heap.size)) W9 (.mk 4 0 o.s [t, u]) c9A c9) :
  TermSt f w nv0 most r0 X gB (set4 W9 gB (.int .i64 4) (.int .i64 0) (.string o.s) (.slice c9A 2 c9)) o.p (.mk 4 0 o.s [t, u]) c9A c9 nv8 q8 ms8 b8 := by
 have he := loopM_end (O := f.O) (n := m1) (most := most) (t := t) (o := o) hres
 rw [hk] at he
 have px := PStep.ext (S := f.S) (nv := nv8) x9
 refine ⟨(h8.ext x9).set4 ho (Nat.le_of_lt ne) (tb8.ext x9) _ _ _ _, pstep_set4 (s8.trans px) (Nat.le_of_lt ne) _ _ _ _, blk_set4_far (z8.ext x9) (Nat.ne_of_lt ne) _ _ _ _, clr_set4 (px.clr cz8) _ _ _ _ _, blk_s4 (tb8.ext x9) _ _ _ _, clr_set4 (px.clr cb8) _ _ _ _ _, ne, ?_, l8, he.1, fun hb => ⟨m1, hf, he.2 hb⟩⟩
 have hb := tb8.lt
 refine TmIn.mods (mods_set4 [gB] W9 gB (by simp) _ _ _ _) (fun k hk => ?_) (fun k hk => ?_) t9
 ·rcases hk with hk | hk
  ·simpa using hk.2.1
  ·simp; omega
 ·rcases hk with hk | hk
  ·exact ⟨⟨hk.1.1, clr_set4 (px.clr hk.1.2) _ _ _ _ _⟩, hk.2⟩
  ·exact ⟨⟨by omega, clr_set4 (clr_box h8 hk.1 hk.2) _ _ _ _ _⟩, by omega, by omega⟩
end Go.Proofs.YtgcdhffeacdegaaGreatDoor
