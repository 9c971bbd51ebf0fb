/- Layer 10, the reference: the walk of operand: ends, numbers, variables, names. -/
import Derived.Test.YtgcdhffeacdegaaGreatDoorC44
import Derived.Test.YtgcdhffeacdegaaGreatDoorC46
import Derived.Test.YtgcdhffeacdegaaGreatDoorC47
import Derived.Test.YtgcdhffeacdegaaGreatDoorC25
namespace Go.Proofs.YtgcdhffeacdegaaGreatDoor
open Go.RowKit Go.El

set_option maxRecDepth 100000 in
set_option maxHeartbeats 4000000 in
theorem raOper_end {f : RF} {N : Nat} (most : Int) {r : List TokV} (_ : r.length ≤ N + 1) {w : World} {nv : Value} {ns : List ByteArray} (h : RaAt f w r nv ns false) {n : Nat} (hn : 5 * r.length + 3 ≤ n) {t0 : TokV} {q : List TokV} (e : r = t0 :: q) (hk : t0.kind = 6) :
    Calls Tryz.prog 72 #[.pointer (some ⟨f.pb, 0, none⟩), .int .i64 most] w (ROPost f w nv r (operN f.O n most r ns)) := by
  obtain ⟨m, rfl⟩ : ∃ m, n = m + 1 := ⟨n - 1, by omega⟩
  have hop : operN f.O (m + 1) most r ns = .bad r := by rw [e]; simp [operN, hk]
  rw [hop]
  have hx := ext_box4 w (.cells #[.int .i64 0, .int .i64 0, .string ⟨#[]⟩, .slice none 0 0] 32)
  have HO := Lib.hid h.old
  have HX := Lib.hid hx
  have H := Lib.hid (h.ext hx)
  have HZ := Lib.hid (Blk.new w 32 #[.int .i64 0, .int .i64 0, .string ⟨#[]⟩, .slice none 0 0])
  have HSZ := Lib.hid (World.size_alloc w (.cells #[.int .i64 0, .int .i64 0, .string ⟨#[]⟩, .slice none 0 0] 32))
  have CZ := Lib.hid (rclr_box h (Nat.le_refl _) HZ.out.lt)
  have hp : f.pb < w.heap.size := h.blk.lt
  obtain ⟨b, off, hA, d0, d1, d2, d3, d4⟩ := ra_here (h.ext hx) e
  have hlt := plI_lt h.suf h.nil
  have hL := h.toks.len
  have c0 := (h.ext hx).cells.c0
  have c1 := (h.ext hx).cells.c1
  have c4 := (h.ext hx).cells.c4
  rw [hA] at c0
  have hbb : b < (w.alloc (.cells #[.int .i64 0, .int .i64 0, .string ⟨#[]⟩, .slice none 0 0] 32)).heap.size := cell_lt d0
  have hpp : f.pb < (w.alloc (.cells #[.int .i64 0, .int .i64 0, .string ⟨#[]⟩, .slice none 0 0] 32)).heap.size := (h.ext hx).blk.lt
  obtain ⟨k, hkk⟩ : ∃ k, plI f.L r = k := ⟨_, rfl⟩
  have HKK := Lib.hid hkk
  rw [hkk] at c1 d0 d1 d2 d3 d4 hlt
  have hq1 : (k : Int) < (f.L.length : Int) := by omega
  have HK := Lib.hid hk
  have HE := Lib.hid e
  clear h hx hA hkk hk e
  go_enter Tryz.func72, Tryz.ntmps72
  go_upto_region 3 with fail
  generalize w.alloc (.cells #[.int .i64 0, .int .i64 0, .string ⟨#[]⟩, .slice none 0 0] 32) = W0 at *
  go_region
  all_goals
    obtain ⟨xb, kb⟩ := ra_box (W0 := W0) t0
    have X1 := Lib.hid xb
    have B6 := Lib.hid kb
    clear c0 c1 c4 d0 d1 d2 d3 d4 xb kb
    have G6 : Hid (w.heap.size < W0.heap.size) := Lib.hid (by rw [HSZ.out]; omega)
    have D6 := Lib.hid (rclr_box H.out (Nat.le_refl _) B6.out.lt)
    generalize (W0.alloc (.cells #[.int .i64 t0.kind, .string t0.s, .int .i64 t0.n, .int .i64 t0.at_, .bool t0.lay] 55)).drew = WB at *
    generalize W0.heap.size = g6 at *
    rw [HK.out] at B6
    have HB := Lib.hid (H.out.ext X1.out)
    have SB := Lib.hid (PStep.ext (S := f.S) (nv := nv) (HX.out.trans X1.out))
    have ZB := Lib.hid (HZ.out.ext X1.out)
    have CB := Lib.hid ((PStep.ext (S := f.S) (nv := nv) X1.out).clr CZ.out)
    have k6 := B6.out.cell
    clear H HZ CZ
    have s1 := HB.out.setB true
    have c4 := HB.out.cells.c4
    have f4 := HB.out.blk.frozen 4
    have H5 := Lib.hid s1.1
    have S5 := Lib.hid (SB.out.trans s1.2)
    have Z5 := Lib.hid (ZB.out.mods s1.2.mods CB.out.no)
    clear s1
    go_upto_region 6 with fail
    generalize WB.setCell ⟨f.pb, 4, none⟩ (.bool true) = W5 at *
    have zc := Z5.out.cell
    have zf := Z5.out.frozen
    clear c4 f4
    go_wp2_with fail
    have kb := blk_set4 Z5.out (.int .i64 0) (.int .i64 0) (.string ⟨#[]⟩) (.slice none 0 0)
    have kc := kb.cell
    have h7 := H5.out.set4 HO.out (Nat.le_refl _) Z5.out (.int .i64 0) (.int .i64 0) (.string ⟨#[]⟩) (.slice none 0 0)
    have s7 := pstep_set4 S5.out (Nat.le_refl _) (.int .i64 0) (.int .i64 0) (.string ⟨#[]⟩) (.slice none 0 0)
    refine bodyPost_ret (v := .tuple #[.agg #[.int .i64 0, .int .i64 0, .string ⟨#[]⟩, .slice none 0 0], .int .i64 0]) ?_ rfl ⟨(.mk 0 0 ⟨#[]⟩ []), 0, none, 0, nv, r, ns, true, rfl, ?_, h7, s7, TmsIn.term (TmsIn.nil _ _ _ _) 0 0 ⟨#[]⟩, Nat.le_refl _⟩
    · simp [results, Tryz.results72, go_sem, kc]
    · exact ⟨rfl, rfl⟩

set_option maxRecDepth 100000 in
set_option maxHeartbeats 4000000 in
theorem raOper_odd41 {f : RF} {N : Nat} (most : Int) {r : List TokV} (_ : r.length ≤ N + 1) {w : World} {nv : Value} {ns : List ByteArray} (h : RaAt f w r nv ns false) {n : Nat} (hn : 5 * r.length + 3 ≤ n) {t0 : TokV} {q : List TokV} (e : r = t0 :: q) (hk : t0.kind = 5) (hs : t0.s = ⟨#[41]⟩) :
    Calls Tryz.prog 72 #[.pointer (some ⟨f.pb, 0, none⟩), .int .i64 most] w (ROPost f w nv r (operN f.O n most r ns)) := by
  obtain ⟨m, rfl⟩ : ∃ m, n = m + 1 := ⟨n - 1, by omega⟩
  have hop : operN f.O (m + 1) most r ns = .bad r := by
    obtain ⟨j, rfl⟩ : ∃ j, m = j + 1 := ⟨m - 1, by omega⟩
    rw [e]
    simp [operN, bracN, hk, hs]
  rw [hop]
  have hx := ext_box4 w (.cells #[.int .i64 0, .int .i64 0, .string ⟨#[]⟩, .slice none 0 0] 32)
  have HO := Lib.hid h.old
  have HX := Lib.hid hx
  have H := Lib.hid (h.ext hx)
  have HZ := Lib.hid (Blk.new w 32 #[.int .i64 0, .int .i64 0, .string ⟨#[]⟩, .slice none 0 0])
  have HSZ := Lib.hid (World.size_alloc w (.cells #[.int .i64 0, .int .i64 0, .string ⟨#[]⟩, .slice none 0 0] 32))
  have CZ := Lib.hid (rclr_box h (Nat.le_refl _) HZ.out.lt)
  have hp : f.pb < w.heap.size := h.blk.lt
  obtain ⟨b, off, hA, d0, d1, d2, d3, d4⟩ := ra_here (h.ext hx) e
  have hlt := plI_lt h.suf h.nil
  have hL := h.toks.len
  have c0 := (h.ext hx).cells.c0
  have c1 := (h.ext hx).cells.c1
  have c4 := (h.ext hx).cells.c4
  rw [hA] at c0
  have hbb : b < (w.alloc (.cells #[.int .i64 0, .int .i64 0, .string ⟨#[]⟩, .slice none 0 0] 32)).heap.size := cell_lt d0
  have hpp : f.pb < (w.alloc (.cells #[.int .i64 0, .int .i64 0, .string ⟨#[]⟩, .slice none 0 0] 32)).heap.size := (h.ext hx).blk.lt
  obtain ⟨k, hkk⟩ : ∃ k, plI f.L r = k := ⟨_, rfl⟩
  have HKK := Lib.hid hkk
  rw [hkk] at c1 d0 d1 d2 d3 d4 hlt
  have hq1 : (k : Int) < (f.L.length : Int) := by omega
  have HK := Lib.hid hk
  have HE := Lib.hid e
  have HS := Lib.hid hs
  clear hs
  clear h hx hA hkk hk e
  go_enter Tryz.func72, Tryz.ntmps72
  go_upto_region 3 with fail
  generalize w.alloc (.cells #[.int .i64 0, .int .i64 0, .string ⟨#[]⟩, .slice none 0 0] 32) = W0 at *
  go_region
  all_goals
    obtain ⟨xb, kb⟩ := ra_box (W0 := W0) t0
    have X1 := Lib.hid xb
    have B6 := Lib.hid kb
    clear c0 c1 c4 d0 d1 d2 d3 d4 xb kb
    have G6 : Hid (w.heap.size < W0.heap.size) := Lib.hid (by rw [HSZ.out]; omega)
    have D6 := Lib.hid (rclr_box H.out (Nat.le_refl _) B6.out.lt)
    generalize (W0.alloc (.cells #[.int .i64 t0.kind, .string t0.s, .int .i64 t0.n, .int .i64 t0.at_, .bool t0.lay] 55)).drew = WB at *
    generalize W0.heap.size = g6 at *
    rw [HK.out, HS.out] at B6
    have HB := Lib.hid (H.out.ext X1.out)
    have SB := Lib.hid (PStep.ext (S := f.S) (nv := nv) (HX.out.trans X1.out))
    have ZB := Lib.hid (HZ.out.ext X1.out)
    have CB := Lib.hid ((PStep.ext (S := f.S) (nv := nv) X1.out).clr CZ.out)
    have k6 := B6.out.cell
    clear H HZ CZ
    have s1 := HB.out.setB true
    have c4 := HB.out.cells.c4
    have f4 := HB.out.blk.frozen 4
    have H5 := Lib.hid s1.1
    have S5 := Lib.hid (SB.out.trans s1.2)
    have Z5 := Lib.hid (ZB.out.mods s1.2.mods CB.out.no)
    clear s1
    go_upto_region 6 with fail
    generalize WB.setCell ⟨f.pb, 4, none⟩ (.bool true) = W5 at *
    have zc := Z5.out.cell
    have zf := Z5.out.frozen
    clear c4 f4
    go_wp2_with fail
    have kb := blk_set4 Z5.out (.int .i64 0) (.int .i64 0) (.string ⟨#[]⟩) (.slice none 0 0)
    have kc := kb.cell
    have h7 := H5.out.set4 HO.out (Nat.le_refl _) Z5.out (.int .i64 0) (.int .i64 0) (.string ⟨#[]⟩) (.slice none 0 0)
    have s7 := pstep_set4 S5.out (Nat.le_refl _) (.int .i64 0) (.int .i64 0) (.string ⟨#[]⟩) (.slice none 0 0)
    refine bodyPost_ret (v := .tuple #[.agg #[.int .i64 0, .int .i64 0, .string ⟨#[]⟩, .slice none 0 0], .int .i64 0]) ?_ rfl ⟨(.mk 0 0 ⟨#[]⟩ []), 0, none, 0, nv, r, ns, true, rfl, ?_, h7, s7, TmsIn.term (TmsIn.nil _ _ _ _) 0 0 ⟨#[]⟩, Nat.le_refl _⟩
    · simp [results, Tryz.results72, go_sem, kc]
    · exact ⟨rfl, rfl⟩

set_option maxRecDepth 100000 in
set_option maxHeartbeats 4000000 in
theorem raOper_odd93 {f : RF} {N : Nat} (most : Int) {r : List TokV} (_ : r.length ≤ N + 1) {w : World} {nv : Value} {ns : List ByteArray} (h : RaAt f w r nv ns false) {n : Nat} (hn : 5 * r.length + 3 ≤ n) {t0 : TokV} {q : List TokV} (e : r = t0 :: q) (hk : t0.kind = 5) (hs : t0.s = ⟨#[93]⟩) :
    Calls Tryz.prog 72 #[.pointer (some ⟨f.pb, 0, none⟩), .int .i64 most] w (ROPost f w nv r (operN f.O n most r ns)) := by
  obtain ⟨m, rfl⟩ : ∃ m, n = m + 1 := ⟨n - 1, by omega⟩
  have hop : operN f.O (m + 1) most r ns = .bad r := by
    obtain ⟨j, rfl⟩ : ∃ j, m = j + 1 := ⟨m - 1, by omega⟩
    rw [e]
    simp [operN, bracN, hk, hs]
  rw [hop]
  have hx := ext_box4 w (.cells #[.int .i64 0, .int .i64 0, .string ⟨#[]⟩, .slice none 0 0] 32)
  have HO := Lib.hid h.old
  have HX := Lib.hid hx
  have H := Lib.hid (h.ext hx)
  have HZ := Lib.hid (Blk.new w 32 #[.int .i64 0, .int .i64 0, .string ⟨#[]⟩, .slice none 0 0])
  have HSZ := Lib.hid (World.size_alloc w (.cells #[.int .i64 0, .int .i64 0, .string ⟨#[]⟩, .slice none 0 0] 32))
  have CZ := Lib.hid (rclr_box h (Nat.le_refl _) HZ.out.lt)
  have hp : f.pb < w.heap.size := h.blk.lt
  obtain ⟨b, off, hA, d0, d1, d2, d3, d4⟩ := ra_here (h.ext hx) e
  have hlt := plI_lt h.suf h.nil
  have hL := h.toks.len
  have c0 := (h.ext hx).cells.c0
  have c1 := (h.ext hx).cells.c1
  have c4 := (h.ext hx).cells.c4
  rw [hA] at c0
  have hbb : b < (w.alloc (.cells #[.int .i64 0, .int .i64 0, .string ⟨#[]⟩, .slice none 0 0] 32)).heap.size := cell_lt d0
  have hpp : f.pb < (w.alloc (.cells #[.int .i64 0, .int .i64 0, .string ⟨#[]⟩, .slice none 0 0] 32)).heap.size := (h.ext hx).blk.lt
  obtain ⟨k, hkk⟩ : ∃ k, plI f.L r = k := ⟨_, rfl⟩
  have HKK := Lib.hid hkk
  rw [hkk] at c1 d0 d1 d2 d3 d4 hlt
  have hq1 : (k : Int) < (f.L.length : Int) := by omega
  have HK := Lib.hid hk
  have HE := Lib.hid e
  have HS := Lib.hid hs
  clear hs
  clear h hx hA hkk hk e
  go_enter Tryz.func72, Tryz.ntmps72
  go_upto_region 3 with fail
  generalize w.alloc (.cells #[.int .i64 0, .int .i64 0, .string ⟨#[]⟩, .slice none 0 0] 32) = W0 at *
  go_region
  all_goals
    obtain ⟨xb, kb⟩ := ra_box (W0 := W0) t0
    have X1 := Lib.hid xb
    have B6 := Lib.hid kb
    clear c0 c1 c4 d0 d1 d2 d3 d4 xb kb
    have G6 : Hid (w.heap.size < W0.heap.size) := Lib.hid (by rw [HSZ.out]; omega)
    have D6 := Lib.hid (rclr_box H.out (Nat.le_refl _) B6.out.lt)
    generalize (W0.alloc (.cells #[.int .i64 t0.kind, .string t0.s, .int .i64 t0.n, .int .i64 t0.at_, .bool t0.lay] 55)).drew = WB at *
    generalize W0.heap.size = g6 at *
    rw [HK.out, HS.out] at B6
    have HB := Lib.hid (H.out.ext X1.out)
    have SB := Lib.hid (PStep.ext (S := f.S) (nv := nv) (HX.out.trans X1.out))
    have ZB := Lib.hid (HZ.out.ext X1.out)
    have CB := Lib.hid ((PStep.ext (S := f.S) (nv := nv) X1.out).clr CZ.out)
    have k6 := B6.out.cell
    clear H HZ CZ
    have s1 := HB.out.setB true
    have c4 := HB.out.cells.c4
    have f4 := HB.out.blk.frozen 4
    have H5 := Lib.hid s1.1
    have S5 := Lib.hid (SB.out.trans s1.2)
    have Z5 := Lib.hid (ZB.out.mods s1.2.mods CB.out.no)
    clear s1
    go_upto_region 6 with fail
    generalize WB.setCell ⟨f.pb, 4, none⟩ (.bool true) = W5 at *
    have zc := Z5.out.cell
    have zf := Z5.out.frozen
    clear c4 f4
    go_wp2_with fail
    have kb := blk_set4 Z5.out (.int .i64 0) (.int .i64 0) (.string ⟨#[]⟩) (.slice none 0 0)
    have kc := kb.cell
    have h7 := H5.out.set4 HO.out (Nat.le_refl _) Z5.out (.int .i64 0) (.int .i64 0) (.string ⟨#[]⟩) (.slice none 0 0)
    have s7 := pstep_set4 S5.out (Nat.le_refl _) (.int .i64 0) (.int .i64 0) (.string ⟨#[]⟩) (.slice none 0 0)
    refine bodyPost_ret (v := .tuple #[.agg #[.int .i64 0, .int .i64 0, .string ⟨#[]⟩, .slice none 0 0], .int .i64 0]) ?_ rfl ⟨(.mk 0 0 ⟨#[]⟩ []), 0, none, 0, nv, r, ns, true, rfl, ?_, h7, s7, TmsIn.term (TmsIn.nil _ _ _ _) 0 0 ⟨#[]⟩, Nat.le_refl _⟩
    · simp [results, Tryz.results72, go_sem, kc]
    · exact ⟨rfl, rfl⟩

set_option maxRecDepth 100000 in
set_option maxHeartbeats 4000000 in
theorem raOper_odd125 {f : RF} {N : Nat} (most : Int) {r : List TokV} (_ : r.length ≤ N + 1) {w : World} {nv : Value} {ns : List ByteArray} (h : RaAt f w r nv ns false) {n : Nat} (hn : 5 * r.length + 3 ≤ n) {t0 : TokV} {q : List TokV} (e : r = t0 :: q) (hk : t0.kind = 5) (hs : t0.s = ⟨#[125]⟩) :
    Calls Tryz.prog 72 #[.pointer (some ⟨f.pb, 0, none⟩), .int .i64 most] w (ROPost f w nv r (operN f.O n most r ns)) := by
  obtain ⟨m, rfl⟩ : ∃ m, n = m + 1 := ⟨n - 1, by omega⟩
  have hop : operN f.O (m + 1) most r ns = .bad r := by
    obtain ⟨j, rfl⟩ : ∃ j, m = j + 1 := ⟨m - 1, by omega⟩
    rw [e]
    simp [operN, bracN, hk, hs]
  rw [hop]
  have hx := ext_box4 w (.cells #[.int .i64 0, .int .i64 0, .string ⟨#[]⟩, .slice none 0 0] 32)
  have HO := Lib.hid h.old
  have HX := Lib.hid hx
  have H := Lib.hid (h.ext hx)
  have HZ := Lib.hid (Blk.new w 32 #[.int .i64 0, .int .i64 0, .string ⟨#[]⟩, .slice none 0 0])
  have HSZ := Lib.hid (World.size_alloc w (.cells #[.int .i64 0, .int .i64 0, .string ⟨#[]⟩, .slice none 0 0] 32))
  have CZ := Lib.hid (rclr_box h (Nat.le_refl _) HZ.out.lt)
  have hp : f.pb < w.heap.size := h.blk.lt
  obtain ⟨b, off, hA, d0, d1, d2, d3, d4⟩ := ra_here (h.ext hx) e
  have hlt := plI_lt h.suf h.nil
  have hL := h.toks.len
  have c0 := (h.ext hx).cells.c0
  have c1 := (h.ext hx).cells.c1
  have c4 := (h.ext hx).cells.c4
  rw [hA] at c0
  have hbb : b < (w.alloc (.cells #[.int .i64 0, .int .i64 0, .string ⟨#[]⟩, .slice none 0 0] 32)).heap.size := cell_lt d0
  have hpp : f.pb < (w.alloc (.cells #[.int .i64 0, .int .i64 0, .string ⟨#[]⟩, .slice none 0 0] 32)).heap.size := (h.ext hx).blk.lt
  obtain ⟨k, hkk⟩ : ∃ k, plI f.L r = k := ⟨_, rfl⟩
  have HKK := Lib.hid hkk
  rw [hkk] at c1 d0 d1 d2 d3 d4 hlt
  have hq1 : (k : Int) < (f.L.length : Int) := by omega
  have HK := Lib.hid hk
  have HE := Lib.hid e
  have HS := Lib.hid hs
  clear hs
  clear h hx hA hkk hk e
  go_enter Tryz.func72, Tryz.ntmps72
  go_upto_region 3 with fail
  generalize w.alloc (.cells #[.int .i64 0, .int .i64 0, .string ⟨#[]⟩, .slice none 0 0] 32) = W0 at *
  go_region
  all_goals
    obtain ⟨xb, kb⟩ := ra_box (W0 := W0) t0
    have X1 := Lib.hid xb
    have B6 := Lib.hid kb
    clear c0 c1 c4 d0 d1 d2 d3 d4 xb kb
    have G6 : Hid (w.heap.size < W0.heap.size) := Lib.hid (by rw [HSZ.out]; omega)
    have D6 := Lib.hid (rclr_box H.out (Nat.le_refl _) B6.out.lt)
    generalize (W0.alloc (.cells #[.int .i64 t0.kind, .string t0.s, .int .i64 t0.n, .int .i64 t0.at_, .bool t0.lay] 55)).drew = WB at *
    generalize W0.heap.size = g6 at *
    rw [HK.out, HS.out] at B6
    have HB := Lib.hid (H.out.ext X1.out)
    have SB := Lib.hid (PStep.ext (S := f.S) (nv := nv) (HX.out.trans X1.out))
    have ZB := Lib.hid (HZ.out.ext X1.out)
    have CB := Lib.hid ((PStep.ext (S := f.S) (nv := nv) X1.out).clr CZ.out)
    have k6 := B6.out.cell
    clear H HZ CZ
    have s1 := HB.out.setB true
    have c4 := HB.out.cells.c4
    have f4 := HB.out.blk.frozen 4
    have H5 := Lib.hid s1.1
    have S5 := Lib.hid (SB.out.trans s1.2)
    have Z5 := Lib.hid (ZB.out.mods s1.2.mods CB.out.no)
    clear s1
    go_upto_region 6 with fail
    generalize WB.setCell ⟨f.pb, 4, none⟩ (.bool true) = W5 at *
    have zc := Z5.out.cell
    have zf := Z5.out.frozen
    clear c4 f4
    go_wp2_with fail
    have kb := blk_set4 Z5.out (.int .i64 0) (.int .i64 0) (.string ⟨#[]⟩) (.slice none 0 0)
    have kc := kb.cell
    have h7 := H5.out.set4 HO.out (Nat.le_refl _) Z5.out (.int .i64 0) (.int .i64 0) (.string ⟨#[]⟩) (.slice none 0 0)
    have s7 := pstep_set4 S5.out (Nat.le_refl _) (.int .i64 0) (.int .i64 0) (.string ⟨#[]⟩) (.slice none 0 0)
    refine bodyPost_ret (v := .tuple #[.agg #[.int .i64 0, .int .i64 0, .string ⟨#[]⟩, .slice none 0 0], .int .i64 0]) ?_ rfl ⟨(.mk 0 0 ⟨#[]⟩ []), 0, none, 0, nv, r, ns, true, rfl, ?_, h7, s7, TmsIn.term (TmsIn.nil _ _ _ _) 0 0 ⟨#[]⟩, Nat.le_refl _⟩
    · simp [results, Tryz.results72, go_sem, kc]
    · exact ⟨rfl, rfl⟩

set_option maxRecDepth 100000 in
set_option maxHeartbeats 4000000 in
theorem raOper_odd44 {f : RF} {N : Nat} (most : Int) {r : List TokV} (_ : r.length ≤ N + 1) {w : World} {nv : Value} {ns : List ByteArray} (h : RaAt f w r nv ns false) {n : Nat} (hn : 5 * r.length + 3 ≤ n) {t0 : TokV} {q : List TokV} (e : r = t0 :: q) (hk : t0.kind = 5) (hs : t0.s = ⟨#[44]⟩) :
    Calls Tryz.prog 72 #[.pointer (some ⟨f.pb, 0, none⟩), .int .i64 most] w (ROPost f w nv r (operN f.O n most r ns)) := by
  obtain ⟨m, rfl⟩ : ∃ m, n = m + 1 := ⟨n - 1, by omega⟩
  have hop : operN f.O (m + 1) most r ns = .bad r := by
    obtain ⟨j, rfl⟩ : ∃ j, m = j + 1 := ⟨m - 1, by omega⟩
    rw [e]
    simp [operN, bracN, hk, hs]
  rw [hop]
  have hx := ext_box4 w (.cells #[.int .i64 0, .int .i64 0, .string ⟨#[]⟩, .slice none 0 0] 32)
  have HO := Lib.hid h.old
  have HX := Lib.hid hx
  have H := Lib.hid (h.ext hx)
  have HZ := Lib.hid (Blk.new w 32 #[.int .i64 0, .int .i64 0, .string ⟨#[]⟩, .slice none 0 0])
  have HSZ := Lib.hid (World.size_alloc w (.cells #[.int .i64 0, .int .i64 0, .string ⟨#[]⟩, .slice none 0 0] 32))
  have CZ := Lib.hid (rclr_box h (Nat.le_refl _) HZ.out.lt)
  have hp : f.pb < w.heap.size := h.blk.lt
  obtain ⟨b, off, hA, d0, d1, d2, d3, d4⟩ := ra_here (h.ext hx) e
  have hlt := plI_lt h.suf h.nil
  have hL := h.toks.len
  have c0 := (h.ext hx).cells.c0
  have c1 := (h.ext hx).cells.c1
  have c4 := (h.ext hx).cells.c4
  rw [hA] at c0
  have hbb : b < (w.alloc (.cells #[.int .i64 0, .int .i64 0, .string ⟨#[]⟩, .slice none 0 0] 32)).heap.size := cell_lt d0
  have hpp : f.pb < (w.alloc (.cells #[.int .i64 0, .int .i64 0, .string ⟨#[]⟩, .slice none 0 0] 32)).heap.size := (h.ext hx).blk.lt
  obtain ⟨k, hkk⟩ : ∃ k, plI f.L r = k := ⟨_, rfl⟩
  have HKK := Lib.hid hkk
  rw [hkk] at c1 d0 d1 d2 d3 d4 hlt
  have hq1 : (k : Int) < (f.L.length : Int) := by omega
  have HK := Lib.hid hk
  have HE := Lib.hid e
  have HS := Lib.hid hs
  clear hs
  clear h hx hA hkk hk e
  go_enter Tryz.func72, Tryz.ntmps72
  go_upto_region 3 with fail
  generalize w.alloc (.cells #[.int .i64 0, .int .i64 0, .string ⟨#[]⟩, .slice none 0 0] 32) = W0 at *
  go_region
  all_goals
    obtain ⟨xb, kb⟩ := ra_box (W0 := W0) t0
    have X1 := Lib.hid xb
    have B6 := Lib.hid kb
    clear c0 c1 c4 d0 d1 d2 d3 d4 xb kb
    have G6 : Hid (w.heap.size < W0.heap.size) := Lib.hid (by rw [HSZ.out]; omega)
    have D6 := Lib.hid (rclr_box H.out (Nat.le_refl _) B6.out.lt)
    generalize (W0.alloc (.cells #[.int .i64 t0.kind, .string t0.s, .int .i64 t0.n, .int .i64 t0.at_, .bool t0.lay] 55)).drew = WB at *
    generalize W0.heap.size = g6 at *
    rw [HK.out, HS.out] at B6
    have HB := Lib.hid (H.out.ext X1.out)
    have SB := Lib.hid (PStep.ext (S := f.S) (nv := nv) (HX.out.trans X1.out))
    have ZB := Lib.hid (HZ.out.ext X1.out)
    have CB := Lib.hid ((PStep.ext (S := f.S) (nv := nv) X1.out).clr CZ.out)
    have k6 := B6.out.cell
    clear H HZ CZ
    have s1 := HB.out.setB true
    have c4 := HB.out.cells.c4
    have f4 := HB.out.blk.frozen 4
    have H5 := Lib.hid s1.1
    have S5 := Lib.hid (SB.out.trans s1.2)
    have Z5 := Lib.hid (ZB.out.mods s1.2.mods CB.out.no)
    clear s1
    go_upto_region 6 with fail
    generalize WB.setCell ⟨f.pb, 4, none⟩ (.bool true) = W5 at *
    have zc := Z5.out.cell
    have zf := Z5.out.frozen
    clear c4 f4
    go_wp2_with fail
    have kb := blk_set4 Z5.out (.int .i64 0) (.int .i64 0) (.string ⟨#[]⟩) (.slice none 0 0)
    have kc := kb.cell
    have h7 := H5.out.set4 HO.out (Nat.le_refl _) Z5.out (.int .i64 0) (.int .i64 0) (.string ⟨#[]⟩) (.slice none 0 0)
    have s7 := pstep_set4 S5.out (Nat.le_refl _) (.int .i64 0) (.int .i64 0) (.string ⟨#[]⟩) (.slice none 0 0)
    refine bodyPost_ret (v := .tuple #[.agg #[.int .i64 0, .int .i64 0, .string ⟨#[]⟩, .slice none 0 0], .int .i64 0]) ?_ rfl ⟨(.mk 0 0 ⟨#[]⟩ []), 0, none, 0, nv, r, ns, true, rfl, ?_, h7, s7, TmsIn.term (TmsIn.nil _ _ _ _) 0 0 ⟨#[]⟩, Nat.le_refl _⟩
    · simp [results, Tryz.results72, go_sem, kc]
    · exact ⟨rfl, rfl⟩

set_option maxRecDepth 100000 in
set_option maxHeartbeats 4000000 in
theorem raOper_odd124 {f : RF} {N : Nat} (most : Int) {r : List TokV} (_ : r.length ≤ N + 1) {w : World} {nv : Value} {ns : List ByteArray} (h : RaAt f w r nv ns false) {n : Nat} (hn : 5 * r.length + 3 ≤ n) {t0 : TokV} {q : List TokV} (e : r = t0 :: q) (hk : t0.kind = 5) (hs : t0.s = ⟨#[124]⟩) :
    Calls Tryz.prog 72 #[.pointer (some ⟨f.pb, 0, none⟩), .int .i64 most] w (ROPost f w nv r (operN f.O n most r ns)) := by
  obtain ⟨m, rfl⟩ : ∃ m, n = m + 1 := ⟨n - 1, by omega⟩
  have hop : operN f.O (m + 1) most r ns = .bad r := by
    obtain ⟨j, rfl⟩ : ∃ j, m = j + 1 := ⟨m - 1, by omega⟩
    rw [e]
    simp [operN, bracN, hk, hs]
  rw [hop]
  have hx := ext_box4 w (.cells #[.int .i64 0, .int .i64 0, .string ⟨#[]⟩, .slice none 0 0] 32)
  have HO := Lib.hid h.old
  have HX := Lib.hid hx
  have H := Lib.hid (h.ext hx)
  have HZ := Lib.hid (Blk.new w 32 #[.int .i64 0, .int .i64 0, .string ⟨#[]⟩, .slice none 0 0])
  have HSZ := Lib.hid (World.size_alloc w (.cells #[.int .i64 0, .int .i64 0, .string ⟨#[]⟩, .slice none 0 0] 32))
  have CZ := Lib.hid (rclr_box h (Nat.le_refl _) HZ.out.lt)
  have hp : f.pb < w.heap.size := h.blk.lt
  obtain ⟨b, off, hA, d0, d1, d2, d3, d4⟩ := ra_here (h.ext hx) e
  have hlt := plI_lt h.suf h.nil
  have hL := h.toks.len
  have c0 := (h.ext hx).cells.c0
  have c1 := (h.ext hx).cells.c1
  have c4 := (h.ext hx).cells.c4
  rw [hA] at c0
  have hbb : b < (w.alloc (.cells #[.int .i64 0, .int .i64 0, .string ⟨#[]⟩, .slice none 0 0] 32)).heap.size := cell_lt d0
  have hpp : f.pb < (w.alloc (.cells #[.int .i64 0, .int .i64 0, .string ⟨#[]⟩, .slice none 0 0] 32)).heap.size := (h.ext hx).blk.lt
  obtain ⟨k, hkk⟩ : ∃ k, plI f.L r = k := ⟨_, rfl⟩
  have HKK := Lib.hid hkk
  rw [hkk] at c1 d0 d1 d2 d3 d4 hlt
  have hq1 : (k : Int) < (f.L.length : Int) := by omega
  have HK := Lib.hid hk
  have HE := Lib.hid e
  have HS := Lib.hid hs
  clear hs
  clear h hx hA hkk hk e
  go_enter Tryz.func72, Tryz.ntmps72
  go_upto_region 3 with fail
  generalize w.alloc (.cells #[.int .i64 0, .int .i64 0, .string ⟨#[]⟩, .slice none 0 0] 32) = W0 at *
  go_region
  all_goals
    obtain ⟨xb, kb⟩ := ra_box (W0 := W0) t0
    have X1 := Lib.hid xb
    have B6 := Lib.hid kb
    clear c0 c1 c4 d0 d1 d2 d3 d4 xb kb
    have G6 : Hid (w.heap.size < W0.heap.size) := Lib.hid (by rw [HSZ.out]; omega)
    have D6 := Lib.hid (rclr_box H.out (Nat.le_refl _) B6.out.lt)
    generalize (W0.alloc (.cells #[.int .i64 t0.kind, .string t0.s, .int .i64 t0.n, .int .i64 t0.at_, .bool t0.lay] 55)).drew = WB at *
    generalize W0.heap.size = g6 at *
    rw [HK.out, HS.out] at B6
    have HB := Lib.hid (H.out.ext X1.out)
    have SB := Lib.hid (PStep.ext (S := f.S) (nv := nv) (HX.out.trans X1.out))
    have ZB := Lib.hid (HZ.out.ext X1.out)
    have CB := Lib.hid ((PStep.ext (S := f.S) (nv := nv) X1.out).clr CZ.out)
    have k6 := B6.out.cell
    clear H HZ CZ
    have s1 := HB.out.setB true
    have c4 := HB.out.cells.c4
    have f4 := HB.out.blk.frozen 4
    have H5 := Lib.hid s1.1
    have S5 := Lib.hid (SB.out.trans s1.2)
    have Z5 := Lib.hid (ZB.out.mods s1.2.mods CB.out.no)
    clear s1
    go_upto_region 6 with fail
    generalize WB.setCell ⟨f.pb, 4, none⟩ (.bool true) = W5 at *
    have zc := Z5.out.cell
    have zf := Z5.out.frozen
    clear c4 f4
    go_wp2_with fail
    have kb := blk_set4 Z5.out (.int .i64 0) (.int .i64 0) (.string ⟨#[]⟩) (.slice none 0 0)
    have kc := kb.cell
    have h7 := H5.out.set4 HO.out (Nat.le_refl _) Z5.out (.int .i64 0) (.int .i64 0) (.string ⟨#[]⟩) (.slice none 0 0)
    have s7 := pstep_set4 S5.out (Nat.le_refl _) (.int .i64 0) (.int .i64 0) (.string ⟨#[]⟩) (.slice none 0 0)
    refine bodyPost_ret (v := .tuple #[.agg #[.int .i64 0, .int .i64 0, .string ⟨#[]⟩, .slice none 0 0], .int .i64 0]) ?_ rfl ⟨(.mk 0 0 ⟨#[]⟩ []), 0, none, 0, nv, r, ns, true, rfl, ?_, h7, s7, TmsIn.term (TmsIn.nil _ _ _ _) 0 0 ⟨#[]⟩, Nat.le_refl _⟩
    · simp [results, Tryz.results72, go_sem, kc]
    · exact ⟨rfl, rfl⟩

set_option maxRecDepth 100000 in
set_option maxHeartbeats 4000000 in
theorem raOper_int {f : RF} {N : Nat} (most : Int) {r : List TokV} (hN : r.length ≤ N + 1) {w : World} {nv : Value} {ns : List ByteArray} (h : RaAt f w r nv ns false) {n : Nat} (hn : 5 * r.length + 3 ≤ n) {t0 : TokV} {q : List TokV} (e : r = t0 :: q) (hk : t0.kind = 4) :
    Calls Tryz.prog 72 #[.pointer (some ⟨f.pb, 0, none⟩), .int .i64 most] w (ROPost f w nv r (operN f.O n most r ns)) := by
  obtain ⟨m, rfl⟩ : ∃ m, n = m + 1 := ⟨n - 1, by omega⟩
  have hop : operN f.O (m + 1) most r ns = .ok (intT t0.n, 0) q ns := by rw [e]; simp [operN, hk]
  rw [hop]
  have HI := fun n W => Lib.hid (refInt_any n W)
  obtain ⟨u, qq, hq⟩ := h.toks.more h.suf e (by rw [hk]; decide)
  have t1 := suf_tail h.suf e
  have t3 := plI_tail h.suf e
  have hqn : q ≠ [] := by rw [hq]; simp
  have HL : Hid (ns.length + q.length ≤ f.L.length) := Lib.hid (by have := h.nl; rw [e] at this; simp at this; omega)
  have HQL : Hid (q.length + 1 = r.length) := Lib.hid (by rw [e]; simp)
  have HL2 := Lib.hid h.nl
  have HT3 := Lib.hid t3
  have HNN := Lib.hid hN
  have HM := Lib.hid hn
  clear t3 hq hN hn
  have hx := ext_box4 w (.cells #[.int .i64 0, .int .i64 0, .string ⟨#[]⟩, .slice none 0 0] 32)
  have HO := Lib.hid h.old
  have HX := Lib.hid hx
  have H := Lib.hid (h.ext hx)
  have HZ := Lib.hid (Blk.new w 32 #[.int .i64 0, .int .i64 0, .string ⟨#[]⟩, .slice none 0 0])
  have HSZ := Lib.hid (World.size_alloc w (.cells #[.int .i64 0, .int .i64 0, .string ⟨#[]⟩, .slice none 0 0] 32))
  have CZ := Lib.hid (rclr_box h (Nat.le_refl _) HZ.out.lt)
  have hp : f.pb < w.heap.size := h.blk.lt
  obtain ⟨b, off, hA, d0, d1, d2, d3, d4⟩ := ra_here (h.ext hx) e
  have hlt := plI_lt h.suf h.nil
  have hL := h.toks.len
  have c0 := (h.ext hx).cells.c0
  have c1 := (h.ext hx).cells.c1
  have c4 := (h.ext hx).cells.c4
  rw [hA] at c0
  have hbb : b < (w.alloc (.cells #[.int .i64 0, .int .i64 0, .string ⟨#[]⟩, .slice none 0 0] 32)).heap.size := cell_lt d0
  have hpp : f.pb < (w.alloc (.cells #[.int .i64 0, .int .i64 0, .string ⟨#[]⟩, .slice none 0 0] 32)).heap.size := (h.ext hx).blk.lt
  obtain ⟨k, hkk⟩ : ∃ k, plI f.L r = k := ⟨_, rfl⟩
  have HKK := Lib.hid hkk
  rw [hkk] at c1 d0 d1 d2 d3 d4 hlt
  have hq1 : (k : Int) < (f.L.length : Int) := by omega
  have HK := Lib.hid hk
  have HE := Lib.hid e
  clear h hx hA hkk hk e
  go_enter Tryz.func72, Tryz.ntmps72
  go_upto_region 3 with fail
  generalize w.alloc (.cells #[.int .i64 0, .int .i64 0, .string ⟨#[]⟩, .slice none 0 0] 32) = W0 at *
  go_region
  all_goals
    obtain ⟨xb, kb⟩ := ra_box (W0 := W0) t0
    have X1 := Lib.hid xb
    have B6 := Lib.hid kb
    clear c0 c1 c4 d0 d1 d2 d3 d4 xb kb
    have G6 : Hid (w.heap.size < W0.heap.size) := Lib.hid (by rw [HSZ.out]; omega)
    have D6 := Lib.hid (rclr_box H.out (Nat.le_refl _) B6.out.lt)
    generalize (W0.alloc (.cells #[.int .i64 t0.kind, .string t0.s, .int .i64 t0.n, .int .i64 t0.at_, .bool t0.lay] 55)).drew = WB at *
    generalize W0.heap.size = g6 at *
    rw [HK.out] at B6
    have HB := Lib.hid (H.out.ext X1.out)
    have SB := Lib.hid (PStep.ext (S := f.S) (nv := nv) (HX.out.trans X1.out))
    have ZB := Lib.hid (HZ.out.ext X1.out)
    have CB := Lib.hid ((PStep.ext (S := f.S) (nv := nv) X1.out).clr CZ.out)
    have k6 := B6.out.cell
    clear H HZ CZ
    have s1 := HB.out.setI t1 hqn HL.out ((plI f.L r : Int) + 1) (by rw [HT3.out]; omega)
    rw [HKK.out] at s1
    have c1 := HB.out.cells.c1
    rw [HKK.out] at c1
    have f1 := HB.out.blk.frozen 1
    have H6 := Lib.hid s1.1
    have S6 := Lib.hid (SB.out.trans s1.2)
    have Z6 := Lib.hid (ZB.out.mods s1.2.mods CB.out.no)
    have B66 := Lib.hid (B6.out.mods s1.2.mods D6.out.no)
    have C6 := Lib.hid (s1.2.clr CB.out)
    have D66 := Lib.hid (s1.2.clr D6.out)
    clear s1
    go_upto_region 8 with fail
    generalize WB.setCell ⟨f.pb, 1, none⟩ (.int .i64 ((k : Int) + 1)) = W6 at *
    clear c1 f1 k6 HB SB ZB CB B6 D6
    have HB := H6
    have SB := S6
    have ZB := Z6
    have CB := C6
    have B6 := B66
    have D6 := D66
    have GB : Hid (w.heap.size < W6.heap.size) := Lib.hid Z6.out.lt
    have k6 := B6.out.cell
    clear H6 S6 Z6 C6 B66 D66
    go_wp2_with (go_at_call 35; refine (HI _ _).out.mono ?_; rintro e W5 ⟨rfl, x5⟩; have X5 := Lib.hid x5; have H5 := Lib.hid (HB.out.ext x5); have S5 := Lib.hid (SB.out.trans (PStep.ext x5)); have Z5 := Lib.hid (ZB.out.ext x5); have zc := (ZB.out.ext x5).cell; have zf := (ZB.out.ext x5).frozen; clear x5)
    have kb := blk_set4 Z5.out (.int .i64 2) (.int .i64 t0.n) (.string ⟨#[]⟩) (.slice none 0 0)
    have kc := kb.cell
    have h7 := H5.out.set4 HO.out (Nat.le_refl _) Z5.out (.int .i64 2) (.int .i64 t0.n) (.string ⟨#[]⟩) (.slice none 0 0)
    have s7 := pstep_set4 S5.out (Nat.le_refl _) (.int .i64 2) (.int .i64 t0.n) (.string ⟨#[]⟩) (.slice none 0 0)
    refine bodyPost_ret (v := .tuple #[.agg #[.int .i64 2, .int .i64 t0.n, .string ⟨#[]⟩, .slice none 0 0], .int .i64 0]) ?_ rfl ⟨(intT t0.n), 0, none, 0, nv, q, ns, false, rfl, ?_, h7, s7, TmsIn.term (TmsIn.nil _ _ _ _) 2 t0.n ⟨#[]⟩, by have := HQL.out; omega⟩
    · simp [results, Tryz.results72, go_sem, kc]
    · exact ⟨rfl, rfl, rfl, rfl⟩

set_option maxRecDepth 100000 in
set_option maxHeartbeats 4000000 in
theorem raOper_var {f : RF} {N : Nat} (most : Int) {r : List TokV} (hN : r.length ≤ N + 1) {w : World} {nv : Value} {ns : List ByteArray} (h : RaAt f w r nv ns false) {n : Nat} (hn : 5 * r.length + 3 ≤ n) {t0 : TokV} {q : List TokV} (e : r = t0 :: q) (hk : t0.kind = 3) :
    Calls Tryz.prog 72 #[.pointer (some ⟨f.pb, 0, none⟩), .int .i64 most] w (ROPost f w nv r (operN f.O n most r ns)) := by
  obtain ⟨m, rfl⟩ : ∃ m, n = m + 1 := ⟨n - 1, by omega⟩
  have hop : operN f.O (m + 1) most r ns = .ok (varT t0.s ns, 0) q (varN t0.s ns) := by rw [e]; simp [operN, hk]
  rw [hop]
  obtain ⟨u, qq, hq⟩ := h.toks.more h.suf e (by rw [hk]; decide)
  have t1 := suf_tail h.suf e
  have t3 := plI_tail h.suf e
  have hqn : q ≠ [] := by rw [hq]; simp
  have HL : Hid (ns.length + q.length ≤ f.L.length) := Lib.hid (by have := h.nl; rw [e] at this; simp at this; omega)
  have HQL : Hid (q.length + 1 = r.length) := Lib.hid (by rw [e]; simp)
  have HL2 := Lib.hid h.nl
  have HT3 := Lib.hid t3
  have HNN := Lib.hid hN
  have HM := Lib.hid hn
  clear t3 hq hN hn
  have hx := ext_box4 w (.cells #[.int .i64 0, .int .i64 0, .string ⟨#[]⟩, .slice none 0 0] 32)
  have HO := Lib.hid h.old
  have HX := Lib.hid hx
  have H := Lib.hid (h.ext hx)
  have HZ := Lib.hid (Blk.new w 32 #[.int .i64 0, .int .i64 0, .string ⟨#[]⟩, .slice none 0 0])
  have HSZ := Lib.hid (World.size_alloc w (.cells #[.int .i64 0, .int .i64 0, .string ⟨#[]⟩, .slice none 0 0] 32))
  have CZ := Lib.hid (rclr_box h (Nat.le_refl _) HZ.out.lt)
  have hp : f.pb < w.heap.size := h.blk.lt
  obtain ⟨b, off, hA, d0, d1, d2, d3, d4⟩ := ra_here (h.ext hx) e
  have hlt := plI_lt h.suf h.nil
  have hL := h.toks.len
  have c0 := (h.ext hx).cells.c0
  have c1 := (h.ext hx).cells.c1
  have c4 := (h.ext hx).cells.c4
  rw [hA] at c0
  have hbb : b < (w.alloc (.cells #[.int .i64 0, .int .i64 0, .string ⟨#[]⟩, .slice none 0 0] 32)).heap.size := cell_lt d0
  have hpp : f.pb < (w.alloc (.cells #[.int .i64 0, .int .i64 0, .string ⟨#[]⟩, .slice none 0 0] 32)).heap.size := (h.ext hx).blk.lt
  obtain ⟨k, hkk⟩ : ∃ k, plI f.L r = k := ⟨_, rfl⟩
  have HKK := Lib.hid hkk
  rw [hkk] at c1 d0 d1 d2 d3 d4 hlt
  have hq1 : (k : Int) < (f.L.length : Int) := by omega
  have HK := Lib.hid hk
  have HE := Lib.hid e
  clear h hx hA hkk hk e
  go_enter Tryz.func72, Tryz.ntmps72
  go_upto_region 3 with fail
  generalize w.alloc (.cells #[.int .i64 0, .int .i64 0, .string ⟨#[]⟩, .slice none 0 0] 32) = W0 at *
  go_region
  all_goals
    obtain ⟨xb, kb⟩ := ra_box (W0 := W0) t0
    have X1 := Lib.hid xb
    have B6 := Lib.hid kb
    clear c0 c1 c4 d0 d1 d2 d3 d4 xb kb
    have G6 : Hid (w.heap.size < W0.heap.size) := Lib.hid (by rw [HSZ.out]; omega)
    have D6 := Lib.hid (rclr_box H.out (Nat.le_refl _) B6.out.lt)
    generalize (W0.alloc (.cells #[.int .i64 t0.kind, .string t0.s, .int .i64 t0.n, .int .i64 t0.at_, .bool t0.lay] 55)).drew = WB at *
    generalize W0.heap.size = g6 at *
    rw [HK.out] at B6
    have HB := Lib.hid (H.out.ext X1.out)
    have SB := Lib.hid (PStep.ext (S := f.S) (nv := nv) (HX.out.trans X1.out))
    have ZB := Lib.hid (HZ.out.ext X1.out)
    have CB := Lib.hid ((PStep.ext (S := f.S) (nv := nv) X1.out).clr CZ.out)
    have k6 := B6.out.cell
    clear H HZ CZ
    have s1 := HB.out.setI t1 hqn HL.out ((plI f.L r : Int) + 1) (by rw [HT3.out]; omega)
    rw [HKK.out] at s1
    have c1 := HB.out.cells.c1
    rw [HKK.out] at c1
    have f1 := HB.out.blk.frozen 1
    have H6 := Lib.hid s1.1
    have S6 := Lib.hid (SB.out.trans s1.2)
    have Z6 := Lib.hid (ZB.out.mods s1.2.mods CB.out.no)
    have B66 := Lib.hid (B6.out.mods s1.2.mods D6.out.no)
    have C6 := Lib.hid (s1.2.clr CB.out)
    have D66 := Lib.hid (s1.2.clr D6.out)
    clear s1
    go_upto_region 8 with fail
    generalize WB.setCell ⟨f.pb, 1, none⟩ (.int .i64 ((k : Int) + 1)) = W6 at *
    clear c1 f1 k6 HB SB ZB CB B6 D6
    have HB := H6
    have SB := S6
    have ZB := Z6
    have CB := C6
    have B6 := B66
    have D6 := D66
    have GB : Hid (w.heap.size < W6.heap.size) := Lib.hid Z6.out.lt
    have k6 := B6.out.cell
    clear H6 S6 Z6 C6 B66 D66
    have HV := Lib.hid (raVariable t0.s HB.out (by have := HL2.out; have := HQL.out; omega))
    obtain ⟨vn, hvn⟩ : ∃ vn, varT t0.s ns = .mk 1 vn ⟨#[]⟩ [] := by
      unfold varT
      cases varI t0.s ns with
      | some k => exact ⟨_, rfl⟩
      | none => exact ⟨_, rfl⟩
    rw [hvn, tmVal_var] at HV
    have HVN := Lib.hid hvn
    clear hvn
    go_wp2_with (go_at_call 110; refine HV.out.mono ?_; rintro e W5 ⟨nv5, rfl, h5, s5⟩; have H5 := Lib.hid h5; have S5 := Lib.hid (SB.out.trans s5); have Z5 := Lib.hid (ZB.out.mods s5.mods CB.out.no); have zc := Z5.out.cell; have zf := Z5.out.frozen; clear h5 s5)
    have kb := blk_set4 Z5.out (.int .i64 1) (.int .i64 vn) (.string ⟨#[]⟩) (.slice none 0 0)
    have kc := kb.cell
    have h7 := H5.out.set4 HO.out (Nat.le_refl _) Z5.out (.int .i64 1) (.int .i64 vn) (.string ⟨#[]⟩) (.slice none 0 0)
    have s7 := pstep_set4 S5.out (Nat.le_refl _) (.int .i64 1) (.int .i64 vn) (.string ⟨#[]⟩) (.slice none 0 0)
    refine bodyPost_ret (v := .tuple #[.agg #[.int .i64 1, .int .i64 vn, .string ⟨#[]⟩, .slice none 0 0], .int .i64 0]) ?_ rfl ⟨(.mk 1 vn ⟨#[]⟩ []), 0, none, 0, nv5, q, (varN t0.s ns), false, rfl, ?_, h7, s7, TmsIn.term (TmsIn.nil _ _ _ _) 1 vn ⟨#[]⟩, by have := HQL.out; omega⟩
    · simp [results, Tryz.results72, go_sem, kc]
    · rw [HVN.out]; exact ⟨rfl, rfl, rfl, rfl⟩

set_option maxRecDepth 100000 in
set_option maxHeartbeats 4000000 in
theorem raOper_sign {f : RF} {N : Nat} (IH : RTermC f N) (most : Int) {r : List TokV} (hN : r.length ≤ N + 1) {w : World} {nv : Value} {ns : List ByteArray} (h : RaAt f w r nv ns false) {n : Nat} (hn : 5 * r.length + 3 ≤ n) {t0 : TokV} {q : List TokV} (e : r = t0 :: q) (hk : t0.kind = 1) :
    Calls Tryz.prog 72 #[.pointer (some ⟨f.pb, 0, none⟩), .int .i64 most] w (ROPost f w nv r (operN f.O n most r ns)) := by
  obtain ⟨m, rfl⟩ : ∃ m, n = m + 1 := ⟨n - 1, by omega⟩
  have hop : operN f.O (m + 1) most r ns = signN f.O m t0.s most q ns := by rw [e]; simp [operN, hk]
  rw [hop]
  obtain ⟨X, hX⟩ : ∃ X, signN f.O m t0.s most q ns = X := ⟨_, rfl⟩
  rw [hX]
  have HLX := Lib.hid hX
  clear hX
  obtain ⟨u, qq, hq⟩ := h.toks.more h.suf e (by rw [hk]; decide)
  have t1 := suf_tail h.suf e
  have t3 := plI_tail h.suf e
  have hqn : q ≠ [] := by rw [hq]; simp
  have HL : Hid (ns.length + q.length ≤ f.L.length) := Lib.hid (by have := h.nl; rw [e] at this; simp at this; omega)
  have HQL : Hid (q.length + 1 = r.length) := Lib.hid (by rw [e]; simp)
  have HL2 := Lib.hid h.nl
  have HT3 := Lib.hid t3
  have HNN := Lib.hid hN
  have HM := Lib.hid hn
  clear t3 hq hN hn
  have hx := ext_box4 w (.cells #[.int .i64 0, .int .i64 0, .string ⟨#[]⟩, .slice none 0 0] 32)
  have HO := Lib.hid h.old
  have HX := Lib.hid hx
  have H := Lib.hid (h.ext hx)
  have HZ := Lib.hid (Blk.new w 32 #[.int .i64 0, .int .i64 0, .string ⟨#[]⟩, .slice none 0 0])
  have HSZ := Lib.hid (World.size_alloc w (.cells #[.int .i64 0, .int .i64 0, .string ⟨#[]⟩, .slice none 0 0] 32))
  have CZ := Lib.hid (rclr_box h (Nat.le_refl _) HZ.out.lt)
  have hp : f.pb < w.heap.size := h.blk.lt
  obtain ⟨b, off, hA, d0, d1, d2, d3, d4⟩ := ra_here (h.ext hx) e
  have hlt := plI_lt h.suf h.nil
  have hL := h.toks.len
  have c0 := (h.ext hx).cells.c0
  have c1 := (h.ext hx).cells.c1
  have c4 := (h.ext hx).cells.c4
  rw [hA] at c0
  have hbb : b < (w.alloc (.cells #[.int .i64 0, .int .i64 0, .string ⟨#[]⟩, .slice none 0 0] 32)).heap.size := cell_lt d0
  have hpp : f.pb < (w.alloc (.cells #[.int .i64 0, .int .i64 0, .string ⟨#[]⟩, .slice none 0 0] 32)).heap.size := (h.ext hx).blk.lt
  obtain ⟨k, hkk⟩ : ∃ k, plI f.L r = k := ⟨_, rfl⟩
  have HKK := Lib.hid hkk
  rw [hkk] at c1 d0 d1 d2 d3 d4 hlt
  have hq1 : (k : Int) < (f.L.length : Int) := by omega
  have HK := Lib.hid hk
  have HE := Lib.hid e
  clear h hx hA hkk hk e
  go_enter Tryz.func72, Tryz.ntmps72
  go_upto_region 3 with fail
  generalize w.alloc (.cells #[.int .i64 0, .int .i64 0, .string ⟨#[]⟩, .slice none 0 0] 32) = W0 at *
  go_region
  all_goals
    obtain ⟨xb, kb⟩ := ra_box (W0 := W0) t0
    have X1 := Lib.hid xb
    have B6 := Lib.hid kb
    clear c0 c1 c4 d0 d1 d2 d3 d4 xb kb
    have G6 : Hid (w.heap.size < W0.heap.size) := Lib.hid (by rw [HSZ.out]; omega)
    have D6 := Lib.hid (rclr_box H.out (Nat.le_refl _) B6.out.lt)
    generalize (W0.alloc (.cells #[.int .i64 t0.kind, .string t0.s, .int .i64 t0.n, .int .i64 t0.at_, .bool t0.lay] 55)).drew = WB at *
    generalize W0.heap.size = g6 at *
    rw [HK.out] at B6
    have HB := Lib.hid (H.out.ext X1.out)
    have SB := Lib.hid (PStep.ext (S := f.S) (nv := nv) (HX.out.trans X1.out))
    have ZB := Lib.hid (HZ.out.ext X1.out)
    have CB := Lib.hid ((PStep.ext (S := f.S) (nv := nv) X1.out).clr CZ.out)
    have k6 := B6.out.cell
    clear H HZ CZ
    have s1 := HB.out.setI t1 hqn HL.out ((plI f.L r : Int) + 1) (by rw [HT3.out]; omega)
    rw [HKK.out] at s1
    have c1 := HB.out.cells.c1
    rw [HKK.out] at c1
    have f1 := HB.out.blk.frozen 1
    have H6 := Lib.hid s1.1
    have S6 := Lib.hid (SB.out.trans s1.2)
    have Z6 := Lib.hid (ZB.out.mods s1.2.mods CB.out.no)
    have B66 := Lib.hid (B6.out.mods s1.2.mods D6.out.no)
    have C6 := Lib.hid (s1.2.clr CB.out)
    have D66 := Lib.hid (s1.2.clr D6.out)
    clear s1
    go_upto_region 8 with fail
    generalize WB.setCell ⟨f.pb, 1, none⟩ (.int .i64 ((k : Int) + 1)) = W6 at *
    clear c1 f1 k6 HB SB ZB CB B6 D6
    have HB := H6
    have SB := S6
    have ZB := Z6
    have CB := C6
    have B6 := B66
    have D6 := D66
    have GB : Hid (w.heap.size < W6.heap.size) := Lib.hid Z6.out.lt
    have k6 := B6.out.cell
    clear H6 S6 Z6 C6 B66 D66
    have HT := Lib.hid (raNamed IH t0.s true most (by have := HNN.out; have := HQL.out; omega) HB.out (n := m) (by have := HM.out; have := HQL.out; omega))
    simp only [if_true] at HT
    rw [HLX.out] at HT
    go_wp2_with (go_at_call 111; refine HT.out.mono ?_; rintro e W5 ⟨t, p, A, c, nv5, r5, ns5, b5, rfl, hres, h5, s5, ht5, hl5⟩; have HRES := Lib.hid hres; have H5 := Lib.hid h5; have S5 := Lib.hid (SB.out.trans s5); have T5 := Lib.hid ht5; have L5 := Lib.hid hl5; have Z5 := Lib.hid (ZB.out.mods s5.mods CB.out.no); have zc := (ZB.out.mods s5.mods CB.out.no).cell; have zf := (ZB.out.mods s5.mods CB.out.no).frozen; clear hres h5 s5 ht5 hl5)
    have kb := blk_set4 Z5.out (.int .i64 (Tm.k t)) (.int .i64 (Tm.n t)) (.string (Tm.s t)) (.slice A (Tm.l t).length c)
    have kc := kb.cell
    have h7 := H5.out.set4 HO.out (Nat.le_refl _) Z5.out (.int .i64 (Tm.k t)) (.int .i64 (Tm.n t)) (.string (Tm.s t)) (.slice A (Tm.l t).length c)
    have s7 := pstep_set4 S5.out (Nat.le_refl _) (.int .i64 (Tm.k t)) (.int .i64 (Tm.n t)) (.string (Tm.s t)) (.slice A (Tm.l t).length c)
    refine bodyPost_ret (v := .tuple #[.agg #[.int .i64 (Tm.k t), .int .i64 (Tm.n t), .string (Tm.s t), .slice A (Tm.l t).length c], .int .i64 p]) ?_ rfl ⟨t, p, A, c, nv5, r5, ns5, b5, rfl, ?_, h7, s7, tmN_wide (w := w) (tmN_set4 T5.out (z := w.heap.size) GB.out (.int .i64 (Tm.k t)) (.int .i64 (Tm.n t)) (.string (Tm.s t)) (.slice A (Tm.l t).length c)) (Nat.le_of_lt GB.out), Nat.le_trans L5.out (by have := HQL.out; omega)⟩
    · simp [results, Tryz.results72, go_sem, kc]
    · exact HRES.out

set_option maxRecDepth 100000 in
set_option maxHeartbeats 4000000 in
theorem raOper_name {f : RF} {N : Nat} (IH : RTermC f N) (most : Int) {r : List TokV} (hN : r.length ≤ N + 1) {w : World} {nv : Value} {ns : List ByteArray} (h : RaAt f w r nv ns false) {n : Nat} (hn : 5 * r.length + 3 ≤ n) {t0 : TokV} {q : List TokV} (e : r = t0 :: q) (hk : t0.kind = 2) :
    Calls Tryz.prog 72 #[.pointer (some ⟨f.pb, 0, none⟩), .int .i64 most] w (ROPost f w nv r (operN f.O n most r ns)) := by
  obtain ⟨m, rfl⟩ : ∃ m, n = m + 1 := ⟨n - 1, by omega⟩
  have hop : operN f.O (m + 1) most r ns = namedN f.O m t0.s q ns := by rw [e]; simp [operN, hk]
  rw [hop]
  obtain ⟨X, hX⟩ : ∃ X, namedN f.O m t0.s q ns = X := ⟨_, rfl⟩
  rw [hX]
  have HLX := Lib.hid hX
  clear hX
  obtain ⟨u, qq, hq⟩ := h.toks.more h.suf e (by rw [hk]; decide)
  have t1 := suf_tail h.suf e
  have t3 := plI_tail h.suf e
  have hqn : q ≠ [] := by rw [hq]; simp
  have HL : Hid (ns.length + q.length ≤ f.L.length) := Lib.hid (by have := h.nl; rw [e] at this; simp at this; omega)
  have HQL : Hid (q.length + 1 = r.length) := Lib.hid (by rw [e]; simp)
  have HL2 := Lib.hid h.nl
  have HT3 := Lib.hid t3
  have HNN := Lib.hid hN
  have HM := Lib.hid hn
  clear t3 hq hN hn
  have hx := ext_box4 w (.cells #[.int .i64 0, .int .i64 0, .string ⟨#[]⟩, .slice none 0 0] 32)
  have HO := Lib.hid h.old
  have HX := Lib.hid hx
  have H := Lib.hid (h.ext hx)
  have HZ := Lib.hid (Blk.new w 32 #[.int .i64 0, .int .i64 0, .string ⟨#[]⟩, .slice none 0 0])
  have HSZ := Lib.hid (World.size_alloc w (.cells #[.int .i64 0, .int .i64 0, .string ⟨#[]⟩, .slice none 0 0] 32))
  have CZ := Lib.hid (rclr_box h (Nat.le_refl _) HZ.out.lt)
  have hp : f.pb < w.heap.size := h.blk.lt
  obtain ⟨b, off, hA, d0, d1, d2, d3, d4⟩ := ra_here (h.ext hx) e
  have hlt := plI_lt h.suf h.nil
  have hL := h.toks.len
  have c0 := (h.ext hx).cells.c0
  have c1 := (h.ext hx).cells.c1
  have c4 := (h.ext hx).cells.c4
  rw [hA] at c0
  have hbb : b < (w.alloc (.cells #[.int .i64 0, .int .i64 0, .string ⟨#[]⟩, .slice none 0 0] 32)).heap.size := cell_lt d0
  have hpp : f.pb < (w.alloc (.cells #[.int .i64 0, .int .i64 0, .string ⟨#[]⟩, .slice none 0 0] 32)).heap.size := (h.ext hx).blk.lt
  obtain ⟨k, hkk⟩ : ∃ k, plI f.L r = k := ⟨_, rfl⟩
  have HKK := Lib.hid hkk
  rw [hkk] at c1 d0 d1 d2 d3 d4 hlt
  have hq1 : (k : Int) < (f.L.length : Int) := by omega
  have HK := Lib.hid hk
  have HE := Lib.hid e
  clear h hx hA hkk hk e
  go_enter Tryz.func72, Tryz.ntmps72
  go_upto_region 3 with fail
  generalize w.alloc (.cells #[.int .i64 0, .int .i64 0, .string ⟨#[]⟩, .slice none 0 0] 32) = W0 at *
  go_region
  all_goals
    obtain ⟨xb, kb⟩ := ra_box (W0 := W0) t0
    have X1 := Lib.hid xb
    have B6 := Lib.hid kb
    clear c0 c1 c4 d0 d1 d2 d3 d4 xb kb
    have G6 : Hid (w.heap.size < W0.heap.size) := Lib.hid (by rw [HSZ.out]; omega)
    have D6 := Lib.hid (rclr_box H.out (Nat.le_refl _) B6.out.lt)
    generalize (W0.alloc (.cells #[.int .i64 t0.kind, .string t0.s, .int .i64 t0.n, .int .i64 t0.at_, .bool t0.lay] 55)).drew = WB at *
    generalize W0.heap.size = g6 at *
    rw [HK.out] at B6
    have HB := Lib.hid (H.out.ext X1.out)
    have SB := Lib.hid (PStep.ext (S := f.S) (nv := nv) (HX.out.trans X1.out))
    have ZB := Lib.hid (HZ.out.ext X1.out)
    have CB := Lib.hid ((PStep.ext (S := f.S) (nv := nv) X1.out).clr CZ.out)
    have k6 := B6.out.cell
    clear H HZ CZ
    have s1 := HB.out.setI t1 hqn HL.out ((plI f.L r : Int) + 1) (by rw [HT3.out]; omega)
    rw [HKK.out] at s1
    have c1 := HB.out.cells.c1
    rw [HKK.out] at c1
    have f1 := HB.out.blk.frozen 1
    have H6 := Lib.hid s1.1
    have S6 := Lib.hid (SB.out.trans s1.2)
    have Z6 := Lib.hid (ZB.out.mods s1.2.mods CB.out.no)
    have B66 := Lib.hid (B6.out.mods s1.2.mods D6.out.no)
    have C6 := Lib.hid (s1.2.clr CB.out)
    have D66 := Lib.hid (s1.2.clr D6.out)
    clear s1
    go_upto_region 8 with fail
    generalize WB.setCell ⟨f.pb, 1, none⟩ (.int .i64 ((k : Int) + 1)) = W6 at *
    clear c1 f1 k6 HB SB ZB CB B6 D6
    have HB := H6
    have SB := S6
    have ZB := Z6
    have CB := C6
    have B6 := B66
    have D6 := D66
    have GB : Hid (w.heap.size < W6.heap.size) := Lib.hid Z6.out.lt
    have k6 := B6.out.cell
    clear H6 S6 Z6 C6 B66 D66
    have HT := Lib.hid (raNamed IH t0.s false most (by have := HNN.out; have := HQL.out; omega) HB.out (n := m) (by have := HM.out; have := HQL.out; omega))
    simp only [Bool.false_eq_true, if_false] at HT
    rw [HLX.out] at HT
    go_wp2_with (go_at_call 111; refine HT.out.mono ?_; rintro e W5 ⟨t, p, A, c, nv5, r5, ns5, b5, rfl, hres, h5, s5, ht5, hl5⟩; have HRES := Lib.hid hres; have H5 := Lib.hid h5; have S5 := Lib.hid (SB.out.trans s5); have T5 := Lib.hid ht5; have L5 := Lib.hid hl5; have Z5 := Lib.hid (ZB.out.mods s5.mods CB.out.no); have zc := (ZB.out.mods s5.mods CB.out.no).cell; have zf := (ZB.out.mods s5.mods CB.out.no).frozen; clear hres h5 s5 ht5 hl5)
    have kb := blk_set4 Z5.out (.int .i64 (Tm.k t)) (.int .i64 (Tm.n t)) (.string (Tm.s t)) (.slice A (Tm.l t).length c)
    have kc := kb.cell
    have h7 := H5.out.set4 HO.out (Nat.le_refl _) Z5.out (.int .i64 (Tm.k t)) (.int .i64 (Tm.n t)) (.string (Tm.s t)) (.slice A (Tm.l t).length c)
    have s7 := pstep_set4 S5.out (Nat.le_refl _) (.int .i64 (Tm.k t)) (.int .i64 (Tm.n t)) (.string (Tm.s t)) (.slice A (Tm.l t).length c)
    refine bodyPost_ret (v := .tuple #[.agg #[.int .i64 (Tm.k t), .int .i64 (Tm.n t), .string (Tm.s t), .slice A (Tm.l t).length c], .int .i64 p]) ?_ rfl ⟨t, p, A, c, nv5, r5, ns5, b5, rfl, ?_, h7, s7, tmN_wide (w := w) (tmN_set4 T5.out (z := w.heap.size) GB.out (.int .i64 (Tm.k t)) (.int .i64 (Tm.n t)) (.string (Tm.s t)) (.slice A (Tm.l t).length c)) (Nat.le_of_lt GB.out), Nat.le_trans L5.out (by have := HQL.out; omega)⟩
    · simp [results, Tryz.results72, go_sem, kc]
    · exact HRES.out
end Go.Proofs.YtgcdhffeacdegaaGreatDoor
