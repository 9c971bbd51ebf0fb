/- Layer 10, the program: the walk of bracket. -/
import Derived.Test.YtgcdhffeacdegaaGreatDoorH25
namespace Go.Proofs.YtgcdhffeacdegaaGreatDoor
open Go.RowKit Go.El
def OPost (f : PF) (w : World) (nv : Value) (r0 : List TokV) (x : PR (Tm × Int)) (e : Ending) (w' : World) : Prop :=
 ∃ t p A c nv' r ns bad, e = .returned (.tuple #[.agg #[.int .i64 (Tm.k t), .int .i64 (Tm.n t), .string (Tm.s t), .slice A (Tm.l t).length c], .int .i64 p]) ∧ resIs x (t, p) r ns bad ∧ PaAt f w' r nv' ns bad ∧ PStep f.S nv w nv' w' ∧ TmIn (NewT f.S nv' w w') w' t A c ∧ r.length ≤ r0.length
def prM {α β : Type} (g : α → β) (x : PR α) : PR β := match x with
 | .bad q => .bad q
 | .ok a q ms => .ok (g a) q ms
theorem prM_res {α β : Type} {g : α → β} {x : PR α} {a : α} {r : List TokV} {ns : List ByteArray} {bad : Bool} (h : resIs x a r ns bad) : resIs (prM g x) (g a) r ns bad := by
 cases x with
 | bad q => exact h
 | ok b q ms =>
  obtain ⟨h1, rfl, h3, h4⟩ := h
  exact ⟨h1, rfl, h3, h4⟩
theorem wantP_map {α β : Type} (c : UInt8) (g : α → β) (a : α) (r : List TokV) (ns : List ByteArray) : wantP c (g a) r ns = prM g (wantP c a r ns) := by
 unfold wantP
 cases isPu r c <;> rfl
theorem brac_par (O : Ops) (n : Nat) (t : TokV) (r : List TokV) (ns : List ByteArray) (h : t.s = ⟨#[40]⟩) : bracN O (n + 1) t r ns = wantM 41 g0 (termN O n 1200 r ns) := by
 have h1 : t.s.data.toList = [40] := by rw [h]
 simp only [bracN]
 rw [if_pos h1]
 cases termN O n 1200 r ns <;> rfl
theorem brac_sq (O : Ops) (n : Nat) (t : TokV) (r : List TokV) (ns : List ByteArray) (h : t.s = ⟨#[91]⟩) : bracN O (n + 1) t r ns = if isPu r 93 then namedN O n nilB r.tail ns else prM g0 (listM O n (rowN O n false [] r ns)) := by
 have h1 : ¬ t.s.data.toList = [40] := by rw [h]; decide
 have h2 : t.s.data.toList = [91] := by rw [h]
 simp only [bracN]
 rw [if_neg h1, if_pos h2]
 split
 ·rfl
 ·cases rowN O n false [] r ns with
  | bad q => rfl
  | ok l q ms =>
   simp only [listM]
   split
   ·cases termN O n 999 q.tail ms with
    | bad q2 => rfl
    | ok u q2 m2 => exact wantP_map 93 g0 (listT l u) q2 m2
   ·exact wantP_map 93 g0 (listT l (atomT nilB)) q ms
theorem brac_cur (O : Ops) (n : Nat) (t : TokV) (r : List TokV) (ns : List ByteArray) (h : t.s = ⟨#[123]⟩) : bracN O (n + 1) t r ns = if isPu r 125 then namedN O n curB r.tail ns else wantM 125 (fun u => (compT curB [u], (0 : Int))) (termN O n 1200 r ns) := by
 have h1 : ¬ t.s.data.toList = [40] := by rw [h]; decide
 have h2 : ¬ t.s.data.toList = [91] := by rw [h]; decide
 have h3 : t.s.data.toList = [123] := by rw [h]
 simp only [bracN]
 rw [if_neg h1, if_neg h2, if_pos h3]
 split
 ·rfl
 ·cases termN O n 1200 r ns <;> rfl
set_option maxRecDepth 100000 in
set_option maxHeartbeats 8000000 in
theorem paBrac_par {f : PF} {N : Nat} (IH : PTermC f N) {r : List TokV} (hN : r.length ≤ N) {w : World} {nv : Value} {ns : List ByteArray} (h : PaAt f w r nv ns false) {n : Nat} (hn : 5 * r.length + 7 ≤ n) (t0 : TokV) (ht0 : t0.s = ⟨#[40]⟩) :
  Calls Tryz.prog 95 #[.pointer (some ⟨f.pb, 0, none⟩), .string ⟨#[40]⟩] w (OPost f w nv r (bracN f.O n t0 r ns)) := by
 obtain ⟨m, rfl⟩ : ∃ m, n = m + 1 := ⟨n - 1, by omega⟩
 rw [brac_par _ _ _ _ _ ht0]
 have hx := ext_box4 w (.cells #[.int .i64 0, .int .i64 0, .string ⟨#[]⟩, .slice none 0 0] 32)
 have HO := Lib.hid h.old
 have H := Lib.hid (h.ext hx)
 have HZ := Lib.hid (Blk.new w 32 #[.int .i64 0, .int .i64 0, .string ⟨#[]⟩, .slice none 0 0])
 have HC := Lib.hid (clr_box h (Nat.le_refl _) HZ.out.lt)
 have S0 := Lib.hid (PStep.ext (S := f.S) (nv := nv) hx)
 have HSZ := Lib.hid (World.size_alloc w (.cells #[.int .i64 0, .int .i64 0, .string ⟨#[]⟩, .slice none 0 0] 32))
 have hp : f.pb < w.heap.size := h.blk.lt
 have HT := Lib.hid (paClosed IH 41 hN (h.ext hx) (n := m) (by omega))
 obtain ⟨X, hX⟩ : ∃ X, termN f.O m 1200 r ns = X := ⟨_, rfl⟩
 rw [hX] at HT ⊢
 clear h hx hN hn hX
 go_enter Tryz.func95, Tryz.ntmps95
 go_upto_region 1 with fail
 generalize w.alloc (.cells #[.int .i64 0, .int .i64 0, .string ⟨#[]⟩, .slice none 0 0] 32) = W0 at *
 have SB := S0
 have ZB := HZ
 have CB := HC
 go_wp2_with (go_at_call 137; refine HT.out.mono ?_; rintro e W5 ⟨t, A, c, nv5, r5, ns5, b5, rfl, hres, h5, s5, ht5, hl5⟩; have HRES := Lib.hid hres; have H5 := Lib.hid h5; have S5 := Lib.hid (SB.out.trans s5); have T5 := Lib.hid ht5; have L5 := Lib.hid hl5; have Z5 := Lib.hid (ZB.out.mods s5.mods CB.out.no); have zc := (ZB.out.mods s5.mods CB.out.no).cell; have zf := (ZB.out.mods s5.mods CB.out.no).frozen; clear hres h5 s5 ht5 hl5)
 have G5 : Hid (w.heap.size < W0.heap.size) := Lib.hid (by rw [HSZ.out]; omega)
 have kb := blk_set4 Z5.out (.int .i64 (Tm.k t)) (.int .i64 (Tm.n t)) (.string (Tm.s t)) (.slice A (Tm.l t).length c)
 have kc := kb.cell
 have h7 := H5.out.set4 HO.out (Nat.le_refl _) Z5.out (.int .i64 (Tm.k t)) (.int .i64 (Tm.n t)) (.string (Tm.s t)) (.slice A (Tm.l t).length c)
 have s7 := pstep_set4 S5.out (Nat.le_refl _) (.int .i64 (Tm.k t)) (.int .i64 (Tm.n t)) (.string (Tm.s t)) (.slice A (Tm.l t).length c)
 have t7 := tmN_wide (w := w) (tmN_set4 T5.out (z := w.heap.size) G5.out (.int .i64 (Tm.k t)) (.int .i64 (Tm.n t)) (.string (Tm.s t)) (.slice A (Tm.l t).length c)) (Nat.le_of_lt G5.out)
 refine bodyPost_ret (v := .tuple #[.agg #[.int .i64 (Tm.k t), .int .i64 (Tm.n t), .string (Tm.s t), .slice A (Tm.l t).length c], .int .i64 0]) ?_ rfl ⟨t, 0, A, c, nv5, r5, ns5, b5, rfl, want_map (c := 41) (g := g0) HRES.out, h7, s7, t7, L5.out⟩
 simp [results, Tryz.results95, go_sem, kc]
set_option maxRecDepth 100000 in
set_option maxHeartbeats 8000000 in
theorem paBrac_sq {f : PF} {N : Nat} (IH : PTermC f N) {r : List TokV} (hN : r.length ≤ N) {w : World} {nv : Value} {ns : List ByteArray} (h : PaAt f w r nv ns false) {n : Nat} (hn : 5 * r.length + 7 ≤ n) (t0 : TokV) (ht0 : t0.s = ⟨#[91]⟩) :
  Calls Tryz.prog 95 #[.pointer (some ⟨f.pb, 0, none⟩), .string ⟨#[91]⟩] w (OPost f w nv r (bracN f.O n t0 r ns)) := by
 obtain ⟨m, rfl⟩ : ∃ m, n = m + 1 := ⟨n - 1, by omega⟩
 rw [brac_sq _ _ _ _ _ ht0]
 have hx := ext_box4 w (.cells #[.int .i64 0, .int .i64 0, .string ⟨#[]⟩, .slice none 0 0] 32)
 have HO := Lib.hid h.old
 have H := Lib.hid (h.ext hx)
 have HZ := Lib.hid (Blk.new w 32 #[.int .i64 0, .int .i64 0, .string ⟨#[]⟩, .slice none 0 0])
 have HC := Lib.hid (clr_box h (Nat.le_refl _) HZ.out.lt)
 have S0 := Lib.hid (PStep.ext (S := f.S) (nv := nv) hx)
 have HSZ := Lib.hid (World.size_alloc w (.cells #[.int .i64 0, .int .i64 0, .string ⟨#[]⟩, .slice none 0 0] 32))
 have hp : f.pb < w.heap.size := h.blk.lt
 have HS := Lib.hid (paSkip ⟨#[93]⟩ (h.ext hx))
 rw [isPs_lit] at HS
 have HNN := Lib.hid hN
 have HM := Lib.hid hn
 cases hs : isPu r 93
 ·have hb : (!false && false) = false := rfl
  rw [hs, hb] at HS
  have hif : (if false = true then namedN f.O m nilB r.tail ns else prM g0 (listM f.O m (rowN f.O m false [] r ns))) = prM g0 (listM f.O m (rowN f.O m false [] r ns)) := rfl
  rw [hif]
  obtain ⟨X, hX⟩ : ∃ X, listM f.O m (rowN f.O m false [] r ns) = X := ⟨_, rfl⟩
  rw [hX]
  have HLX := Lib.hid hX
  clear h hx hN hn hX hs hb hif
  go_enter Tryz.func95, Tryz.ntmps95
  go_upto_region 1 with fail
  generalize w.alloc (.cells #[.int .i64 0, .int .i64 0, .string ⟨#[]⟩, .slice none 0 0] 32) = W0 at *
  go_upto_region 7 with (go_at_call 138; refine HS.out.mono ?_; rintro e WB ⟨rfl, h4, s4⟩; have HB := Lib.hid h4; have S4 := Lib.hid s4; clear h4 s4)
  have HT := Lib.hid (paList IH HNN.out HB.out (n := m) (by have := HM.out; omega))
  rw [HLX.out] at HT
  have SB := Lib.hid (S0.out.trans S4.out)
  have ZB := Lib.hid (HZ.out.mods S4.out.mods HC.out.no)
  have CB := Lib.hid (S4.out.clr HC.out)
  go_wp2_with (go_at_call 139; refine HT.out.mono ?_; rintro e W5 ⟨t, A, c, nv5, r5, ns5, b5, rfl, hres, h5, s5, ht5, hl5⟩; have HRES := Lib.hid hres; have H5 := Lib.hid h5; have S5 := Lib.hid (SB.out.trans s5); have T5 := Lib.hid ht5; have L5 := Lib.hid hl5; have Z5 := Lib.hid (ZB.out.mods s5.mods CB.out.no); have zc := (ZB.out.mods s5.mods CB.out.no).cell; have zf := (ZB.out.mods s5.mods CB.out.no).frozen; clear hres h5 s5 ht5 hl5)
  have G5 : Hid (w.heap.size < WB.heap.size) := Lib.hid (by have := S4.out.size; rw [HSZ.out] at this; omega)
  have kb := blk_set4 Z5.out (.int .i64 (Tm.k t)) (.int .i64 (Tm.n t)) (.string (Tm.s t)) (.slice A (Tm.l t).length c)
  have kc := kb.cell
  have h7 := H5.out.set4 HO.out (Nat.le_refl _) Z5.out (.int .i64 (Tm.k t)) (.int .i64 (Tm.n t)) (.string (Tm.s t)) (.slice A (Tm.l t).length c)
  have s7 := pstep_set4 S5.out (Nat.le_refl _) (.int .i64 (Tm.k t)) (.int .i64 (Tm.n t)) (.string (Tm.s t)) (.slice A (Tm.l t).length c)
  have t7 := tmN_wide (w := w) (tmN_set4 T5.out (z := w.heap.size) G5.out (.int .i64 (Tm.k t)) (.int .i64 (Tm.n t)) (.string (Tm.s t)) (.slice A (Tm.l t).length c)) (Nat.le_of_lt G5.out)
  refine bodyPost_ret (v := .tuple #[.agg #[.int .i64 (Tm.k t), .int .i64 (Tm.n t), .string (Tm.s t), .slice A (Tm.l t).length c], .int .i64 0]) ?_ rfl ⟨t, 0, A, c, nv5, r5, ns5, b5, rfl, prM_res (g := g0) HRES.out, h7, s7, t7, L5.out⟩
  simp [results, Tryz.results95, go_sem, kc]
 ·have hb : (!false && true) = true := rfl
  rw [hs, hb] at HS
  have hif : (if true = true then namedN f.O m nilB r.tail ns else prM g0 (listM f.O m (rowN f.O m false [] r ns))) = namedN f.O m nilB r.tail ns := rfl
  rw [hif]
  obtain ⟨X, hX⟩ : ∃ X, namedN f.O m nilB r.tail ns = X := ⟨_, rfl⟩
  rw [hX]
  have HLX := Lib.hid hX
  have htl := tail_le r true
  have HTL : Hid (r.tail.length ≤ r.length) := Lib.hid htl
  clear h hx hN hn hX hs hb hif htl
  go_enter Tryz.func95, Tryz.ntmps95
  go_upto_region 1 with fail
  generalize w.alloc (.cells #[.int .i64 0, .int .i64 0, .string ⟨#[]⟩, .slice none 0 0] 32) = W0 at *
  go_upto_region 4 with (go_at_call 138; refine HS.out.mono ?_; rintro e WB ⟨rfl, h4, s4⟩; have HB : Hid (PaAt f WB r.tail nv ns false) := Lib.hid h4; have S4 := Lib.hid s4; clear h4 s4)
  have HT := Lib.hid (paNamed IH nilB (by have := HNN.out; have := HTL.out; omega) HB.out (n := m) (by have := HM.out; have := HTL.out; omega))
  rw [HLX.out] at HT
  unfold nilB at HT
  have SB := Lib.hid (S0.out.trans S4.out)
  have ZB := Lib.hid (HZ.out.mods S4.out.mods HC.out.no)
  have CB := Lib.hid (S4.out.clr HC.out)
  go_wp2_with (go_at_call 98; refine HT.out.mono ?_; rintro e W5 ⟨t, A, c, nv5, r5, ns5, b5, rfl, hres, h5, s5, ht5, hl5⟩; have HRES := Lib.hid hres; have H5 := Lib.hid h5; have S5 := Lib.hid (SB.out.trans s5); have T5 := Lib.hid ht5; have L5 := Lib.hid hl5; have Z5 := Lib.hid (ZB.out.mods s5.mods CB.out.no); have zc := (ZB.out.mods s5.mods CB.out.no).cell; have zf := (ZB.out.mods s5.mods CB.out.no).frozen; clear hres h5 s5 ht5 hl5)
  have G5 : Hid (w.heap.size < WB.heap.size) := Lib.hid (by have := S4.out.size; rw [HSZ.out] at this; omega)
  have kb := blk_set4 Z5.out (.int .i64 (Tm.k t)) (.int .i64 (Tm.n t)) (.string (Tm.s t)) (.slice A (Tm.l t).length c)
  have kc := kb.cell
  have h7 := H5.out.set4 HO.out (Nat.le_refl _) Z5.out (.int .i64 (Tm.k t)) (.int .i64 (Tm.n t)) (.string (Tm.s t)) (.slice A (Tm.l t).length c)
  have s7 := pstep_set4 S5.out (Nat.le_refl _) (.int .i64 (Tm.k t)) (.int .i64 (Tm.n t)) (.string (Tm.s t)) (.slice A (Tm.l t).length c)
  have t7 := tmN_wide (w := w) (tmN_set4 T5.out (z := w.heap.size) G5.out (.int .i64 (Tm.k t)) (.int .i64 (Tm.n t)) (.string (Tm.s t)) (.slice A (Tm.l t).length c)) (Nat.le_of_lt G5.out)
  refine bodyPost_ret (v := .tuple #[.agg #[.int .i64 (Tm.k t), .int .i64 (Tm.n t), .string (Tm.s t), .slice A (Tm.l t).length c], .int .i64 0]) ?_ rfl ⟨t, 0, A, c, nv5, r5, ns5, b5, rfl, HRES.out, h7, s7, t7, Nat.le_trans L5.out HTL.out⟩
  simp [results, Tryz.results95, go_sem, kc]
set_option maxRecDepth 100000 in
set_option maxHeartbeats 8000000 in
theorem paBrac_cur {f : PF} {N : Nat} (IH : PTermC f N) {r : List TokV} (hN : r.length ≤ N) {w : World} {nv : Value} {ns : List ByteArray} (h : PaAt f w r nv ns false) {n : Nat} (hn : 5 * r.length + 7 ≤ n) (t0 : TokV) (ht0 : t0.s = ⟨#[123]⟩) :
  Calls Tryz.prog 95 #[.pointer (some ⟨f.pb, 0, none⟩), .string ⟨#[123]⟩] w (OPost f w nv r (bracN f.O n t0 r ns)) := by
 obtain ⟨m, rfl⟩ : ∃ m, n = m + 1 := ⟨n - 1, by omega⟩
 rw [brac_cur _ _ _ _ _ ht0]
 have hx := ext_box4 w (.cells #[.int .i64 0, .int .i64 0, .string ⟨#[]⟩, .slice none 0 0] 32)
 have HO := Lib.hid h.old
 have H := Lib.hid (h.ext hx)
 have HZ := Lib.hid (Blk.new w 32 #[.int .i64 0, .int .i64 0, .string ⟨#[]⟩, .slice none 0 0])
 have HC := Lib.hid (clr_box h (Nat.le_refl _) HZ.out.lt)
 have S0 := Lib.hid (PStep.ext (S := f.S) (nv := nv) hx)
 have HSZ := Lib.hid (World.size_alloc w (.cells #[.int .i64 0, .int .i64 0, .string ⟨#[]⟩, .slice none 0 0] 32))
 have hp : f.pb < w.heap.size := h.blk.lt
 have HS := Lib.hid (paSkip ⟨#[125]⟩ (h.ext hx))
 rw [isPs_lit] at HS
 have HNN := Lib.hid hN
 have HM := Lib.hid hn
 cases hs : isPu r 125
 ·have hb : (!false && false) = false := rfl
  rw [hs, hb] at HS
  have hif : (if false = true then namedN f.O m curB r.tail ns else wantM 125 (fun u => (compT curB [u], (0 : Int))) (termN f.O m 1200 r ns)) = wantM 125 (fun u => (compT curB [u], (0 : Int))) (termN f.O m 1200 r ns) := rfl
  rw [hif]
  obtain ⟨X, hX⟩ : ∃ X, termN f.O m 1200 r ns = X := ⟨_, rfl⟩
  rw [hX]
  have HLX := Lib.hid hX
  clear h hx hN hn hX hs hb hif
  go_enter Tryz.func95, Tryz.ntmps95
  go_upto_region 1 with fail
  generalize w.alloc (.cells #[.int .i64 0, .int .i64 0, .string ⟨#[]⟩, .slice none 0 0] 32) = W0 at *
  go_upto_region 7 with (go_at_call 138; refine HS.out.mono ?_; rintro e WB ⟨rfl, h4, s4⟩; have HB : Hid (PaAt f WB r nv ns false) := Lib.hid h4; have S4 := Lib.hid s4; clear h4 s4)
  have HT := Lib.hid (paClosed IH 125 HNN.out HB.out (n := m) (by have := HM.out; omega))
  rw [HLX.out] at HT
  have SB := Lib.hid (S0.out.trans S4.out)
  have ZB := Lib.hid (HZ.out.mods S4.out.mods HC.out.no)
  have CB := Lib.hid (S4.out.clr HC.out)
  have G5 : Hid (w.heap.size < WB.heap.size) := Lib.hid (by have := S4.out.size; rw [HSZ.out] at this; omega)
  go_wp2_with (first | (go_at_call 137; refine HT.out.mono ?_; rintro e W5 ⟨t, A, c, nv5, r5, ns5, b5, rfl, hres, h5, s5, ht5, hl5⟩; have HRES := Lib.hid hres; have H5 := Lib.hid h5; have S5 := Lib.hid (SB.out.trans s5); have G6 := Lib.hid s5.size; have T5 := Lib.hid ht5; have L5 := Lib.hid hl5; have Z5 := Lib.hid (ZB.out.mods s5.mods CB.out.no); have zc := (ZB.out.mods s5.mods CB.out.no).cell; have zf := (ZB.out.mods s5.mods CB.out.no).frozen; clear hres h5 s5 ht5 hl5; have HCM := Lib.hid (pComp_any ⟨#[123, 125]⟩ [(t, A, c)] (some ⟨W5.heap.size, 0, none⟩) 1 (W5.alloc (.cells #[.int .i64 (Tm.k t), .int .i64 (Tm.n t), .string (Tm.s t), .slice A (Tm.l t).length c] 32)) (NewT f.S nv5 WB W5) (El.Src.new W5 #[.int .i64 (Tm.k t), .int .i64 (Tm.n t), .string (Tm.s t), .slice A (Tm.l t).length c] 32 1 4 rfl) (fun e he => by simp only [List.mem_cons, List.not_mem_nil, or_false] at he; subst he; exact T5.out.ext (ext_box4 _ _)) (by simp) (by simp)); simp only [List.length_cons, List.length_nil, Nat.reduceAdd] at HCM) | (go_at_call 67; refine HCM.out.mono ?_; rintro e W6 ⟨A6, c6, rfl, ht6, hx6⟩; have T6 := Lib.hid ht6; have X6 := Lib.hid ((ext_box4 W5 _).trans hx6); have Z6 := Lib.hid (Z5.out.ext X6.out); have zc := Z6.out.cell; have zf := Z6.out.frozen; clear ht6 hx6))
  have kb := blk_set4 Z6.out (.int .i64 4) (.int .i64 0) (.string ⟨#[123, 125]⟩) (.slice A6 1 c6)
  have kc := kb.cell
  have h7 := (H5.out.ext X6.out).set4 HO.out (Nat.le_refl _) Z6.out (.int .i64 4) (.int .i64 0) (.string ⟨#[123, 125]⟩) (.slice A6 1 c6)
  have s7 := pstep_set4 (S5.out.trans (PStep.ext X6.out)) (Nat.le_refl _) (.int .i64 4) (.int .i64 0) (.string ⟨#[123, 125]⟩) (.slice A6 1 c6)
  have hnew : TmIn (NewT f.S nv5 WB W6) W6 (.mk 4 0 ⟨#[123, 125]⟩ [t]) A6 c6 := T6.out.mono (fun k hk => by
   rcases hk with hk | ⟨h1, h2⟩
   ·exact hk.step (PStep.ext X6.out)
   ·have h1' : W5.heap.size ≤ k := by simp at h1; omega
    exact ⟨Nat.le_trans G6.out h1', clr_box H5.out h1' h2⟩)
  have t7 := tmN_wide (w := w) (tmN_set4 hnew (z := w.heap.size) G5.out (.int .i64 4) (.int .i64 0) (.string ⟨#[123, 125]⟩) (.slice A6 1 c6)) (Nat.le_of_lt G5.out)
  have hcomp : compT curB [t] = .mk 4 0 ⟨#[123, 125]⟩ [t] := if_neg (by simp)
  have hres := want_map (c := 125) (g := fun u => (compT curB [u], (0 : Int))) HRES.out
  rw [hcomp] at hres
  refine bodyPost_ret (v := .tuple #[.agg #[.int .i64 4, .int .i64 0, .string ⟨#[123, 125]⟩, .slice A6 1 c6], .int .i64 0]) ?_ rfl ⟨.mk 4 0 ⟨#[123, 125]⟩ [t], 0, A6, c6, nv5, r5, ns5, b5, rfl, hres, h7, s7, t7, L5.out⟩
  simp [results, Tryz.results95, go_sem, kc]
 ·have hb : (!false && true) = true := rfl
  rw [hs, hb] at HS
  have hif : (if true = true then namedN f.O m curB r.tail ns else wantM 125 (fun u => (compT curB [u], (0 : Int))) (termN f.O m 1200 r ns)) = namedN f.O m curB r.tail ns := rfl
  rw [hif]
  obtain ⟨X, hX⟩ : ∃ X, namedN f.O m curB r.tail ns = X := ⟨_, rfl⟩
  rw [hX]
  have HLX := Lib.hid hX
  have htl := tail_le r true
  have HTL : Hid (r.tail.length ≤ r.length) := Lib.hid htl
  clear h hx hN hn hX hs hb hif htl
  go_enter Tryz.func95, Tryz.ntmps95
  go_upto_region 1 with fail
  generalize w.alloc (.cells #[.int .i64 0, .int .i64 0, .string ⟨#[]⟩, .slice none 0 0] 32) = W0 at *
  go_upto_region 6 with (go_at_call 138; refine HS.out.mono ?_; rintro e WB ⟨rfl, h4, s4⟩; have HB : Hid (PaAt f WB r.tail nv ns false) := Lib.hid h4; have S4 := Lib.hid s4; clear h4 s4)
  have HT := Lib.hid (paNamed IH curB (by have := HNN.out; have := HTL.out; omega) HB.out (n := m) (by have := HM.out; have := HTL.out; omega))
  rw [HLX.out] at HT
  unfold curB at HT
  have SB := Lib.hid (S0.out.trans S4.out)
  have ZB := Lib.hid (HZ.out.mods S4.out.mods HC.out.no)
  have CB := Lib.hid (S4.out.clr HC.out)
  go_wp2_with (go_at_call 98; refine HT.out.mono ?_; rintro e W5 ⟨t, A, c, nv5, r5, ns5, b5, rfl, hres, h5, s5, ht5, hl5⟩; have HRES := Lib.hid hres; have H5 := Lib.hid h5; have S5 := Lib.hid (SB.out.trans s5); have T5 := Lib.hid ht5; have L5 := Lib.hid hl5; have Z5 := Lib.hid (ZB.out.mods s5.mods CB.out.no); have zc := (ZB.out.mods s5.mods CB.out.no).cell; have zf := (ZB.out.mods s5.mods CB.out.no).frozen; clear hres h5 s5 ht5 hl5)
  have G5 : Hid (w.heap.size < WB.heap.size) := Lib.hid (by have := S4.out.size; rw [HSZ.out] at this; omega)
  have kb := blk_set4 Z5.out (.int .i64 (Tm.k t)) (.int .i64 (Tm.n t)) (.string (Tm.s t)) (.slice A (Tm.l t).length c)
  have kc := kb.cell
  have h7 := H5.out.set4 HO.out (Nat.le_refl _) Z5.out (.int .i64 (Tm.k t)) (.int .i64 (Tm.n t)) (.string (Tm.s t)) (.slice A (Tm.l t).length c)
  have s7 := pstep_set4 S5.out (Nat.le_refl _) (.int .i64 (Tm.k t)) (.int .i64 (Tm.n t)) (.string (Tm.s t)) (.slice A (Tm.l t).length c)
  have t7 := tmN_wide (w := w) (tmN_set4 T5.out (z := w.heap.size) G5.out (.int .i64 (Tm.k t)) (.int .i64 (Tm.n t)) (.string (Tm.s t)) (.slice A (Tm.l t).length c)) (Nat.le_of_lt G5.out)
  refine bodyPost_ret (v := .tuple #[.agg #[.int .i64 (Tm.k t), .int .i64 (Tm.n t), .string (Tm.s t), .slice A (Tm.l t).length c], .int .i64 0]) ?_ rfl ⟨t, 0, A, c, nv5, r5, ns5, b5, rfl, HRES.out, h7, s7, t7, Nat.le_trans L5.out HTL.out⟩
  simp [results, Tryz.results95, go_sem, kc]
end Go.Proofs.YtgcdhffeacdegaaGreatDoor
