/- Layer 10, the program: the parser's state. -/
import Derived.Test.YtgcdhffeacdegaaGreatDoorH08
import Derived.Test.YtgcdhffeacdegaaGreatDoorH02
import Derived.RegionTactic
import Derived.WalkMore
import Derived.IntWalk
namespace Go.Proofs.YtgcdhffeacdegaaGreatDoor
open Go.RowKit Go.El
structure PF where
 pb : Nat
 mb : Nat
 A : Option Addr
 cap : Nat
 L : List TokV
 I : List OpV
 Q : List OpV
 tb : Nat
def PF.S (f : PF) : List Nat := [f.pb, f.mb]
def PF.O (f : PF) : Ops := ⟨fun s => findO s f.I, fun s => findO s f.Q⟩
def NamesIn (ps : List (ByteArray × Value)) (ns : List ByteArray) : Prop := ∀ s, s ≠ usB → findP s ps = (ns.findIdx? (fun x => decide (x = s))).map (fun (k : Nat) => Value.int .i64 (k : Int))
def paA (f : PF) (r : List TokV) (nv : Value) (bad : Bool) : Array Value := #[.slice f.A f.L.length f.cap, .int .i64 (plI f.L r : Int), .pointer (some ⟨f.tb, 0, none⟩), nv, .map (some f.mb), .bool bad]
structure PaAt (f : PF) (w : World) (r : List TokV) (nv : Value) (ns : List ByteArray) (bad : Bool) : Prop where
 blk : Blk w f.pb 81 (paA f r nv bad)
 own : w.ownsRow 0 9 1 nv ns.length (ns.map Value.string)
 map : ∃ ps, MapAt Value.string w f.mb ps ∧ NamesIn ps ns
 tok : El.Src w f.A f.L.length 5 (flat tokCells f.L)
 toks : ToksOk f.L
 suf : r <:+ f.L
 nil : r ≠ []
 ops : ∃ m1 m2, TabAt w f.tb m1 m2 f.I f.Q ∧ Clr2 f.S nv w f.tb ∧ Clr2 f.S nv w m1 ∧ Clr2 f.S nv w m2
 bnd : ∀ p : OpV, p ∈ f.I ∨ p ∈ f.Q → -1000000 ≤ p.p ∧ p.p ≤ 1000000
 typ : TypesAt 0 w
 typc : Clr2 f.S nv w 0
 ca : ∀ a, f.A = some a → Clr2 f.S nv w a.block
 pm : f.pb ≠ f.mb
 np : nv.ownBlock ≠ some f.pb
 nm : nv.ownBlock ≠ some f.mb
 nl : ns.length + r.length ≤ f.L.length
 cp : f.L.length ≤ f.cap
theorem PaAt.step {f : PF} {w w' : World} {r q : List TokV} {nv nv' : Value} {ns ms : List ByteArray} {bad bad' : Bool} (h : PaAt f w r nv ns bad) (s : PStep f.S nv w nv' w')
  (hb : Blk w' f.pb 81 (paA f q nv' bad')) (ho : w'.ownsRow 0 9 1 nv' ms.length (ms.map Value.string)) (hm : ∃ ps, MapAt Value.string w' f.mb ps ∧ NamesIn ps ms)
  (hq : q <:+ f.L) (hn : q ≠ []) (hp : nv'.ownBlock ≠ some f.pb) (hp2 : nv'.ownBlock ≠ some f.mb) (hl : ms.length + q.length ≤ f.L.length) : PaAt f w' q nv' ms bad' := by
 obtain ⟨m1, m2, ht, c1, c2, c3⟩ := h.ops
 exact ⟨hb, ho, hm, h.tok.mods s.mods (fun a ha => (h.ca a ha).no), h.toks, hq, hn, ⟨m1, m2, ht.mods s.mods c1.no c2.no c3.no, s.clr c1, s.clr c2, s.clr c3⟩, h.bnd, h.typ.mods s.mods h.typc.no, s.clr h.typc, fun a ha => s.clr (h.ca a ha), h.pm, hp, hp2, hl, h.cp⟩
theorem PaAt.ext {f : PF} {w w' : World} {r : List TokV} {nv : Value} {ns : List ByteArray} {bad : Bool} (h : PaAt f w r nv ns bad) (x : Ext w w') : PaAt f w' r nv ns bad :=
 h.step (PStep.ext x) (h.blk.ext x) (own_ext h.own x) (h.map.imp fun _ k => ⟨k.1.ext x, k.2⟩) h.suf h.nil h.np h.nm h.nl
theorem PaAt.pbS {f : PF} : f.pb ∈ f.S := by simp [PF.S]
theorem map_set {w : World} {m pb i : Nat} {α : Type} {kv : α → Value} {ps : List (α × Value)} (h : MapAt kv w m ps) (u : Value) : MapAt kv (w.setCell ⟨pb, i, none⟩ u) m ps := h.setCell _ u
theorem PaAt.setI {f : PF} {w : World} {r q : List TokV} {nv : Value} {ns : List ByteArray} {bad : Bool} (h : PaAt f w r nv ns bad) (hq : q <:+ f.L) (hn : q ≠ []) (hl : ns.length + q.length ≤ f.L.length) (z : Int) (hz : z = (plI f.L q : Int)) :
  PaAt f (w.setCell ⟨f.pb, 1, none⟩ (.int .i64 z)) q nv ns bad ∧ PStep f.S nv w nv (w.setCell ⟨f.pb, 1, none⟩ (.int .i64 z)) := by
 subst hz
 have s := PStep.set_ (S := f.S) (nv := nv) (w := w) (i := 1) (PaAt.pbS (f := f)) (.int .i64 (plI f.L q : Int))
 exact ⟨h.step s (h.blk.set_ 1 _) (ownsRow_setCell_other h.own h.np _) (h.map.imp fun _ k => ⟨map_set k.1 _, k.2⟩) hq hn h.np h.nm hl, s⟩
theorem PaAt.setB {f : PF} {w : World} {r : List TokV} {nv : Value} {ns : List ByteArray} {bad : Bool} (h : PaAt f w r nv ns bad) (b : Bool) :
  PaAt f (w.setCell ⟨f.pb, 5, none⟩ (.bool b)) r nv ns b ∧ PStep f.S nv w nv (w.setCell ⟨f.pb, 5, none⟩ (.bool b)) := by
 have s := PStep.set_ (S := f.S) (nv := nv) (w := w) (i := 5) (PaAt.pbS (f := f)) (.bool b)
 exact ⟨h.step s (h.blk.set_ 5 _) (ownsRow_setCell_other h.own h.np _) (h.map.imp fun _ k => ⟨map_set k.1 _, k.2⟩) h.suf h.nil h.np h.nm h.nl, s⟩
structure PaC (f : PF) (w : World) (r : List TokV) (nv : Value) (bad : Bool) : Prop where
 c0 : w.cell? ⟨f.pb, 0, none⟩ = some (.slice f.A f.L.length f.cap)
 c1 : w.cell? ⟨f.pb, 1, none⟩ = some (.int .i64 (plI f.L r : Int))
 c2 : w.cell? ⟨f.pb, 2, none⟩ = some (.pointer (some ⟨f.tb, 0, none⟩))
 c3 : w.cell? ⟨f.pb, 3, none⟩ = some nv
 c4 : w.cell? ⟨f.pb, 4, none⟩ = some (.map (some f.mb))
 c5 : w.cell? ⟨f.pb, 5, none⟩ = some (.bool bad)
theorem PaAt.cells {f : PF} {w : World} {r : List TokV} {nv : Value} {ns : List ByteArray} {bad : Bool} (h : PaAt f w r nv ns bad) : PaC f w r nv bad :=
 ⟨h.blk.cell 0, h.blk.cell 1, h.blk.cell 2, h.blk.cell 3, h.blk.cell 4, h.blk.cell 5⟩
theorem PaAt.here {f : PF} {w : World} {r : List TokV} {nv : Value} {ns : List ByteArray} {bad : Bool} (h : PaAt f w r nv ns bad) {t : TokV} {q : List TokV} (e : r = t :: q) :
  ∃ b off, f.A = some ⟨b, off, none⟩ ∧ w.cell? ⟨b, off + plI f.L r * 5, none⟩ = some (.int .i64 t.kind) ∧ w.cell? ⟨b, off + plI f.L r * 5 + 1, none⟩ = some (.string t.s) ∧ w.cell? ⟨b, off + plI f.L r * 5 + 2, none⟩ = some (.int .i64 t.n) ∧ w.cell? ⟨b, off + plI f.L r * 5 + 3, none⟩ = some (.int .i64 t.at_) ∧ w.cell? ⟨b, off + plI f.L r * 5 + 4, none⟩ = some (.bool t.lay) := by
 have hk := plI_get h.suf 0
 rw [Nat.add_zero, e] at hk
 rw [← e] at hk
 exact tok_cells h.tok (t := t) (by rw [hk]; rw [e]; rfl)
end Go.Proofs.YtgcdhffeacdegaaGreatDoor

/- Layer 10, the program: the walks of next, is, skip, want, opens, fail. -/
namespace Go.Proofs.YtgcdhffeacdegaaGreatDoor
open Go.RowKit Go.El
def tokA (t : TokV) : Value := .agg #[.int .i64 t.kind, .string t.s, .int .i64 t.n, .int .i64 t.at_, .bool t.lay]
theorem ext_box4 (w : World) (o : Obj) : Ext w (w.alloc o) := (Ext.refl w).alloc o
set_option maxRecDepth 100000 in
set_option maxHeartbeats 4000000 in
theorem paNext {f : PF} {w : World} {r : List TokV} {nv : Value} {ns : List ByteArray} {bad : Bool} (h : PaAt f w r nv ns bad) {t : TokV} {q : List TokV} (e : r = t :: q) :
  Calls Tryz.prog 42 #[.pointer (some ⟨f.pb, 0, none⟩)] w fun e w' => e = .returned (tokA t) ∧ Ext w w' := by
 have hc := h.cells
 obtain ⟨b, off, hA, d0, d1, d2, d3, d4⟩ := h.here e
 have hlt := plI_lt h.suf h.nil
 have c0 := hc.c0
 have c1 := hc.c1
 rw [hA] at c0
 generalize plI f.L r = k at *
 have hp : f.pb < w.heap.size := h.blk.lt
 have hbb : b < w.heap.size := cell_lt d0
 have hL := h.toks.len
 have HX := Lib.hid (ext_box4 w (.cells #[.int .i64 0, .string ⟨#[]⟩, .int .i64 0, .int .i64 0, .bool false] 55))
 have HZ := Lib.hid (Blk.new w 55 #[.int .i64 0, .string ⟨#[]⟩, .int .i64 0, .int .i64 0, .bool false])
 clear h hc e hA
 go_enter Tryz.func42, Tryz.ntmps42
 go_upto_region 1 with fail
 have x0 := HX.out.cell c0
 have x1 := HX.out.cell c1
 have y0 := HX.out.cell d0
 have y1 := HX.out.cell d1
 have y2 := HX.out.cell d2
 have y3 := HX.out.cell d3
 have y4 := HX.out.cell d4
 generalize w.alloc (.cells #[.int .i64 0, .string ⟨#[]⟩, .int .i64 0, .int .i64 0, .bool false] 55) = V at *
 clear c0 c1 d0 d1 d2 d3 d4
 have kzc := HZ.out.cell
 have kzf := HZ.out.frozen
 have hq1 : (k : Int) < (f.L.length : Int) := by omega
 go_region
 all_goals
  go_wp2_with fail
  have kb := blk_set5 HZ.out (.int .i64 t.kind) (.string t.s) (.int .i64 t.n) (.int .i64 t.at_) (.bool t.lay)
  have kc := kb.cell
  refine bodyPost_ret (v := tokA t) ?_ rfl ⟨rfl, (ext_set5 HX.out (Nat.le_refl _) _ _ _ _ _).drew⟩
  simp [results, Tryz.results42, go_sem, tokA, kc]
theorem tokF0 (kd n a : Int) (s : ByteArray) (l : Bool) (W : World) : (Instr.field 55 (.agg #[.int .i64 kd, .string s, .int .i64 n, .int .i64 a, .bool l]) 0).run Tryz.prog W = .ok (.int .i64 kd) W := by kernel_rfl
theorem tokF1 (kd n a : Int) (s : ByteArray) (l : Bool) (W : World) : (Instr.field 55 (.agg #[.int .i64 kd, .string s, .int .i64 n, .int .i64 a, .bool l]) 1).run Tryz.prog W = .ok (.string s) W := by kernel_rfl
theorem tokF3 (kd n a : Int) (s : ByteArray) (l : Bool) (W : World) : (Instr.field 55 (.agg #[.int .i64 kd, .string s, .int .i64 n, .int .i64 a, .bool l]) 3).run Tryz.prog W = .ok (.int .i64 a) W := by kernel_rfl
theorem tokF4 (kd n a : Int) (s : ByteArray) (l : Bool) (W : World) : (Instr.field 55 (.agg #[.int .i64 kd, .string s, .int .i64 n, .int .i64 a, .bool l]) 4).run Tryz.prog W = .ok (.bool l) W := by kernel_rfl
def isPs (r : List TokV) (s : ByteArray) : Bool := match r with
 | [] => false
 | t :: _ => decide (t.kind = 5) && decide (t.s = s)
theorem isPs_lit (r : List TokV) (c : UInt8) : isPs r ⟨#[c]⟩ = isPu r c := by
 cases r with
 | nil => rfl
 | cons t q =>
  have : (t.s = ⟨#[c]⟩) ↔ (t.s.data.toList = [c]) := by
   constructor
   ·intro e; rw [e]
   ·intro e
    rw [← strB_mk t.s, e]
    rfl
  simp [isPs, isPu, this]
theorem str_beq {a b : ByteArray} : (a.toList == b.toList) = decide (a = b) := by
 rw [Bool.eq_iff_iff, beq_iff_eq, decide_eq_true_iff, ByteArray.toList_eq, ByteArray.toList_eq]
 constructor
 ·intro e
  rw [← strB_mk a, ← strB_mk b, e]
 ·intro e; rw [e]
set_option maxRecDepth 100000 in
set_option maxHeartbeats 4000000 in
theorem paIs (s : ByteArray) {f : PF} {w : World} {r : List TokV} {nv : Value} {ns : List ByteArray} {bad : Bool} (h : PaAt f w r nv ns bad) :
  Calls Tryz.prog 100 #[.pointer (some ⟨f.pb, 0, none⟩), .string s] w fun e w' => e = .returned (.bool (isPs r s)) ∧ Ext w w' := by
 obtain ⟨t, q, e⟩ := ToksOk.ne h.suf h.nil
 have HN := fun W (x : Ext w W) => Lib.hid (paNext (h.ext x) e)
 have hi : isPs r s = (decide (t.kind = 5) && decide (t.s = s)) := by rw [e]; rfl
 rw [hi]
 unfold tokA at HN
 clear e hi h
 have hb := @str_beq t.s s
 have F0 := tokF0 t.kind t.n t.at_ t.s t.lay
 have F1 := tokF1 t.kind t.n t.at_ t.s t.lay
 by_cases hk : t.kind = 5
 ·have e1 : (t.kind == 5) = true := by simpa using hk
  rw [hk] at HN F0 F1 ⊢
  by_cases hs : t.s = s
  ·rw [decide_eq_true hs] at hb ⊢
   generalize t.s = ts at *
   clear hs hk e1
   go_enter Tryz.func100, Tryz.ntmps100
   go_wp2_with (first | (go_at_call 42; refine (HN _ (Ext.refl _)).out.mono ?_; rintro e W1 ⟨rfl, hx1⟩; have X1 := Lib.hid hx1; clear hx1) | (go_at_call 42; refine (HN _ X1.out).out.mono ?_; rintro e W2 ⟨rfl, hx2⟩; have X2 := Lib.hid (X1.out.trans hx2); clear hx2))
   go_ret
   exact ⟨rfl, X2.out⟩
  ·rw [decide_eq_false hs] at hb ⊢
   have hsp : ¬ t.s.toList = s.toList := by simpa using hb
   generalize t.s = ts at *
   clear hs hk e1
   go_enter Tryz.func100, Tryz.ntmps100
   go_wp2_with (first | (go_at_call 42; refine (HN _ (Ext.refl _)).out.mono ?_; rintro e W1 ⟨rfl, hx1⟩; have X1 := Lib.hid hx1; clear hx1) | (go_at_call 42; refine (HN _ X1.out).out.mono ?_; rintro e W2 ⟨rfl, hx2⟩; have X2 := Lib.hid (X1.out.trans hx2); clear hx2))
   go_ret
   exact ⟨rfl, X2.out⟩
 ·have e1 : (t.kind == 5) = false := by simpa using hk
  rw [decide_eq_false hk]
  generalize t.kind = kd at *
  clear hk hb
  go_enter Tryz.func100, Tryz.ntmps100
  go_wp2_with (go_at_call 42; refine (HN _ (Ext.refl _)).out.mono ?_; rintro e W1 ⟨rfl, hx1⟩)
  go_ret
  exact ⟨rfl, hx1⟩
theorem isPs_tail {L r : List TokV} {s : ByteArray} (h : ToksOk L) (hr : r <:+ L) (hi : isPs r s = true) : r.tail <:+ L ∧ r.tail ≠ [] ∧ plI L r.tail = plI L r + 1 := by
 cases r with
 | nil => cases hi
 | cons t q =>
  have hk : t.kind = 5 := by simp [isPs] at hi; exact hi.1
  obtain ⟨u, p, e⟩ := h.more hr rfl (by omega)
  exact ⟨suf_tail hr rfl, by simp [e], plI_tail hr rfl⟩
set_option maxRecDepth 100000 in
set_option maxHeartbeats 4000000 in
theorem paSkip (s : ByteArray) {f : PF} {w : World} {r : List TokV} {nv : Value} {ns : List ByteArray} {bad : Bool} (h : PaAt f w r nv ns bad) :
  Calls Tryz.prog 138 #[.pointer (some ⟨f.pb, 0, none⟩), .string s] w fun e w' => e = .returned (.bool (!bad && isPs r s)) ∧ PaAt f w' (if (!bad && isPs r s) = true then r.tail else r) nv ns bad ∧ PStep f.S nv w nv w' := by
 have HI := fun W (x : Ext w W) => Lib.hid (paIs s (h.ext x))
 have H := Lib.hid h
 have hc := h.cells
 have c5 := hc.c5
 have c1 := hc.c1
 have hp : f.pb < w.heap.size := h.blk.lt
 cases bad
 ·cases hi : isPs r s
  ·rw [hi] at HI
   clear h hc hi c1
   go_enter Tryz.func138, Tryz.ntmps138
   go_wp2_with (go_at_call 100; refine (HI _ (Ext.refl _)).out.mono ?_; rintro e W1 ⟨rfl, hx1⟩; have X1 := Lib.hid hx1; clear hx1)
   go_ret
   exact ⟨rfl, H.out.ext X1.out, PStep.ext X1.out⟩
  ·rw [hi] at HI
   obtain ⟨t1, t2, t3⟩ := isPs_tail h.toks h.suf hi
   have hl := h.nl
   have hkL := plI_lt h.suf h.nil
   have hLL := h.toks.len
   have HT := Lib.hid t3
   have HL : Hid (ns.length + r.tail.length ≤ f.L.length) := Lib.hid (by rw [List.length_tail]; omega)
   clear h hc hi t3 hl
   generalize plI f.L r = k at *
   go_enter Tryz.func138, Tryz.ntmps138
   go_wp2_with (go_at_call 100; refine (HI _ (Ext.refl _)).out.mono ?_; rintro e W1 ⟨rfl, hx1⟩; have X1 := Lib.hid hx1; have c1 := hx1.cell c1; have hf := (H.out.ext hx1).blk.frozen 1; clear hx1)
   go_ret
   have s1 := (H.out.ext X1.out).setI t1 t2 HL.out ((k : Int) + 1) (by rw [HT.out]; omega)
   exact ⟨rfl, s1.1, (PStep.ext X1.out).trans s1.2⟩
 ·clear h hc c1 HI
  go_enter Tryz.func138, Tryz.ntmps138
  go_wp2_with fail
  go_ret
  exact ⟨rfl, H.out, PStep.refl _ _ _⟩
set_option maxRecDepth 100000 in
set_option maxHeartbeats 4000000 in
theorem paWant (s : ByteArray) {f : PF} {w : World} {r : List TokV} {nv : Value} {ns : List ByteArray} {bad : Bool} (h : PaAt f w r nv ns bad) :
  Calls Tryz.prog 143 #[.pointer (some ⟨f.pb, 0, none⟩), .string s] w fun e w' => e = .returned (.tuple #[]) ∧ PaAt f w' (if (!bad && isPs r s) = true then r.tail else r) nv ns (bad || !isPs r s) ∧ PStep f.S nv w nv w' := by
 have HS := Lib.hid (paSkip s h)
 have hp : f.pb < w.heap.size := h.blk.lt
 cases hb : (!bad && isPs r s)
 ·rw [hb] at HS
  have hbb : (bad || !isPs r s) = true := by
   cases bad
   ·simp at hb
    simp [hb]
   ·rfl
  rw [hbb]
  clear h hbb hb
  go_enter Tryz.func143, Tryz.ntmps143
  go_wp2_with (go_at_call 138; refine HS.out.mono ?_; rintro e W1 ⟨rfl, h1, s1⟩; have H1 := Lib.hid h1; have S1 := Lib.hid s1; have c5 := h1.cells.c5; have f5 := h1.blk.frozen 5; clear h1 s1)
  go_end0
  have s2 := H1.out.setB true
  exact ⟨rfl, s2.1, S1.out.trans s2.2⟩
 ·rw [hb] at HS
  have hbb : (bad || !isPs r s) = false ∧ bad = false := by
   cases bad
   ·simp at hb
    simp [hb]
   ·simp at hb
  obtain ⟨hbb, rfl⟩ := hbb
  rw [hbb]
  clear h hbb hb
  go_enter Tryz.func143, Tryz.ntmps143
  go_wp2_with (go_at_call 138; refine HS.out.mono ?_; rintro e W1 ⟨rfl, h1, s1⟩; have H1 := Lib.hid h1; have S1 := Lib.hid s1; have c5 := h1.cells.c5; have f5 := h1.blk.frozen 5; clear h1 s1)
  go_end0
  have s2 := H1.out.setB false
  exact ⟨rfl, s2.1, S1.out.trans s2.2⟩
set_option maxRecDepth 100000 in
set_option maxHeartbeats 4000000 in
theorem paOpens {f : PF} {w : World} {r : List TokV} {nv : Value} {ns : List ByteArray} {bad : Bool} (h : PaAt f w r nv ns bad) :
  Calls Tryz.prog 140 #[.pointer (some ⟨f.pb, 0, none⟩)] w fun e w' => e = .returned (.bool (opensB r)) ∧ Ext w w' := by
 obtain ⟨t, q, e⟩ := ToksOk.ne h.suf h.nil
 have HN := fun W (x : Ext w W) => Lib.hid (paNext (h.ext x) e)
 have HI := Lib.hid (paIs ⟨#[40]⟩ h)
 rw [isPs_lit] at HI
 have hl : layB r = t.lay := by rw [e]; rfl
 unfold opensB
 rw [hl]
 unfold tokA at HN
 have F4 := tokF4 t.kind t.n t.at_ t.s t.lay
 clear h e hl
 cases hi : isPu r 40
 ·rw [hi] at HI
  clear HN hi
  go_enter Tryz.func140, Tryz.ntmps140
  go_wp2_with (go_at_call 100; refine HI.out.mono ?_; rintro e W1 ⟨rfl, hx1⟩; have X1 := Lib.hid hx1; clear hx1)
  go_ret
  exact ⟨rfl, X1.out⟩
 ·rw [hi] at HI
  clear hi
  generalize t.lay = b at *
  go_enter Tryz.func140, Tryz.ntmps140
  go_wp2_with (first | (go_at_call 100; refine HI.out.mono ?_; rintro e W1 ⟨rfl, hx1⟩; have X1 := Lib.hid hx1; clear hx1) | (go_at_call 42; refine (HN _ X1.out).out.mono ?_; rintro e W2 ⟨rfl, hx2⟩; have X2 := Lib.hid (X1.out.trans hx2); clear hx2))
  go_ret
  exact ⟨by cases b <;> rfl, X2.out⟩
end Go.Proofs.YtgcdhffeacdegaaGreatDoor
