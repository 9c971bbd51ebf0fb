/- Layer 10, the program: a new parser; the walk of Clause. -/
import Derived.Test.YtgcdhffeacdegaaGreatDoorC35
import Derived.Test.YtgcdhffeacdegaaGreatDoorC29
namespace Go.Proofs.YtgcdhffeacdegaaGreatDoor
open Go.RowKit Go.El

/-- What Clause stands on: a table of operators. -/
structure OpsOk (w : World) (tb : Nat) (I Q : List OpV) : Prop where
  tab : ∃ m1 m2, TabAt w tb m1 m2 I Q
  bnd : ∀ p : OpV, p ∈ I ∨ p ∈ Q → -1000000 ≤ p.p ∧ p.p ≤ 1000000
  typ : TypesAt 0 w
theorem OpsOk.ext {w w' : World} {tb : Nat} {I Q : List OpV} (h : OpsOk w tb I Q) (x : Ext w w') : OpsOk w' tb I Q := ⟨h.tab.imp fun _ k => k.imp fun _ k => k.ext x, h.bnd, h.typ.ext x⟩
def newF (W : World) (A : Option Addr) (c : Nat) (L : List TokV) (I Q : List OpV) (tb : Nat) : PF := ⟨W.heap.size + 1, W.heap.size, A, c, L, I, Q, tb⟩
def newP (W : World) (A : Option Addr) (c n tb : Nat) : Array Value := #[.slice A n c, .int .i64 0, .pointer (some ⟨tb, 0, none⟩), .slice none 0 0, .map (some W.heap.size), .bool false]
def newW (W : World) (A : Option Addr) (c n tb : Nat) : World := (W.alloc (.map #[] 0)).alloc (.cells (newP W A c n tb) 81)
theorem newW_ext (W : World) (A : Option Addr) (c n tb : Nat) : Ext W (newW W A c n tb) := ((Ext.refl W).alloc _).alloc _
theorem PaAt.start {X W : World} {A : Option Addr} {c : Nat} {L : List TokV} {I Q : List OpV} {tb : Nat} (hg : GathT X W (.slice A L.length c) L) (hL : ToksOk L) (ho : OpsOk W tb I Q) :
    PaAt (newF W A c L I Q tb) (newW W A c L.length tb) L (.slice none 0 0) [] false := by
  have hx := newW_ext W A c L.length tb
  have hsz : (newW W A c L.length tb).heap.size = W.heap.size + 2 := by simp [newW]
  obtain ⟨m1, m2, ht⟩ := ho.tab
  have hclr : ∀ k, k < W.heap.size → Clr2 (newF W A c L I Q tb).S (.slice none 0 0) (newW W A c L.length tb) k := fun k hk =>
    ⟨by simp [PF.S, newF]; omega, by simp [Value.ownBlock], by rw [hsz]; omega⟩
  have hne : L ≠ [] := by
    obtain ⟨M, E, e, _⟩ := hL.fin
    simp [e]
  have hbk : Blk (newW W A c L.length tb) (W.heap.size + 1) 81 (newP W A c L.length tb) := by
    have := Blk.new (W.alloc (.map #[] 0)) 81 (newP W A c L.length tb)
    rw [World.size_alloc] at this
    exact this
  have hpl : plI L L = 0 := by simp [plI]
  have hA : ∀ a, A = some a → a.block < W.heap.size := fun a ha => own_lt hg.own (by rw [ha]; rfl)
  refine ⟨?_, World.ownsRow_nil _ _ _ _, ⟨[], (MapAt.new _ W).ext ((Ext.refl _).alloc _), fun s _ => rfl⟩, (Src.of_own hg.own).ext hx, hL, List.suffix_rfl, hne, ⟨m1, m2, ht.ext hx, hclr _ (cell_lt ht.c0), hclr _ ht.mi.lt, hclr _ ht.mq.lt⟩, ho.bnd, ho.typ.ext hx, hclr _ (cell_lt ho.typ.h0), fun a ha => hclr _ (hA a ha), by simp [newF], by simp [Value.ownBlock], by simp [Value.ownBlock], by simp [newF], own_cap hg.own⟩
  show Blk _ _ _ (paA (newF W A c L I Q tb) L (.slice none 0 0) false)
  unfold paA
  simp only [newF, hpl]
  exact hbk
end Go.Proofs.YtgcdhffeacdegaaGreatDoor

/- Layer 10, the program: the walk of Clause. -/
namespace Go.Proofs.YtgcdhffeacdegaaGreatDoor
open Go.RowKit Go.El

theorem zeroRead (W : World) : (zeroValue 35).run Tryz.prog W = .ok (.agg #[.int .i64 0, .int .i64 0, .string ⟨#[]⟩, .slice none 0 0, .slice none 0 0, .int .i64 0]) W := by kernel_rfl
theorem blk_set6 {w : World} {g : Nat} {t : TypeId} {a b c d e f : Value} (h : Blk w g t #[a, b, c, d, e, f]) (a' b' c' d' e' f' : Value) : Blk ((((((w.setCell ⟨g, 0, none⟩ a').setCell ⟨g, 1, none⟩ b').setCell ⟨g, 2, none⟩ c').setCell ⟨g, 3, none⟩ d').setCell ⟨g, 4, none⟩ e').setCell ⟨g, 5, none⟩ f') g t #[a', b', c', d', e', f'] := (((((h.set_ 0 a').set_ 1 b').set_ 2 c').set_ 3 d').set_ 4 e').set_ 5 f'
theorem ext_set6 {w w' : World} (h : Ext w w') {g : Nat} (hg : w.heap.size ≤ g) (a' b' c' d' e' f' : Value) : Ext w ((((((w'.setCell ⟨g, 0, none⟩ a').setCell ⟨g, 1, none⟩ b').setCell ⟨g, 2, none⟩ c').setCell ⟨g, 3, none⟩ d').setCell ⟨g, 4, none⟩ e').setCell ⟨g, 5, none⟩ f') := (((((h.setCell (p := ⟨g, 0, none⟩) hg a').setCell (p := ⟨g, 1, none⟩) hg b').setCell (p := ⟨g, 2, none⟩) hg c').setCell (p := ⟨g, 3, none⟩) hg d').setCell (p := ⟨g, 4, none⟩) hg e').setCell (p := ⟨g, 5, none⟩) hg f'
/-- A reading's value. -/
def rdV (t : Tm) (A : Option Addr) (c : Nat) (n : Option Addr) (m k : Nat) (nx : Int) : Value := .agg #[.int .i64 (Tm.k t), .int .i64 (Tm.n t), .string (Tm.s t), .slice A (Tm.l t).length c, .slice n m k, .int .i64 nx]
/-- .. in memory. -/
def ReadAt (X w : World) (v : Value) (r : ReadV) : Prop := ∃ A c n k, v = rdV r.t A c n r.ns.length k r.nx ∧ TmIn (fun b => X.heap.size ≤ b ∧ b < w.heap.size) w r.t A c ∧ El.Src w n r.ns.length 1 (r.ns.map Value.string) ∧ r.ns.length ≤ k ∧ ∀ a, n = some a → X.heap.size ≤ a.block ∧ a.block < w.heap.size
theorem ReadAt.zero (X w : World) : ReadAt X w (.agg #[.int .i64 0, .int .i64 0, .string ⟨#[]⟩, .slice none 0 0, .slice none 0 0, .int .i64 0]) zeroR :=
  ⟨none, 0, none, 0, rfl, TmsIn.nil _ _ _ _, ⟨rfl, fun h => absurd h (Nat.lt_irrefl 0)⟩, Nat.le_refl _, fun _ h => by cases h⟩
/-- What Clause leaves. -/
def ClPost (w : World) (x : ReadV × Int × Int) (e : Ending) (w' : World) : Prop := ∃ v, e = .returned (.tuple #[v, .int .i64 x.2.1, .int .i64 x.2.2]) ∧ ReadAt w w' v x.1 ∧ Ext w w'

set_option maxRecDepth 100000 in
set_option maxHeartbeats 4000000 in
theorem pClause_err {A : Option Addr} {cap : Nat} {B : List UInt8} {i tb : Nat} {w : World} (h : BytesAt w A B) (hi : i ≤ B.length) (hB : B.length ≤ 65536) (hcap : B.length ≤ cap) (g : Glob w) {k : Nat} {x : Int} (hx : ctoks B i = .error (k, x)) (hx0 : x ≠ 0) :
    Calls Tryz.prog 14 #[.slice A B.length cap, .int .i64 (i : Int), .pointer (some ⟨tb, 0, none⟩)] w (ClPost w (zeroR, k, x)) := by
  have hxx := ext_box4 w (.cells #[.int .i64 0, .int .i64 0, .string ⟨#[]⟩, .slice none 0 0, .slice none 0 0, .int .i64 0] 35)
  have HT := Lib.hid (pTokens (h.ext hxx) hi hB hcap (g.ext hxx))
  rw [hx] at HT
  have HX := Lib.hid hxx
  have HZ := Lib.hid (Blk.new w 35 #[.int .i64 0, .int .i64 0, .string ⟨#[]⟩, .slice none 0 0, .slice none 0 0, .int .i64 0])
  have e0 : (x != 0) = true := by simpa using hx0
  have hzr := zeroRead
  clear h hx hxx hx0 g
  go_enter Tryz.func14, Tryz.ntmps14
  go_upto_region 5 with (go_at_call 40; refine HT.out.mono ?_; rintro e W1 ⟨rfl, x1⟩; have X1 := Lib.hid (HX.out.trans x1); have Z1 := Lib.hid (HZ.out.ext x1); have zc := (HZ.out.ext x1).cell; have zf := (HZ.out.ext x1).frozen; clear x1)
  go_wp2_with fail
  have kb := blk_set6 Z1.out (.int .i64 0) (.int .i64 0) (.string ⟨#[]⟩) (.slice none 0 0) (.slice none 0 0) (.int .i64 0)
  have kc := kb.cell
  refine bodyPost_ret (v := .tuple #[.agg #[.int .i64 0, .int .i64 0, .string ⟨#[]⟩, .slice none 0 0, .slice none 0 0, .int .i64 0], .int .i64 k, .int .i64 x]) ?_ rfl ⟨_, rfl, ReadAt.zero _ _, ext_set6 X1.out (Nat.le_refl _) _ _ _ _ _ _⟩
  simp [results, Tryz.results14, go_sem, kc]
end Go.Proofs.YtgcdhffeacdegaaGreatDoor

/- Layer 10, the program: the walk of Clause, where its tokens are read. -/
namespace Go.Proofs.YtgcdhffeacdegaaGreatDoor
open Go.RowKit Go.El

section
variable {O : Ops} {l q : List TokV} {e : Nat} {t : Tm} {ns : List ByteArray}
theorem read_bad (h : resIs (termN O (5 * l.length + 5) 1200 l []) t q ns true) : readT O l e = (zeroR, headA q, 100) := by
  unfold readT
  cases hx : termN O (5 * l.length + 5) 1200 l [] with
  | bad p =>
    rw [hx] at h
    obtain ⟨_, rfl⟩ := h
    rfl
  | ok a p ms =>
    rw [hx] at h
    cases h.1
theorem read_fine (h : resIs (termN O (5 * l.length + 5) 1200 l []) t q ns false) : readT O l e = if (q.map TokV.kind).head? = some 6 then (if chkT t = 0 then ((⟨t, ns, e⟩, (e : Int), 0) : ReadV × Int × Int) else (zeroR, headA l, chkT t)) else (zeroR, headA q, 100) := by
  unfold readT
  cases hx : termN O (5 * l.length + 5) 1200 l [] with
  | bad p =>
    rw [hx] at h
    cases h.1
  | ok a p ms =>
    rw [hx] at h
    obtain ⟨_, rfl, rfl, rfl⟩ := h
    rfl
theorem read_sz (h : resIs (termN O (5 * l.length + 5) 1200 l []) t q ns false) : szT t ≤ l.length := by
  cases hx : termN O (5 * l.length + 5) 1200 l [] with
  | bad p =>
    rw [hx] at h
    cases h.1
  | ok a p ms =>
    rw [hx] at h
    obtain ⟨_, rfl, rfl, rfl⟩ := h
    exact szT_read hx
end
theorem mods_set6 {S : List Nat} {W : World} {z : Nat} (hz : z ∈ S) (a b c d e f : Value) : Mods S W ((((((W.setCell ⟨z, 0, none⟩ a).setCell ⟨z, 1, none⟩ b).setCell ⟨z, 2, none⟩ c).setCell ⟨z, 3, none⟩ d).setCell ⟨z, 4, none⟩ e).setCell ⟨z, 5, none⟩ f) :=
  (((((((Mods.refl S W).setCell (p := ⟨z, 0, none⟩) (.inl hz) a).setCell (p := ⟨z, 1, none⟩) (.inl hz) b).setCell (p := ⟨z, 2, none⟩) (.inl hz) c).setCell (p := ⟨z, 3, none⟩) (.inl hz) d).setCell (p := ⟨z, 4, none⟩) (.inl hz) e).setCell (p := ⟨z, 5, none⟩) (.inl hz) f)
theorem ReadAt.put {w W : World} {t : Tm} {A : Option Addr} {c : Nat} {n : Option Addr} {k : Nat} {ns : List ByteArray} {nx : Int} {D : Nat → Prop} (ht : TmIn D W t A c) (hD : ∀ b, D b → w.heap.size < b ∧ b < W.heap.size) (hs : El.Src W n ns.length 1 (ns.map Value.string)) (hk : ns.length ≤ k) (hn : ∀ a, n = some a → w.heap.size < a.block ∧ a.block < W.heap.size) (a0 b0 c0 d0 e0 f0 : Value) :
    ReadAt w ((((((W.setCell ⟨w.heap.size, 0, none⟩ a0).setCell ⟨w.heap.size, 1, none⟩ b0).setCell ⟨w.heap.size, 2, none⟩ c0).setCell ⟨w.heap.size, 3, none⟩ d0).setCell ⟨w.heap.size, 4, none⟩ e0).setCell ⟨w.heap.size, 5, none⟩ f0) (rdV t A c n ns.length k nx) ⟨t, ns, nx⟩ := by
  have hm := mods_set6 (S := [w.heap.size]) (W := W) (z := w.heap.size) (by simp) a0 b0 c0 d0 e0 f0
  have hsz := hm.size
  exact ⟨A, c, n, k, rfl, TmIn.mods hm (fun b hb => by have := (hD b hb).1; simp; omega) (fun b hb => ⟨Nat.le_of_lt (hD b hb).1, Nat.lt_of_lt_of_le (hD b hb).2 hsz⟩) ht, hs.mods hm (fun a ha => by have := (hn a ha).1; simp; omega), hk, fun a ha => ⟨Nat.le_of_lt (hn a ha).1, Nat.lt_of_lt_of_le (hn a ha).2 hsz⟩⟩
theorem ReadAt.ext {X w w' : World} {v : Value} {r : ReadV} (h : ReadAt X w v r) (x : Ext w w') : ReadAt X w' v r := by
  obtain ⟨A, c, n, k, hv, ht, hs, hk, hn⟩ := h
  exact ⟨A, c, n, k, hv, (ht.ext x).mono (fun b hb => ⟨hb.1, Nat.lt_of_lt_of_le hb.2 x.size⟩), hs.ext x, hk, fun a ha => ⟨(hn a ha).1, Nat.lt_of_lt_of_le (hn a ha).2 x.size⟩⟩
theorem clpost_ok {w W : World} {v : Value} {t : Tm} {ns : List ByteArray} {k : Int} {X : ReadV × Int × Int} (hX : X = (⟨t, ns, k⟩, k, 0)) (h : ReadAt w W v ⟨t, ns, k⟩) (x : Ext w W) : ClPost w X (.returned (.tuple #[v, .int .i64 k, .int .i64 0])) W := by
  subst hX
  exact ⟨v, rfl, h, x⟩

set_option maxRecDepth 100000 in
set_option maxHeartbeats 8000000 in
theorem pClause_ok {A : Option Addr} {cap : Nat} {B : List UInt8} {i tb : Nat} {w : World} (h : BytesAt w A B) (hi : i ≤ B.length) (hB : B.length ≤ 65536) (hcap : B.length ≤ cap) (g : Glob w) {I Q : List OpV} (ho : OpsOk w tb I Q) {l : List TokV} {k : Nat} (hx : ctoks B i = .ok (l, k)) :
    Calls Tryz.prog 14 #[.slice A B.length cap, .int .i64 (i : Int), .pointer (some ⟨tb, 0, none⟩)] w (ClPost w (readT ⟨fun s => findO s I, fun s => findO s Q⟩ l k)) := by
  obtain ⟨hL, hkB, _⟩ := ctoks_ok hi hB hx
  have hxx := ext_box4 w (.cells #[.int .i64 0, .int .i64 0, .string ⟨#[]⟩, .slice none 0 0, .slice none 0 0, .int .i64 0] 35)
  have HT := Lib.hid (pTokens (h.ext hxx) hi hB hcap (g.ext hxx))
  rw [hx] at HT
  have HX := Lib.hid hxx
  have HOK := Lib.hid (ho.ext hxx)
  have HZ := Lib.hid (Blk.new w 35 #[.int .i64 0, .int .i64 0, .string ⟨#[]⟩, .slice none 0 0, .slice none 0 0, .int .i64 0])
  have HSZ := Lib.hid (World.size_alloc w (.cells #[.int .i64 0, .int .i64 0, .string ⟨#[]⟩, .slice none 0 0, .slice none 0 0, .int .i64 0] 35))
  have HLK := Lib.hid hL
  have hzr := zeroRead
  have hmm := @run_makeMap Tryz.prog
  obtain ⟨X, hX⟩ : ∃ X, readT ⟨fun s => findO s I, fun s => findO s Q⟩ l k = X := ⟨_, rfl⟩
  rw [hX]
  have HRX := Lib.hid hX
  clear h hx hxx g ho hL hX
  go_enter Tryz.func14, Tryz.ntmps14
  go_upto_region 6 with (go_at_call 40; refine HT.out.mono ?_; rintro e W1 ⟨v1, rfl, g1⟩; obtain ⟨A1, c1, rfl⟩ := own_value g1.own; have G1 := Lib.hid g1; clear g1)
  have X1 := Lib.hid (HX.out.trans G1.out.ext)
  have hpa := PaAt.start G1.out HLK.out (HOK.out.ext G1.out.ext)
  have H2 := Lib.hid hpa
  have HT2 := Lib.hid (show Calls Tryz.prog 41 #[.pointer (some ⟨W1.heap.size + 1, 0, none⟩), .int .i64 1200] ((W1.alloc (.map #[] 0)).alloc (.cells #[.slice A1 l.length c1, .int .i64 0, .pointer (some ⟨tb, 0, none⟩), .slice none 0 0, .map (some W1.heap.size), .bool false] 81)) (TPost (newF W1 A1 c1 l I Q tb) (newW W1 A1 c1 l.length tb) (.slice none 0 0) l (termN ⟨fun s => findO s I, fun s => findO s Q⟩ (5 * l.length + 5) 1200 l [])) from
    paTerm l.length l [] (.slice none 0 0) _ (5 * l.length + 5) 1200 (Nat.le_refl _) hpa (Nat.le_refl _))
  clear hpa
  go_upto_region 7 with fail
  go_upto_region 8 with (go_at_call 41; refine HT2.out.mono ?_; rintro e W3 ⟨t, A3, c3, nv3, q, ns, b3, rfl, hres, h3, s3, ht3, hl3⟩; have HRES := Lib.hid hres; have H3 := Lib.hid h3; have S3 := Lib.hid s3; have T3 := Lib.hid ht3; clear hres h3 s3 ht3 hl3)
  have hx4 := ext_box4 W3 (.cells #[.int .i64 (Tm.k t), .int .i64 (Tm.n t), .string (Tm.s t), .slice A3 (Tm.l t).length c3] 32)
  have H4 := Lib.hid (H3.out.ext hx4)
  have hwl : w.heap.size < W1.heap.size := by have := G1.out.ext.size; rw [HSZ.out] at this; omega
  have hw2 : (newW W1 A1 c1 l.length tb).heap.size = W1.heap.size + 2 := by simp [newW]
  have X3 : Hid (Ext w W3) := Lib.hid (ext_mods (X1.out.trans (newW_ext W1 A1 c1 l.length tb)) S3.out.mods (fun k hk => by simp [PF.S, newF, ownL, Value.ownBlock] at hk; omega))
  have X4 := Lib.hid (X3.out.trans hx4)
  have Z4 := Lib.hid ((((HZ.out.ext G1.out.ext).ext (newW_ext W1 A1 c1 l.length tb)).mods S3.out.mods (by simp [PF.S, newF, ownL, Value.ownBlock]; omega)).ext hx4)
  have BT := Lib.hid (Blk.new W3 32 #[.int .i64 (Tm.k t), .int .i64 (Tm.n t), .string (Tm.s t), .slice A3 (Tm.l t).length c3])
  have T4 := Lib.hid (T3.out.ext hx4)
  have hs3 := S3.out.size
  have G4 : Hid (W3.heap.size < (W3.alloc (.cells #[.int .i64 (Tm.k t), .int .i64 (Tm.n t), .string (Tm.s t), .slice A3 (Tm.l t).length c3] 32)).heap.size) := Lib.hid BT.out.lt
  have c5 : (W3.alloc (.cells #[.int .i64 (Tm.k t), .int .i64 (Tm.n t), .string (Tm.s t), .slice A3 (Tm.l t).length c3] 32)).cell? ⟨W1.heap.size + 1, 5, none⟩ = some (.bool b3) := H4.out.cells.c5
  have c3p : (W3.alloc (.cells #[.int .i64 (Tm.k t), .int .i64 (Tm.n t), .string (Tm.s t), .slice A3 (Tm.l t).length c3] 32)).cell? ⟨W1.heap.size + 1, 3, none⟩ = some nv3 := H4.out.cells.c3
  have hwl2 : W1.heap.size + 1 < W3.heap.size := by omega
  generalize W3.alloc (.cells #[.int .i64 (Tm.k t), .int .i64 (Tm.n t), .string (Tm.s t), .slice A3 (Tm.l t).length c3] 32) = W4 at *
  obtain ⟨t0, q2, hq⟩ := ToksOk.ne H4.out.suf H4.out.nil
  have HN := fun W (x : Ext W4 W) => Lib.hid (show Calls Tryz.prog 42 #[.pointer (some ⟨W1.heap.size + 1, 0, none⟩)] W (fun e w' => e = .returned (tokA t0) ∧ Ext W w') from paNext (H4.out.ext x) hq)
  unfold tokA at HN
  have F0 := tokF0 t0.kind t0.n t0.at_ t0.s t0.lay
  have F3 := tokF3 t0.kind t0.n t0.at_ t0.s t0.lay
  have hha : headA q = t0.at_ := by rw [hq]; rfl
  have HQ := Lib.hid hq
  clear hq hx4
  cases b3 with
  | true =>
    have hXe : X = (zeroR, t0.at_, 100) := by rw [← HRX.out, read_bad HRES.out, hha]
    clear hha
    go_upto_region 9 with fail
    go_wp2_with (go_at_call 42; refine (HN _ (Ext.refl _)).out.mono ?_; rintro e W9 ⟨rfl, x9⟩; have X9 := Lib.hid (X4.out.trans x9); have Z9 := Lib.hid (Z4.out.ext x9); have zc := Z9.out.cell; have zf := Z9.out.frozen; clear x9)
    have kb := blk_set6 Z9.out (.int .i64 0) (.int .i64 0) (.string ⟨#[]⟩) (.slice none 0 0) (.slice none 0 0) (.int .i64 0)
    have kc := kb.cell
    refine bodyPost_ret (v := .tuple #[.agg #[.int .i64 0, .int .i64 0, .string ⟨#[]⟩, .slice none 0 0, .slice none 0 0, .int .i64 0], .int .i64 t0.at_, .int .i64 100]) ?_ rfl ⟨_, by rw [hXe], by rw [hXe]; exact ReadAt.zero _ _, ext_set6 X9.out (Nat.le_refl _) _ _ _ _ _ _⟩
    simp [results, Tryz.results14, go_sem, kc]
  | false =>
    have hXf := HRX.out.symm.trans (read_fine HRES.out)
    have hsz := read_sz HRES.out
    have hhd : (q.map TokV.kind).head? = some t0.kind := by rw [HQ.out]; rfl
    rw [hhd, hha] at hXf
    have HCK := fun V (x : Ext W4 V) => Lib.hid (check_any t A3 c3 V _ (T4.out.ext x) (by have := HLK.out.len; omega))
    unfold tmVal at HCK
    clear hha hhd
    by_cases hk6 : t0.kind = 6
    · rw [if_pos (by rw [hk6])] at hXf
      rw [hk6] at HN F0
      obtain ⟨E0, l2, hl0⟩ : ∃ E0 l2, l = E0 :: l2 := by
        obtain ⟨M, E, e, _⟩ := HLK.out.fin
        cases l with
        | nil => simp at e
        | cons a b => exact ⟨a, b, rfl⟩
      have hla : headA l = E0.at_ := by rw [hl0]; rfl
      have htk := tok_cells H4.out.tok (k := 0) (t := E0) (by show l[0]? = some E0; rw [hl0]; rfl)
      obtain ⟨b, off, hA1, _, _, _, d3, _⟩ := htk
      have hA1' : A1 = some ⟨b, off, none⟩ := hA1
      subst hA1'
      have hll : 0 < l.length := by rw [hl0]; simp
      have hll2 : ¬ ((l.length : Int) ≤ 0) := by omega
      have hll3 : (0 : Int) < (l.length : Int) := by omega
      rw [Nat.zero_mul, Nat.add_zero] at d3
      clear hl0 hA1 hk6
      by_cases hck : chkT t = 0
      · rw [if_pos hck] at hXf
        have HXF := Lib.hid hXf
        clear hXf
        rw [hck] at HCK
        obtain ⟨n3, k3, hnv⟩ := own_value H4.out.own
        subst hnv
        have HRD := fun (V : World) (x47 : Ext W4 V) => Lib.hid (ReadAt.put (w := w) (nx := (k : Int)) (T4.out.ext x47) (fun b hb => by have h1 := hb.1; have h2 := hb.2.2.2; have h3 := G4.out; have h4 := x47.size; omega) ((Src.of_own H4.out.own).ext x47) (own_cap H4.out.own) (fun a ha => by
          have h0 : (Value.slice n3 ns.length k3).ownBlock = some a.block := by rw [ha]; rfl
          have h1 := own_lt H4.out.own h0
          have h4 := x47.size
          rcases S3.out.own a.block h0 with h2 | h2
          · simp [Value.ownBlock] at h2
          · omega) (.int .i64 (Tm.k t)) (.int .i64 (Tm.n t)) (.string (Tm.s t)) (.slice A3 (Tm.l t).length c3) (.slice n3 ns.length k3) (.int .i64 (k : Int)))
        go_upto_region 13 with (first
          | (go_at_call 42; refine (HN _ (Ext.refl _)).out.mono ?_; rintro e W5 ⟨rfl, x5⟩; have X5 := Lib.hid x5; have bt5 := (BT.out.ext x5).cell; clear x5)
          | (go_at_call 43; refine (HCK _ X5.out).out.mono ?_; rintro e W6 ⟨rfl, x6⟩; have X6 := Lib.hid (X5.out.trans x6); have bt6 := (BT.out.ext X6.out).cell; have c36 := X6.out.cell c3p; have Z6 := Lib.hid (Z4.out.ext X6.out); have z6c := Z6.out.cell; have z6f := Z6.out.frozen; clear x6))
        clear bt5 c5 c3p
        go_region
        all_goals
          go_wp2_with fail
          have kb := blk_set6 Z6.out (.int .i64 (Tm.k t)) (.int .i64 (Tm.n t)) (.string (Tm.s t)) (.slice A3 (Tm.l t).length c3) (.slice n3 ns.length k3) (.int .i64 (k : Int))
          have kc := (kb.ext (Ext.refl _).drew).cell
          have x47 := X6.out
          have hrd := (HRD _ x47).out
          refine bodyPost_ret (v := .tuple #[rdV t A3 c3 n3 ns.length k3 (k : Int), .int .i64 (k : Int), .int .i64 0]) ?_ rfl (clpost_ok HXF.out (hrd.ext (Ext.refl _).drew) (ext_set6 (X4.out.trans x47) (Nat.le_refl _) _ _ _ _ _ _).drew)
          simp [results, Tryz.results14, go_sem, kc, rdV]
      · rw [if_neg hck, hla] at hXf
        have HXF := Lib.hid hXf
        have ec : (chkT t != 0) = true := by simpa using hck
        clear hXf hck hla
        have hb1 : ¬ b = w.heap.size := by have := G1.out.far b rfl; rw [HSZ.out] at this; omega
        have hb2 : ¬ w.heap.size = b := fun e => hb1 e.symm
        generalize chkT t = ct at *
        go_upto_region 12 with (first
          | (go_at_call 42; refine (HN _ (Ext.refl _)).out.mono ?_; rintro e W5 ⟨rfl, x5⟩; have X5 := Lib.hid x5; have bt5 := (BT.out.ext x5).cell; clear x5)
          | (go_at_call 43; refine (HCK _ X5.out).out.mono ?_; rintro e W6 ⟨rfl, x6⟩; have X6 := Lib.hid (X5.out.trans x6); have d36 := X6.out.cell d3; have Z6 := Lib.hid (Z4.out.ext X6.out); have z6c := Z6.out.cell; have z6f := Z6.out.frozen; clear x6))
        clear bt5 c5 c3p
        go_region
        all_goals
          go_wp2_with fail
          have kb := blk_set6 Z6.out (.int .i64 0) (.int .i64 0) (.string ⟨#[]⟩) (.slice none 0 0) (.slice none 0 0) (.int .i64 0)
          have kc := (kb.ext (Ext.refl _).drew).cell
          refine bodyPost_ret (v := .tuple #[.agg #[.int .i64 0, .int .i64 0, .string ⟨#[]⟩, .slice none 0 0, .slice none 0 0, .int .i64 0], .int .i64 E0.at_, .int .i64 ct]) ?_ rfl ⟨_, by rw [HXF.out], by rw [HXF.out]; exact ReadAt.zero _ _, (ext_set6 (X4.out.trans X6.out) (Nat.le_refl _) _ _ _ _ _ _).drew⟩
          simp [results, Tryz.results14, go_sem, kc]
    · rw [if_neg (by simpa using hk6)] at hXf
      have e6 : (t0.kind != 6) = true := by simpa using hk6
      have HXF := Lib.hid hXf
      clear hXf hk6
      go_upto_region 9 with (go_at_call 42; refine (HN _ (Ext.refl _)).out.mono ?_; rintro e W5 ⟨rfl, x5⟩; have X5 := Lib.hid x5; clear x5)
      go_wp2_with (go_at_call 42; refine (HN _ X5.out).out.mono ?_; rintro e W9 ⟨rfl, x9⟩; have X9 := Lib.hid (X4.out.trans (X5.out.trans x9)); have Z9 := Lib.hid (Z4.out.ext (X5.out.trans x9)); have zc := Z9.out.cell; have zf := Z9.out.frozen; clear x9)
      have kb := blk_set6 Z9.out (.int .i64 0) (.int .i64 0) (.string ⟨#[]⟩) (.slice none 0 0) (.slice none 0 0) (.int .i64 0)
      have kc := kb.cell
      refine bodyPost_ret (v := .tuple #[.agg #[.int .i64 0, .int .i64 0, .string ⟨#[]⟩, .slice none 0 0, .slice none 0 0, .int .i64 0], .int .i64 t0.at_, .int .i64 100]) ?_ rfl ⟨_, by rw [HXF.out], by rw [HXF.out]; exact ReadAt.zero _ _, ext_set6 X9.out (Nat.le_refl _) _ _ _ _ _ _⟩
      simp [results, Tryz.results14, go_sem, kc]
end Go.Proofs.YtgcdhffeacdegaaGreatDoor

/- Layer 10, the program: Clause, whole. -/
namespace Go.Proofs.YtgcdhffeacdegaaGreatDoor
open Go.RowKit Go.El

theorem ctoksN_err : ∀ (n : Nat) {B : List UInt8} {i : Nat} {acc : List TokV} {k : Nat} {x : Int}, ctoksN n B i acc = .error (k, x) → x ≠ 0
  | 0, _, _, _, _, _, h => by
    simp only [ctoksN] at h
    injection h with h
    injection h with _ h
    rw [← h]
    decide
  | n + 1, B, i, acc, k, x, h => by
    simp only [ctoksN] at h
    cases hs : scanS B i with
    | mk t r =>
      obtain ⟨j, y⟩ := r
      rw [hs] at h
      simp only at h
      split at h
      · injection h with h
        injection h with _ h
        rw [← h]
        decide
      · split at h
        · next hy =>
          injection h with h
          injection h with _ h
          rw [← h]
          exact hy
        · split at h
          · cases h
          · exact ctoksN_err n h
theorem pClause_any {A : Option Addr} {cap : Nat} {B : List UInt8} {i tb : Nat} {w : World} (h : BytesAt w A B) (hi : i ≤ B.length) (hB : B.length ≤ 65536) (hcap : B.length ≤ cap) (g : Glob w) {I Q : List OpV} (ho : OpsOk w tb I Q) :
    Calls Tryz.prog 14 #[.slice A B.length cap, .int .i64 (i : Int), .pointer (some ⟨tb, 0, none⟩)] w (ClPost w (clauseS ⟨fun s => findO s I, fun s => findO s Q⟩ B i)) := by
  unfold clauseS
  cases hx : ctoks B i with
  | error p =>
    obtain ⟨k, x⟩ := p
    exact pClause_err h hi hB hcap g hx (ctoksN_err _ hx)
  | ok p =>
    obtain ⟨l, k⟩ := p
    exact pClause_ok h hi hB hcap g ho hx
end Go.Proofs.YtgcdhffeacdegaaGreatDoor

/- Layer 10, plain: all clauses of a text. -/
namespace Go.El

theorem ctoksN_err : ∀ (n : Nat) {B : List UInt8} {i : Nat} {acc : List TokV} {k : Nat} {x : Int}, ctoksN n B i acc = .error (k, x) → x ≠ 0
  | 0, _, _, _, _, _, h => by
    simp only [ctoksN] at h
    injection h with h
    injection h with _ h
    rw [← h]
    decide
  | n + 1, B, i, acc, k, x, h => by
    simp only [ctoksN] at h
    cases hs : scanS B i with
    | mk t r =>
      obtain ⟨j, y⟩ := r
      rw [hs] at h
      simp only at h
      split at h
      · injection h with h
        injection h with _ h
        rw [← h]
        decide
      · split at h
        · next hy =>
          injection h with h
          injection h with _ h
          rw [← h]
          exact hy
        · split at h
          · cases h
          · exact ctoksN_err n h
/-- What a clause comes to, where it is read. -/
theorem clauseS_ok {O : Ops} {B : List UInt8} {i : Nat} (hi : i ≤ B.length) (hB : B.length ≤ 65536) (h : (clauseS O B i).2.2 = 0) : ∃ k : Nat, (clauseS O B i).2.1 = k ∧ i < k ∧ k ≤ B.length := by
  unfold clauseS at h ⊢
  cases hx : ctoks B i with
  | error p =>
    obtain ⟨k, x⟩ := p
    rw [hx] at h
    simp only at h ⊢
    exact absurd h (ctoksN_err _ hx)
  | ok p =>
    obtain ⟨l, k⟩ := p
    obtain ⟨_, h1, h2⟩ := ctoks_ok hi hB hx
    rw [hx] at h
    simp only at h ⊢
    refine ⟨k, ?_, h2, h1⟩
    unfold readT at h ⊢
    cases ht : termN O (5 * l.length + 5) 1200 l [] with
    | bad q => rw [ht] at h; simp at h
    | ok t q ns =>
      rw [ht] at h
      simp only at h ⊢
      split
      · next h6 =>
        rw [if_pos h6] at h
        split
        · rfl
        · next hc =>
          rw [if_neg hc] at h
          exact absurd h hc
      · next h6 =>
        rw [if_neg h6] at h
        simp at h
/-- All clauses from a place on. -/
def allRN (O : Ops) : Nat → List UInt8 → Nat → List ReadV → List ReadV × Int × Int
  | 0, _, i, acc => (acc, i, 0)
  | n + 1, B, i, acc =>
    if (clauseS O B i).2.2 = 0 then allRN O n B (clauseS O B i).2.1.toNat (acc ++ [(clauseS O B i).1])
    else if (clauseS O B i).2.2 = 4 then (acc, (clauseS O B i).2.1, 0)
    else (acc, (clauseS O B i).2.1, (clauseS O B i).2.2)
def allR (O : Ops) (B : List UInt8) : List ReadV × Int × Int := allRN O (B.length + 1) B 0 []
end Go.El

/- Layer 10, the program: a row of readings that grows. -/
namespace Go.Proofs.YtgcdhffeacdegaaGreatDoor
open Go.RowKit Go.El

/-- A reading and where its parts lie. -/
abbrev RdP := ReadV × Option Addr × Nat × Option Addr × Nat
def rdC (p : RdP) : List Value := [.int .i64 (Tm.k p.1.t), .int .i64 (Tm.n p.1.t), .string (Tm.s p.1.t), .slice p.2.1 (Tm.l p.1.t).length p.2.2.1, .slice p.2.2.2.1 p.1.ns.length p.2.2.2.2, .int .i64 p.1.nx]
theorem rdC_len (p : RdP) : (rdC p).length = 6 := rfl
theorem rdC_one (p : RdP) : ∀ u ∈ rdC p, u.oneCell' = true := by
  intro u hu
  simp only [rdC, List.mem_cons, List.not_mem_nil, or_false] at hu
  rcases hu with rfl | rfl | rfl | rfl | rfl | rfl <;> rfl
theorem rdInfo : (Tryz.prog.info? 35).map (fun i => (i.zero, i.size, i.bytes)) = some (some (.agg #[.int .i64 0, .int .i64 0, .string ⟨#[]⟩, .slice none 0 0, .slice none 0 0, .int .i64 0]), 6, 88) := by kernel_rfl
/-- One reading's parts, in blocks D. -/
structure RdIn (D : Nat → Prop) (w : World) (p : RdP) : Prop where
  tm : TmIn D w p.1.t p.2.1 p.2.2.1
  ns : El.Src w p.2.2.2.1 p.1.ns.length 1 (p.1.ns.map Value.string)
  cap : p.1.ns.length ≤ p.2.2.2.2
  blk : ∀ a, p.2.2.2.1 = some a → D a.block
theorem RdIn.mods {D D' : Nat → Prop} {S : List Nat} {w w' : World} (hm : Mods S w w') (hS : ∀ k, D k → k ∉ S) (hD : ∀ k, D k → D' k) {p : RdP} (h : RdIn D w p) : RdIn D' w' p :=
  ⟨TmIn.mods hm hS hD h.tm, h.ns.mods hm (fun a ha => hS _ (h.blk a ha)), h.cap, fun a ha => hD _ (h.blk a ha)⟩
/-- A row of readings that the call has gathered since X. -/
structure RdsAt (X W : World) (v : Value) (M : List RdP) : Prop where
  own : W.ownsRow 0 35 6 v M.length (flat rdC M)
  kid : ∀ p ∈ M, RdIn (fun k => X.heap.size ≤ k ∧ k < W.heap.size ∧ v.ownBlock ≠ some k) W p
  far : ∀ k, v.ownBlock = some k → X.heap.size ≤ k
  ext : Ext X W
theorem RdsAt.start (X : World) : RdsAt X X (.slice none 0 0) [] := ⟨World.ownsRow_nil _ _ _ _, fun p hp => by simp at hp, fun k hk => by simp [Value.ownBlock] at hk, Ext.refl _⟩
theorem RdsAt.go {X W V : World} {v : Value} {M : List RdP} (h : RdsAt X W v M) (x : Ext W V) : RdsAt X V v M :=
  ⟨own_ext h.own x, fun p hp => RdIn.mods (Mods.ext (S := []) x) (fun _ _ => by simp) (fun _ hk => ⟨hk.1, Nat.lt_of_lt_of_le hk.2.1 x.size, hk.2.2⟩) (h.kid p hp), h.far, h.ext.trans x⟩
/-- One more. -/
theorem RdsAt.push {X W V W' : World} {v v' : Value} {M : List RdP} {p : RdP} (h : RdsAt X W v M) (hp : RdIn (fun k => X.heap.size ≤ k ∧ k < W.heap.size ∧ v.ownBlock ≠ some k) W p) (x : Ext W V)
    (ho : W'.ownsRow 0 35 6 v' (M.length + 1) (flat rdC M ++ rdC p)) (hm : Mods (ownL v) V W') (hb : v'.ownBlock = v.ownBlock ∨ v'.ownBlock = some V.heap.size) : RdsAt X W' v' (M ++ [p]) := by
  have hX : Mods (ownL v) W W' := (Mods.ext x).trans hm
  have hno : ∀ k, (X.heap.size ≤ k ∧ k < W.heap.size ∧ v.ownBlock ≠ some k) → k ∉ ownL v := fun k hk hm => hk.2.2 (by simpa [ownL] using hm)
  have hD : ∀ k, (X.heap.size ≤ k ∧ k < W.heap.size ∧ v.ownBlock ≠ some k) → (X.heap.size ≤ k ∧ k < W'.heap.size ∧ v'.ownBlock ≠ some k) := fun k hk => by
    refine ⟨hk.1, Nat.lt_of_lt_of_le hk.2.1 hX.size, fun e => ?_⟩
    rcases hb with e2 | e2
    · exact hk.2.2 (e2.symm.trans e)
    · rw [e2] at e
      injection e with e
      have := x.size
      omega
  refine ⟨by simpa [flat_append, flat] using ho, fun r hr => ?_, fun k hk => ?_, ext_mods h.ext hX (fun k hk => h.far k (by simpa [ownL] using hk))⟩
  · rcases List.mem_append.1 hr with hr | hr
    · exact RdIn.mods hX hno hD (h.kid r hr)
    · simp at hr
      subst hr
      exact RdIn.mods hX hno hD hp
  · rcases hb with e | e
    · exact h.far k (e ▸ hk)
    · rw [e] at hk
      injection hk with hk
      subst hk
      exact Nat.le_trans h.ext.size x.size
end Go.Proofs.YtgcdhffeacdegaaGreatDoor
