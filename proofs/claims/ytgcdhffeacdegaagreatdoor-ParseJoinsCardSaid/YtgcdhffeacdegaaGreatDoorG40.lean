/- Layer 10, the program: the walk of tokens. -/
import Derived.Test.YtgcdhffeacdegaaGreatDoorG32
import Derived.Test.YtgcdhffeacdegaaGreatDoorG33
import Derived.Test.YtgcdhffeacdegaaGreatDoorG39
namespace Go.Proofs.YtgcdhffeacdegaaGreatDoor
open Go.RowKit Go.El

/-- What tokens leaves. -/
def TokPost (w : World) (x : Except (Nat × Int) (List TokV × Nat)) (e : Ending) (w' : World) : Prop := match x with
  | .error (k, y) => e = .returned (.tuple #[.slice none 0 0, .int .i64 (k : Int), .int .i64 y]) ∧ Ext w w'
  | .ok (l, k) => ∃ v, e = .returned (.tuple #[v, .int .i64 (k : Int), .int .i64 0]) ∧ GathT w w' v l
theorem ctoks_step {B : List UInt8} {k : Nat} {acc : List TokV} {X : Except (Nat × Int) (List TokV × Nat)} (hk : k ≤ B.length) (h : ctoksN (B.length + 1 - k) B k acc = X) {t : TokV} {e : Nat} {x : Int} (hs : scanS B k = (t, e, x)) :
    X = if x = 4 ∧ acc ≠ [] then .error (e, 101) else if x ≠ 0 then .error (e, x) else if t.kind = 6 then .ok (acc ++ [t], e) else ctoksN (B.length + 1 - e) B e (acc ++ [t]) := by
  obtain ⟨n, hn⟩ : ∃ n, B.length + 1 - k = n + 1 := ⟨B.length - k, by omega⟩
  rw [hn] at h
  simp only [ctoksN] at h
  rw [hs] at h
  simp only at h
  rw [← h]
  split
  · rfl
  · split
    · rfl
    · next hx =>
      have hx0 : x = 0 := Decidable.byContradiction fun hne => hx hne
      subst hx0
      have hst := scanS_step (B := B) (i := k) (by rw [hs])
      rw [hs] at hst
      simp only at hst
      split
      · rfl
      · exact ctoksN_more _ _ B e _ hst.2 (Nat.le_refl _) (by omega)

set_option maxRecDepth 100000 in
set_option maxHeartbeats 4000000 in
theorem pTokens {A : Option Addr} {cap : Nat} {B : List UInt8} {i : Nat} {w : World} (h : BytesAt w A B) (hi : i ≤ B.length) (hB : B.length ≤ 65536) (hcap : B.length ≤ cap) (g : Glob w) :
    Calls Tryz.prog 40 #[.slice A B.length cap, .int .i64 (i : Int)] w (TokPost w (ctoks B i)) := by
  obtain ⟨i1, hi1, hz0, hz1, hz2⟩ := infoP tokInfo
  have H := Lib.hid h
  have G := Lib.hid g
  obtain ⟨X, hX⟩ : ∃ X, ctoks B i = X := ⟨_, rfl⟩
  rw [hX]
  have HX : Hid (ctoksN (B.length + 1 - i) B i [] = X) := Lib.hid hX
  clear h g hX
  go_enter Tryz.func40, Tryz.ntmps40
  go_wp2_with fail
  go_loopw [1, 7] (fun i v wr => ∃ k : Nat, ∃ acc : List TokV, k ≤ B.length ∧ acc.length ≤ k ∧ i = .int .i64 k ∧ Hid (GathT w wr v acc) ∧ Hid (ctoksN (B.length + 1 - k) B k acc = X)) (fun i _ _ => B.length - (intOf i).toNat)
  case atStart => exact ⟨i, [], hi, Nat.zero_le _, rfl, GathT.start w, HX⟩
  case round =>
    obtain ⟨k, acc, hk, hak, rfl, HG, HS⟩ := hrel
    obtain ⟨A1, c1, rfl⟩ := own_value HG.out.own
    have h5 := scanS_err5 B k
    have hst := scanS_step (B := B) (i := k)
    have hle := scanS_le hk
    cases hsc : scanS B k with
    | mk t r =>
      obtain ⟨e, x⟩ := r
      have HC := Lib.hid (pScan_at hsc A cap wr (H.out.ext HG.out.ext) hk hB hcap (G.out.ext HG.out.ext))
      have HXS := Lib.hid (ctoks_step hk HS.out hsc)
      rw [hsc] at h5 hst hle
      simp only at h5 hst hle
      clear hsc
      rcases h5 with rfl | rfl | rfl | rfl | rfl
      · obtain ⟨he1, he2⟩ := hst rfl
        clear hst
        have hX2 : X = if t.kind = 6 then .ok (acc ++ [t], e) else ctoksN (B.length + 1 - e) B e (acc ++ [t]) := HXS.out.trans ((if_neg (fun h => absurd h.1 (by decide))).trans (if_neg (by decide)))
        by_cases hk6 : t.kind = 6
        · rw [if_pos hk6] at hX2
          subst hX2
          have HK6 := Lib.hid hk6
          have e6 : (t.kind == 6) = true := by simpa using hk6
          clear hk6
          go_wp2_with (first | (go_at_call 63; refine HC.out.mono ?_; rintro e1 w' ⟨rfl, hx⟩; have kx := Lib.hid hx; clear hx) | (at_builtin; refine wpList_append_src (P := Tryz.prog) rfl _ _ 51 rfl 55 i1 _ 5 48 Tryz.underlying51 hi1 hz0 hz1 hz2 rfl (by omega) _ rfl _ _ _ rfl acc.length (flat tokCells acc) (own_ext HG.out.own ((kx.out.alloc _).alloc _)) (tokCells t) (src_new2 _ _ t) (tokCells_one t) (by unfold maxLen; omega) (by omega) ?_; intro v3 w3 ho3 hm3 hb3; have hG3 := Lib.hid (GathT.step HG.out ((kx.out.alloc _).alloc _) ho3 hm3 hb3); obtain ⟨A3, c3, rfl⟩ := own_value ho3; have kt := (((Blk.new w' 55 #[.int .i64 t.kind, .string t.s, .int .i64 t.n, .int .i64 t.at_, .bool t.lay]).ext (ext_box4 _ (.cells #[.int .i64 t.kind, .string t.s, .int .i64 t.n, .int .i64 t.at_, .bool t.lay] 55))).mods hm3 (fun hm => by have := own_lt HG.out.own (mem_ownL hm); have := kx.out.size; omega)).cell; clear ho3 hm3 hb3))
          go_ret3
          exact ⟨_, rfl, by have := hG3.out; simpa using this⟩
        · rw [if_neg hk6] at hX2
          have HX2 := Lib.hid hX2
          have e6 : (t.kind == 6) = false := by simpa using hk6
          clear hX2 hk6
          go_wp2_with (first | (go_at_call 63; refine HC.out.mono ?_; rintro e1 w' ⟨rfl, hx⟩; have kx := Lib.hid hx; clear hx) | (at_builtin; refine wpList_append_src (P := Tryz.prog) rfl _ _ 51 rfl 55 i1 _ 5 48 Tryz.underlying51 hi1 hz0 hz1 hz2 rfl (by omega) _ rfl _ _ _ rfl acc.length (flat tokCells acc) (own_ext HG.out.own ((kx.out.alloc _).alloc _)) (tokCells t) (src_new2 _ _ t) (tokCells_one t) (by unfold maxLen; omega) (by omega) ?_; intro v3 w3 ho3 hm3 hb3; have hG3 := Lib.hid (GathT.step HG.out ((kx.out.alloc _).alloc _) ho3 hm3 hb3); obtain ⟨A3, c3, rfl⟩ := own_value ho3; have kt := (((Blk.new w' 55 #[.int .i64 t.kind, .string t.s, .int .i64 t.n, .int .i64 t.at_, .bool t.lay]).ext (ext_box4 _ (.cells #[.int .i64 t.kind, .string t.s, .int .i64 t.n, .int .i64 t.at_, .bool t.lay] 55))).mods hm3 (fun hm => by have := own_lt HG.out.own (mem_ownL hm); have := kx.out.size; omega)).cell; clear ho3 hm3 hb3))
          go_roundw
          case rel => exact ⟨e, acc ++ [t], he2, by simp; omega, rfl, by have := hG3.out; simpa using Lib.hid this, Lib.hid HX2.out.symm⟩
          case measure => simp [intOf]; omega
      · have hX2 : X = .error (e, 3) := HXS.out.trans ((if_neg (fun h => absurd h.1 (by decide))).trans (if_pos (by decide)))
        clear hst
        subst hX2
        go_wp2_with (go_at_call 63; refine HC.out.mono ?_; rintro e1 w' ⟨rfl, hx⟩; have kx := Lib.hid hx; clear hx)
        go_ret3
        exact ⟨rfl, (HG.out.ext.trans kx.out).alloc _⟩
      · clear hst
        cases acc with
        | nil =>
          have hX2 : X = .error (e, 4) := HXS.out.trans ((if_neg (fun h => h.2 rfl)).trans (if_pos (by decide)))
          subst hX2
          go_wp2_with (go_at_call 63; refine HC.out.mono ?_; rintro e1 w' ⟨rfl, hx⟩; have kx := Lib.hid hx; clear hx)
          go_ret3
          exact ⟨rfl, (HG.out.ext.trans kx.out).alloc _⟩
        | cons a0 acc0 =>
          have hX2 : X = .error (e, 101) := HXS.out.trans (if_pos ⟨rfl, by simp⟩)
          subst hX2
          go_wp2_with (go_at_call 63; refine HC.out.mono ?_; rintro e1 w' ⟨rfl, hx⟩; have kx := Lib.hid hx; clear hx)
          go_ret3
          exact ⟨rfl, (HG.out.ext.trans kx.out).alloc _⟩
      · have hX2 : X = .error (e, 80) := HXS.out.trans ((if_neg (fun h => absurd h.1 (by decide))).trans (if_pos (by decide)))
        clear hst
        subst hX2
        go_wp2_with (go_at_call 63; refine HC.out.mono ?_; rintro e1 w' ⟨rfl, hx⟩; have kx := Lib.hid hx; clear hx)
        go_ret3
        exact ⟨rfl, (HG.out.ext.trans kx.out).alloc _⟩
      · have hX2 : X = .error (e, 81) := HXS.out.trans ((if_neg (fun h => absurd h.1 (by decide))).trans (if_pos (by decide)))
        clear hst
        subst hX2
        go_wp2_with (go_at_call 63; refine HC.out.mono ?_; rintro e1 w' ⟨rfl, hx⟩; have kx := Lib.hid hx; clear hx)
        go_ret3
        exact ⟨rfl, (HG.out.ext.trans kx.out).alloc _⟩
end Go.Proofs.YtgcdhffeacdegaaGreatDoor

/- Layer 10, the program: a new parser; the walk of Clause. -/
namespace Go.Proofs.YtgcdhffeacdegaaGreatDoor
open Go.RowKit Go.El

/-- What Clause stands on: a table of operators. -/
structure OpsOk (w : World) (tb : Nat) (I Q : List OpV) : Prop where
  tab : ∃ m1 m2, TabAt w tb m1 m2 I Q
  bnd : ∀ p : OpV, p ∈ I ∨ p ∈ Q → -1000000 ≤ p.p ∧ p.p ≤ 1000000
  typ : TypesAt 0 w
theorem OpsOk.ext {w w' : World} {tb : Nat} {I Q : List OpV} (h : OpsOk w tb I Q) (x : Ext w w') : OpsOk w' tb I Q := ⟨h.tab.imp fun _ k => k.imp fun _ k => k.ext x, h.bnd, h.typ.ext x⟩
def newF (W : World) (A : Option Addr) (c : Nat) (L : List TokV) (I Q : List OpV) (tb : Nat) : PF := ⟨W.heap.size + 1, W.heap.size, A, c, L, I, Q, tb⟩
def newP (W : World) (A : Option Addr) (c n tb : Nat) : Array Value := #[.slice A n c, .int .i64 0, .pointer (some ⟨tb, 0, none⟩), .slice none 0 0, .map (some W.heap.size), .bool false]
def newW (W : World) (A : Option Addr) (c n tb : Nat) : World := (W.alloc (.map #[] 0)).alloc (.cells (newP W A c n tb) 81)
theorem newW_ext (W : World) (A : Option Addr) (c n tb : Nat) : Ext W (newW W A c n tb) := ((Ext.refl W).alloc _).alloc _
theorem PaAt.start {X W : World} {A : Option Addr} {c : Nat} {L : List TokV} {I Q : List OpV} {tb : Nat} (hg : GathT X W (.slice A L.length c) L) (hL : ToksOk L) (ho : OpsOk W tb I Q) :
    PaAt (newF W A c L I Q tb) (newW W A c L.length tb) L (.slice none 0 0) [] false := by
  have hx := newW_ext W A c L.length tb
  have hsz : (newW W A c L.length tb).heap.size = W.heap.size + 2 := by simp [newW]
  obtain ⟨m1, m2, ht⟩ := ho.tab
  have hclr : ∀ k, k < W.heap.size → Clr2 (newF W A c L I Q tb).S (.slice none 0 0) (newW W A c L.length tb) k := fun k hk =>
    ⟨by simp [PF.S, newF]; omega, by simp [Value.ownBlock], by rw [hsz]; omega⟩
  have hne : L ≠ [] := by
    obtain ⟨M, E, e, _⟩ := hL.fin
    simp [e]
  have hbk : Blk (newW W A c L.length tb) (W.heap.size + 1) 81 (newP W A c L.length tb) := by
    have := Blk.new (W.alloc (.map #[] 0)) 81 (newP W A c L.length tb)
    rw [World.size_alloc] at this
    exact this
  have hpl : plI L L = 0 := by simp [plI]
  have hA : ∀ a, A = some a → a.block < W.heap.size := fun a ha => own_lt hg.own (by rw [ha]; rfl)
  refine ⟨?_, World.ownsRow_nil _ _ _ _, ⟨[], (MapAt.new _ W).ext ((Ext.refl _).alloc _), fun s _ => rfl⟩, (Src.of_own hg.own).ext hx, hL, List.suffix_rfl, hne, ⟨m1, m2, ht.ext hx, hclr _ (cell_lt ht.c0), hclr _ ht.mi.lt, hclr _ ht.mq.lt⟩, ho.bnd, ho.typ.ext hx, hclr _ (cell_lt ho.typ.h0), fun a ha => hclr _ (hA a ha), by simp [newF], by simp [Value.ownBlock], by simp [Value.ownBlock], by simp [newF], own_cap hg.own⟩
  show Blk _ _ _ (paA (newF W A c L I Q tb) L (.slice none 0 0) false)
  unfold paA
  simp only [newF, hpl]
  exact hbk
end Go.Proofs.YtgcdhffeacdegaaGreatDoor

/- Layer 10, the program: the walk of Clause. -/
namespace Go.Proofs.YtgcdhffeacdegaaGreatDoor
open Go.RowKit Go.El

theorem zeroRead (W : World) : (zeroValue 35).run Tryz.prog W = .ok (.agg #[.int .i64 0, .int .i64 0, .string ⟨#[]⟩, .slice none 0 0, .slice none 0 0, .int .i64 0]) W := by kernel_rfl
theorem blk_set6 {w : World} {g : Nat} {t : TypeId} {a b c d e f : Value} (h : Blk w g t #[a, b, c, d, e, f]) (a' b' c' d' e' f' : Value) : Blk ((((((w.setCell ⟨g, 0, none⟩ a').setCell ⟨g, 1, none⟩ b').setCell ⟨g, 2, none⟩ c').setCell ⟨g, 3, none⟩ d').setCell ⟨g, 4, none⟩ e').setCell ⟨g, 5, none⟩ f') g t #[a', b', c', d', e', f'] := (((((h.set_ 0 a').set_ 1 b').set_ 2 c').set_ 3 d').set_ 4 e').set_ 5 f'
theorem ext_set6 {w w' : World} (h : Ext w w') {g : Nat} (hg : w.heap.size ≤ g) (a' b' c' d' e' f' : Value) : Ext w ((((((w'.setCell ⟨g, 0, none⟩ a').setCell ⟨g, 1, none⟩ b').setCell ⟨g, 2, none⟩ c').setCell ⟨g, 3, none⟩ d').setCell ⟨g, 4, none⟩ e').setCell ⟨g, 5, none⟩ f') := (((((h.setCell (p := ⟨g, 0, none⟩) hg a').setCell (p := ⟨g, 1, none⟩) hg b').setCell (p := ⟨g, 2, none⟩) hg c').setCell (p := ⟨g, 3, none⟩) hg d').setCell (p := ⟨g, 4, none⟩) hg e').setCell (p := ⟨g, 5, none⟩) hg f'
/-- A reading's value. -/
def rdV (t : Tm) (A : Option Addr) (c : Nat) (n : Option Addr) (m k : Nat) (nx : Int) : Value := .agg #[.int .i64 (Tm.k t), .int .i64 (Tm.n t), .string (Tm.s t), .slice A (Tm.l t).length c, .slice n m k, .int .i64 nx]
/-- .. in memory. -/
def ReadAt (X w : World) (v : Value) (r : ReadV) : Prop := ∃ A c n k, v = rdV r.t A c n r.ns.length k r.nx ∧ TmIn (fun b => X.heap.size ≤ b ∧ b < w.heap.size) w r.t A c ∧ El.Src w n r.ns.length 1 (r.ns.map Value.string) ∧ r.ns.length ≤ k ∧ ∀ a, n = some a → X.heap.size ≤ a.block ∧ a.block < w.heap.size
theorem ReadAt.zero (X w : World) : ReadAt X w (.agg #[.int .i64 0, .int .i64 0, .string ⟨#[]⟩, .slice none 0 0, .slice none 0 0, .int .i64 0]) zeroR :=
  ⟨none, 0, none, 0, rfl, TmsIn.nil _ _ _ _, ⟨rfl, fun h => absurd h (Nat.lt_irrefl 0)⟩, Nat.le_refl _, fun _ h => by cases h⟩
/-- What Clause leaves. -/
def ClPost (w : World) (x : ReadV × Int × Int) (e : Ending) (w' : World) : Prop := ∃ v, e = .returned (.tuple #[v, .int .i64 x.2.1, .int .i64 x.2.2]) ∧ ReadAt w w' v x.1 ∧ Ext w w'

set_option maxRecDepth 100000 in
set_option maxHeartbeats 4000000 in
theorem pClause_err {A : Option Addr} {cap : Nat} {B : List UInt8} {i tb : Nat} {w : World} (h : BytesAt w A B) (hi : i ≤ B.length) (hB : B.length ≤ 65536) (hcap : B.length ≤ cap) (g : Glob w) {k : Nat} {x : Int} (hx : ctoks B i = .error (k, x)) (hx0 : x ≠ 0) :
    Calls Tryz.prog 14 #[.slice A B.length cap, .int .i64 (i : Int), .pointer (some ⟨tb, 0, none⟩)] w (ClPost w (zeroR, k, x)) := by
  have hxx := ext_box4 w (.cells #[.int .i64 0, .int .i64 0, .string ⟨#[]⟩, .slice none 0 0, .slice none 0 0, .int .i64 0] 35)
  have HT := Lib.hid (pTokens (h.ext hxx) hi hB hcap (g.ext hxx))
  rw [hx] at HT
  have HX := Lib.hid hxx
  have HZ := Lib.hid (Blk.new w 35 #[.int .i64 0, .int .i64 0, .string ⟨#[]⟩, .slice none 0 0, .slice none 0 0, .int .i64 0])
  have e0 : (x != 0) = true := by simpa using hx0
  have hzr := zeroRead
  clear h hx hxx hx0 g
  go_enter Tryz.func14, Tryz.ntmps14
  go_upto_region 5 with (go_at_call 40; refine HT.out.mono ?_; rintro e W1 ⟨rfl, x1⟩; have X1 := Lib.hid (HX.out.trans x1); have Z1 := Lib.hid (HZ.out.ext x1); have zc := (HZ.out.ext x1).cell; have zf := (HZ.out.ext x1).frozen; clear x1)
  go_wp2_with fail
  have kb := blk_set6 Z1.out (.int .i64 0) (.int .i64 0) (.string ⟨#[]⟩) (.slice none 0 0) (.slice none 0 0) (.int .i64 0)
  have kc := kb.cell
  refine bodyPost_ret (v := .tuple #[.agg #[.int .i64 0, .int .i64 0, .string ⟨#[]⟩, .slice none 0 0, .slice none 0 0, .int .i64 0], .int .i64 k, .int .i64 x]) ?_ rfl ⟨_, rfl, ReadAt.zero _ _, ext_set6 X1.out (Nat.le_refl _) _ _ _ _ _ _⟩
  simp [results, Tryz.results14, go_sem, kc]
end Go.Proofs.YtgcdhffeacdegaaGreatDoor
