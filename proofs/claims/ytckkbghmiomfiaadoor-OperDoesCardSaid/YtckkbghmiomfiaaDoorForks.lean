/- OperForks: what is set in a table changes nothing in one that was forked from it, nor the other way round. -/
import Derived.Test.YtckkbghmiomfiaaDoorLives
import Derived.Test.YtckkbghmiomfiaaDoorInv
namespace Go.Proofs.YtckkbghmiomfiaaDoor
open Go.RowKit Go.El Go.Proofs

theorem inv_init : Inv initI initQ := ⟨by decide +kernel, by decide +kernel, by decide +kernel, by decide +kernel, by decide +kernel⟩

/-- Two tables side by side. -/
structure FkAt (w W : World) (tb m1 m2 fb n1 n2 : Nat) (I Q I' Q' : List OpV) : Prop where
  ext : Ext w W
  types : TypesAt 0 W
  t : TabAt W tb m1 m2 I Q
  f : TabAt W fb n1 n2 I' Q'
  it : Inv I Q
  jt : Inv I' Q'
  b1 : w.heap.size ≤ m1
  b2 : w.heap.size ≤ m2
  b3 : w.heap.size ≤ n1
  b4 : w.heap.size ≤ n2
  ne : m1 ≠ n1 ∧ m1 ≠ n2 ∧ m2 ≠ n1 ∧ m2 ≠ n2
theorem FkAt.go {w W W' : World} {tb m1 m2 fb n1 n2 : Nat} {I Q I' Q' : List OpV} (h : FkAt w W tb m1 m2 fb n1 n2 I Q I' Q') (k : Ext W W') : FkAt w W' tb m1 m2 fb n1 n2 I Q I' Q' :=
  ⟨h.ext.trans k, h.types.ext k, h.t.ext k, h.f.ext k, h.it, h.jt, h.b1, h.b2, h.b3, h.b4, h.ne⟩
theorem FkAt.swap {w W : World} {tb m1 m2 fb n1 n2 : Nat} {I Q I' Q' : List OpV} (h : FkAt w W tb m1 m2 fb n1 n2 I Q I' Q') : FkAt w W fb n1 n2 tb m1 m2 I' Q' I Q :=
  ⟨h.ext, h.types, h.f, h.t, h.jt, h.it, h.b3, h.b4, h.b1, h.b2, h.ne.1.symm, h.ne.2.2.1.symm, h.ne.2.1.symm, h.ne.2.2.2.symm⟩
theorem FkAt.setF {w W W' : World} {tb m1 m2 fb n1 n2 : Nat} {I Q I' Q' : List OpV} (h : FkAt w W tb m1 m2 fb n1 n2 I Q I' Q') (o : OpV) (k : Mods [n1, n2] W W') (t : TabAt W' fb n1 n2 (nextI o I' Q') (nextQ o I' Q')) : FkAt w W' tb m1 m2 fb n1 n2 I Q (nextI o I' Q') (nextQ o I' Q') :=
  ⟨(Mods.step (S := []) (Mods.ext h.ext) k (fun x hx => .inr (by
      simp at hx
      rcases hx with rfl | rfl
      · exact h.b3
      · exact h.b4))).toExt (by simp),
    h.types.mods k (by
      have n1 := types_ne h.types h.f.mi
      have n2 := types_ne h.types h.f.mq
      simp [n1, n2]),
    h.t.mods k (by
      have n1 := h.f.mi.ne_cell h.t.c0
      have n2 := h.f.mq.ne_cell h.t.c0
      simp [n1, n2]) (by simp [h.ne.1, h.ne.2.1]) (by simp [h.ne.2.2.1, h.ne.2.2.2]), t, h.it, h.jt.next o, h.b1, h.b2, h.b3, h.b4, h.ne⟩
theorem FkAt.kept {w W W' : World} {tb m1 m2 fb n1 n2 : Nat} {I Q I' Q' : List OpV} (h : FkAt w W tb m1 m2 fb n1 n2 I Q I' Q') (k : Mods [n1, n2] W W') : Kept W W' := kept_set h.f k

/-- A slice that reads as these operators still does where all cells are as they were. -/
theorem src_kept {w w' : World} {A : Option Addr} {m k : Nat} {xs : List Value} (h : El.Src w A m k xs) (he : Kept w w') : El.Src w' A m k xs :=
  ⟨h.1, fun hm => let ⟨a, ha, hc⟩ := h.2 hm; ⟨a, ha, fun j u hu => he.cell (hc j u hu)⟩⟩
theorem Kept.ext {w w' : World} (h : Ext w w') : Kept w w' := ⟨fun hc => h.cell hc⟩
theorem Kept.trans {a b c : World} (h : Kept a b) (k : Kept b c) : Kept a c := ⟨fun hc => k.cell (h.cell hc)⟩
theorem Kept.refl (a : World) : Kept a a := ⟨fun hc => hc⟩
theorem sliceO_kept {w w' : World} {v : Value} {L : List OpV} (h : SliceO w v L) (he : Kept w w') : SliceO w' v L := by
  obtain ⟨A, c, hv, hs⟩ := h
  exact ⟨A, c, hv, src_kept hs he⟩

theorem fkFork {w W : World} {tb m1 m2 : Nat} (h : LvAt w W tb m1 m2 initI initQ) :
    Calls Tryd.prog 27 #[.pointer (some ⟨tb, 0, none⟩)] W fun e w' => ∃ fb n1 n2, e = .returned (.pointer (some ⟨fb, 0, none⟩)) ∧ FkAt w w' tb m1 m2 fb n1 n2 initI initQ initI initQ :=
  (pFork_any tb m1 m2 initI initQ W h.tab).mono fun _ _ ⟨fb, n1, n2, e, g1, g2, g3, t, x⟩ => by
    have l1 := h.tab.mi.lt
    have l2 := h.tab.mq.lt
    have y := h.ext.size
    exact ⟨fb, n1, n2, e, h.ext.trans x, h.types.ext x, h.tab.ext x, t, inv_init, inv_init, h.b1, h.b2, by omega, by omega, by omega, by omega, by omega, by omega⟩

theorem fkAll {w W : World} {tb m1 m2 fb n1 n2 : Nat} {I Q I' Q' : List OpV} (h : FkAt w W tb m1 m2 fb n1 n2 I Q I' Q') :
    Calls Tryd.prog 12 #[.pointer (some ⟨tb, 0, none⟩)] W fun e w' => ∃ v M, e = .returned v ∧ M.Perm (I ++ Q) ∧ M.Pairwise (fun a b => ltO b a = false) ∧ SliceO w' v M ∧ M.length ≤ 64 ∧ Ext W w' := by
  have hl := h.it.len
  refine (pAll_any tb m1 m2 I Q W h.t (by omega) (by omega)).mono fun _ _ ⟨v, M, e, p, s, o, _, x⟩ => ⟨v, M, e, p, s, ?_, ?_, x⟩
  · obtain ⟨A, c, rfl⟩ := own_value o
    exact ⟨A, c, rfl, El.Src.of_own o⟩
  · rw [p.length_eq, List.length_append]; exact hl
theorem fkSet {w W : World} {tb m1 m2 fb n1 n2 : Nat} {I Q I' Q' : List OpV} (h : FkAt w W tb m1 m2 fb n1 n2 I Q I' Q') (p t : Int) (s : ByteArray) :
    Calls Tryd.prog 24 #[.pointer (some ⟨fb, 0, none⟩), .agg #[.int .i64 p, .int .i64 t, .string s]] W fun e w' => ∃ n, e = .returned (.int .i64 n) ∧ FkAt w w' tb m1 m2 fb n1 n2 I Q (nextI ⟨p, t, s⟩ I' Q') (nextQ ⟨p, t, s⟩ I' Q') ∧ Kept W w' := by
  have hl := h.jt.len
  exact (pSet_any fb n1 n2 ⟨p, t, s⟩ I' Q' W h.types h.f (by omega)).mono fun _ _ ⟨e, h1, h2⟩ => ⟨_, e, h.setF _ h2 h1, h.kept h2⟩

theorem fkSame (v1 v2 : Value) (L : List OpV) (w : World) (h1 : SliceO w v1 L) (h2 : SliceO w v2 L) (hb : L.length ≤ 64) :
    Calls Tryd.prog 11 #[v1, v2] w fun e w' => e = .returned (.bool true) ∧ Ext w w' :=
  (same_any v1 v2 L L w h1 h2 (by omega) (by omega)).mono fun _ _ ⟨e, x⟩ => ⟨by rw [e]; simp, x⟩

/-- What is read at a place of a slice of operators. -/
theorem src_op {w : World} {A : Option Addr} {L : List OpV} (h : El.Src w A L.length 3 (flat opCells L)) {k : Nat} (hk : k < L.length) : ∃ b off, A = some ⟨b, off, none⟩ ∧ w.cell? ⟨b, off + k * 3, none⟩ = some (.int .i64 L[k].p) ∧ w.cell? ⟨b, off + k * 3 + 1, none⟩ = some (.int .i64 L[k].t) ∧ w.cell? ⟨b, off + k * 3 + 2, none⟩ = some (.string L[k].s) := by
  rcases SliceO.form ⟨A, 0, rfl, h⟩ with ⟨rfl, _⟩ | ⟨b, off, c, hv, hc⟩
  · simp at hk
  · injection hv with hA
    exact ⟨b, off, hA, hc k _ (List.getElem?_eq_getElem hk)⟩

set_option maxRecDepth 100000 in
set_option maxHeartbeats 4000000 in
theorem forks_any (A1 A2 : Option Addr) (c1 c2 : Nat) (L M : List OpV) (w : World) (hT : TypesAt 0 w) (h1 : El.Src w A1 L.length 3 (flat opCells L)) (h2 : El.Src w A2 M.length 3 (flat opCells M)) (hL : L.length ≤ 9223372036854775807) (hM : M.length ≤ 9223372036854775807) :
    Calls Tryd.prog 7 #[.slice A1 L.length c1, .slice A2 M.length c2] w fun e w' => e = .returned (.bool true) ∧ Ext w w' := by
  have HT := Lib.hid hT
  have H1 := Lib.hid h1
  have H2 := Lib.hid h2
  clear hT h1 h2
  by_cases hbig : 40 < L.length ∨ 40 < M.length
  · have hbig2 : (40 < L.length) ∨ (L.length ≤ 40 ∧ 40 < M.length) := by omega
    clear hbig
    rcases hbig2 with hb | ⟨hb, hb2⟩
    all_goals
      go_enter Tryd.func7, Tryd.ntmps7
      go_wp2_with (first | (go_at_call 8; refine (lvNew _ HT.out).mono ?_; rintro e W ⟨tb, m1, m2, rfl, L0⟩) | (go_at_call 10; refine (lives_any _ L0.types).mono ?_; rintro e W1 ⟨rfl, x⟩; replace L0 := L0.go x; clear x))
      go_ret
      exact ⟨rfl, L0.ext⟩
  · have hl1 : L.length ≤ 40 := by omega
    have hl2 : M.length ≤ 40 := by omega
    clear hbig
    go_enter Tryd.func7, Tryd.ntmps7
    go_upto_region 4 with (first | (go_at_call 8; refine (lvNew _ HT.out).mono ?_; rintro e W ⟨tb, m1, m2, rfl, L0⟩) | (go_at_call 10; refine (lives_any _ L0.types).mono ?_; rintro e W1 ⟨rfl, x⟩; replace L0 := L0.go x; clear x))
    go_upto_region 8 with (first | (go_at_call 27; refine (fkFork L0).mono ?_; rintro e W2 ⟨fb, n1, n2, rfl, F0⟩; clear L0) | (go_at_call 12; refine (fkAll F0).mono ?_; rintro e W3 ⟨v0, N0, rfl, p0, s0, o0, z0, x⟩; replace F0 := F0.go x; clear x))
    have HP0 := Lib.hid p0
    have HS0 := Lib.hid s0
    have HO0 := Lib.hid o0
    clear p0 s0 o0
    go_wp2_with fail
    go_loopw [8] (fun i wr => ∃ (k : Nat) (I' Q' : List OpV), k ≤ L.length ∧ i = .int .i64 k ∧ FkAt w wr tb m1 m2 fb n1 n2 initI initQ I' Q' ∧ Hid (Kept W3 wr)) (fun i _ => L.length - (intOf i).toNat)
    case atStart => exact ⟨0, initI, initQ, Nat.zero_le _, rfl, F0, Kept.refl _⟩
    case round =>
      clear F0
      obtain ⟨k, I', Q', hk, rfl, F0, HK⟩ := hrel
      by_cases hlt : k < L.length
      · obtain ⟨b, off, rfl, d0, d1, d2⟩ := src_op (H1.out.ext F0.ext) hlt
        go_wp2_with (go_at_call 24; refine (fkSet F0 _ _ _).mono ?_; rintro e W4 ⟨n, rfl, F1, k1⟩)
        go_roundw
        case rel => exact ⟨k + 1, _, _, hlt, by go_num, F1, HK.out.trans k1⟩
        case measure => simp [intOf]; omega
      · obtain rfl : k = L.length := by omega
        go_upto_region 14 with (first | (go_at_call 12; refine (fkAll F0).mono ?_; rintro e W5 ⟨v1, N1, rfl, p1, s1, o1, z1, x⟩; replace F0 := F0.go x; replace HK := Lib.hid (HK.out.trans (Kept.ext x)); clear x; obtain rfl : N1 = N0 := inv_init.one p1 HP0.out s1 HS0.out; clear p1 s1) | (go_at_call 11; refine (fkSame _ _ _ _ o1 (sliceO_kept HO0.out HK.out) z0).mono ?_; rintro e W6 ⟨rfl, x⟩; replace F0 := F0.go x; clear x))
        clear o1 HK HO0 HP0 HS0 z0 z1
        go_upto_region 15 with (go_at_call 12; refine (fkAll F0.swap).mono ?_; rintro e W7 ⟨v2, N2, rfl, p0, s0, o0, z0, x⟩; replace F0 := F0.go x; clear x)
        have HJ := Lib.hid F0.jt
        have HP0 := Lib.hid p0
        have HS0 := Lib.hid s0
        have HO0 := Lib.hid o0
        clear p0 s0 o0
        go_wp2_with fail
        obtain ⟨wo, rfl⟩ : ∃ wo : World, wo = wr := ⟨_, rfl⟩
        go_loopw [10] (fun i wr => ∃ (k : Nat) (I Q : List OpV), k ≤ M.length ∧ i = .int .i64 k ∧ FkAt w wr tb m1 m2 fb n1 n2 I Q I' Q' ∧ Hid (Kept W7 wr)) (fun i _ => M.length - (intOf i).toNat)
        case atStart => exact ⟨0, initI, initQ, Nat.zero_le _, rfl, F0, Kept.refl _⟩
        case round =>
          clear F0
          obtain ⟨k, I, Q, hk, rfl, F0, HK⟩ := hrel
          by_cases hlt : k < M.length
          · obtain ⟨b, off, rfl, d0, d1, d2⟩ := src_op (H2.out.ext F0.ext) hlt
            go_wp2_with (go_at_call 24; refine (fkSet F0.swap _ _ _).mono ?_; rintro e W4 ⟨n, rfl, F1, k1⟩)
            go_roundw
            case rel => exact ⟨k + 1, _, _, hlt, by go_num, F1.swap, HK.out.trans k1⟩
            case measure => simp [intOf]; omega
          · obtain rfl : k = M.length := by omega
            go_wp2_with (first | (go_at_call 12; refine (fkAll F0.swap).mono ?_; rintro e W5 ⟨v1, N1, rfl, p1, s1, o1, z1, x⟩; replace F0 := F0.go x; replace HK := Lib.hid (HK.out.trans (Kept.ext x)); clear x; obtain rfl : N1 = N2 := HJ.out.one p1 HP0.out s1 HS0.out; clear p1 s1) | (go_at_call 11; refine (fkSame _ _ _ _ o1 (sliceO_kept HO0.out HK.out) z0).mono ?_; rintro e W6 ⟨rfl, x⟩; replace F0 := F0.go x; clear x))
            go_ret
            exact ⟨rfl, F0.ext⟩

end Go.Proofs.YtckkbghmiomfiaaDoor
