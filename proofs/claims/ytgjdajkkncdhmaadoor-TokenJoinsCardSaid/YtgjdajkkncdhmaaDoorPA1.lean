/- Layer 8: the walks of SameAll at equal lists, of TokenAll. -/
import Derived.Test.YtgjdajkkncdhmaaDoorPLv
import Derived.Test.YtgjdajkkncdhmaaDoorT08
namespace Go.Proofs.YtgjdajkkncdhmaaDoor
open Go.RowKit Go.El

/-- The cells of a token among others. -/
theorem tok_cells {w : World} {A : Option Addr} {L : List TokV} (h : El.Src w A L.length 5 (flat tokCells L)) {k : Nat} {t : TokV} (hk : L[k]? = some t) : ∃ b off, A = some ⟨b, off, none⟩ ∧ w.cell? ⟨b, off + k * 5, none⟩ = some (.int .i64 t.kind) ∧ w.cell? ⟨b, off + k * 5 + 1, none⟩ = some (.string t.s) ∧ w.cell? ⟨b, off + k * 5 + 2, none⟩ = some (.int .i64 t.n) ∧ w.cell? ⟨b, off + k * 5 + 3, none⟩ = some (.int .i64 t.at_) ∧ w.cell? ⟨b, off + k * 5 + 4, none⟩ = some (.bool t.lay) := by
  have hlt : k < L.length := (List.getElem?_eq_some_iff.1 hk).1
  obtain ⟨b, off, rfl, hc⟩ := El.Src.form h (by omega) (by omega)
  refine ⟨b, off, rfl, ?_, ?_, ?_, ?_, ?_⟩
  · exact hc (k * 5) _ (flat_at tokCells_len L k 0 t hk (by omega))
  · exact hc (k * 5 + 1) _ (flat_at tokCells_len L k 1 t hk (by omega))
  · exact hc (k * 5 + 2) _ (flat_at tokCells_len L k 2 t hk (by omega))
  · exact hc (k * 5 + 3) _ (flat_at tokCells_len L k 3 t hk (by omega))
  · exact hc (k * 5 + 4) _ (flat_at tokCells_len L k 4 t hk (by omega))

set_option maxRecDepth 100000 in
set_option maxHeartbeats 4000000 in
theorem same_any (v u : Value) (L : List TokV) (w : World) (h : TokAt w v L) (h2 : TokAt w u L) (hL : L.length ≤ 100000) :
    Calls Tryd.prog 10 #[v, u] w fun e w' => e = .returned (.bool true) ∧ Ext w w' := by
  obtain ⟨A, c, rfl, _, hs⟩ := h
  obtain ⟨A2, c2, rfl, _, hs2⟩ := h2
  have H := Lib.hid hs
  have H2 := Lib.hid hs2
  clear hs hs2
  go_enter Tryd.func10, Tryd.ntmps10
  go_wp2_with fail
  go_loopw [5] (fun i wr => ∃ k : Nat, k ≤ L.length ∧ i = .int .i64 k ∧ Hid (Ext w wr)) (fun i _ => L.length - (intOf i).toNat)
  case atStart => exact ⟨0, Nat.zero_le _, rfl, Ext.refl w⟩
  case round =>
    obtain ⟨k, hk, rfl, HX⟩ := hrel
    by_cases hlt : k < L.length
    · have ho : L[k]? = some L[k] := List.getElem?_eq_getElem hlt
      generalize L[k] = t at ho
      obtain ⟨b, off, rfl, p1, p2, p3, p4, p5⟩ := tok_cells (H.out.ext HX.out) ho
      obtain ⟨b2, off2, rfl, q1, q2, q3, q4, q5⟩ := tok_cells (H2.out.ext HX.out) ho
      clear ho
      go_wp2_with fail
      go_quiet (fail)
      go_wp2_with fail
      go_roundw
      case rel => exact ⟨k + 1, hlt, by go_num, HX.out.drewN _⟩
      case measure => simp [intOf]; omega
    · obtain rfl : k = L.length := by omega
      go_wp2_with fail
      go_ret
      exact ⟨rfl, HX.out⟩

set_option maxRecDepth 100000 in
set_option maxHeartbeats 8000000 in
theorem tokenAll_any (A : Option Addr) (cap : Nat) (B : List UInt8) (w : World) (h : BytesAt w A B) (hcap : B.length ≤ cap) (hB : B.length ≤ 9223372036854775807) (g : Glob w) :
    Calls Tryd.prog 3 #[.slice A B.length cap] w fun e w' => e = .returned (.bool true) ∧ Ext w w' := by
  have HG := Lib.hid g
  have H := Lib.hid h
  clear g h
  by_cases hbig : 3000 < B.length
  · go_enter Tryd.func3, Tryd.ntmps3
    go_wp2_with (go_at_call 7; refine (lives_any _ HG.out).mono ?_; rintro e W1 ⟨rfl, hx⟩; have HX := Lib.hid hx; clear hx)
    go_ret
    exact ⟨rfl, HX.out⟩
  · have HP := Lib.hid (pAll_any A cap B w H.out (by omega) hcap HG.out)
    have HR := fun W (x : Ext w W) => Lib.hid (rAll_any A cap B W (H.out.ext x) (by omega) hcap)
    have HU := Lib.hid (allS_up B)
    have hal : (allS B).1.length ≤ 100000 := by
      have key : ∀ (n : Nat) (B : List UInt8) (i : Nat), (tokN n B i).1.length ≤ n := by
        intro n
        induction n with
        | zero => intro B i; simp [tokN]
        | succ n ih =>
          intro B i
          simp only [tokN]
          split
          · simp
          · split
            · simp
            · split
              · simp only [List.length_cons]; have := ih B (scanS B i).2.1; omega
              · simp
      rw [allS_toks]
      have := key (B.length + 1 - 0) B 0
      unfold toks
      omega
    unfold AllOut at HP HR
    generalize allS B = r at *
    obtain ⟨L, n, x⟩ := r
    simp only at HU hal HP HR
    go_enter Tryd.func3, Tryd.ntmps3
    go_upto_region 7 with (first | (go_at_call 8; refine HP.out.mono ?_; rintro e W1 ⟨v, rfl, ht, hx⟩; have HT := Lib.hid ht; have HX := Lib.hid hx; clear ht hx) | (go_at_call 9; refine (HR _ HX.out).out.mono ?_; rintro e W2 ⟨u, rfl, ht, hx⟩; have HT2 := Lib.hid (HT.out.ext hx); have HU2 := Lib.hid ht; have HX2 := Lib.hid (HX.out.trans hx); clear ht hx) | (go_at_call 7; refine (lives_any _ (HG.out.ext HX2.out)).mono ?_; rintro e W3 ⟨rfl, hx⟩; have HT3 := Lib.hid (HT2.out.ext hx); have HU3 := Lib.hid (HU2.out.ext hx); have HX3 := Lib.hid (HX2.out.trans hx); clear hx) | (go_at_call 10; refine (same_any _ _ L _ HT3.out HU3.out hal).mono ?_; rintro e W4 ⟨rfl, hx⟩; have HT4 := Lib.hid (HT3.out.ext hx); have HX4 := Lib.hid (HX3.out.trans hx); clear hx))
    obtain ⟨A5, c5, rfl, _, hs5⟩ := HT4.out
    have HS5 := Lib.hid hs5
    clear hs5 HT HT2 HT3 HT4
    go_wp2_with fail
    go_loopw [9] (fun i wr => ∃ k : Nat, 1 ≤ k ∧ (k ≤ L.length ∨ k = 1) ∧ i = .int .i64 k ∧ Hid (Ext W4 wr)) (fun i _ => L.length - (intOf i).toNat)
    case atStart => exact ⟨1, Nat.le_refl _, .inr rfl, rfl, Ext.refl _⟩
    case round =>
      obtain ⟨k, hk1, hk, rfl, HY⟩ := hrel
      by_cases hlt : k < L.length
      · have ho : L[k]? = some L[k] := List.getElem?_eq_getElem hlt
        have ho2 : L[k - 1]? = some L[k - 1] := List.getElem?_eq_getElem (by omega)
        have hup : (L[k - 1]'(by omega)).at_ < (L[k]'hlt).at_ := (List.pairwise_iff_getElem.1 HU.out) (k - 1) k (by omega) hlt (by omega)
        generalize L[k] = t at ho hup
        generalize L[k - 1] = t2 at ho2 hup
        obtain ⟨b, off, rfl, p1, p2, p3, p4, p5⟩ := tok_cells (HS5.out.ext HY.out) ho
        obtain ⟨b2, off2, he, q1, q2, q3, q4, q5⟩ := tok_cells (HS5.out.ext HY.out) ho2
        injection he with he
        injection he with he1 he2
        subst he1 he2
        have hle : ¬ t.at_ ≤ t2.at_ := by omega
        have hI1 : (0 : Int) ≤ (k : Int) - 1 := by omega
        have hI2 : (k : Int) - 1 < (L.length : Int) := by omega
        have hI3 : ((k : Int) - 1).toNat = k - 1 := by omega
        have hI4 : IntKind.i64.wrap ((k : Int) - 1) = (k : Int) - 1 := IntWalk.i64_in _ (by omega)
        clear ho ho2 hup p1 p2 p3 p5 q1 q2 q3 q5 hk
        go_wp2_with fail
        go_quiet (fail)
        go_wp2_with fail
        go_roundw
        case rel => exact ⟨k + 1, by omega, .inl hlt, by go_num, HY.out.drewN _⟩
        case measure => simp [intOf]; omega
      · go_wp2_with fail
        go_ret
        exact ⟨rfl, HX4.out.trans HY.out⟩

end Go.Proofs.YtgjdajkkncdhmaaDoor
