/- OperDoes: the walk. -/
import Derived.Test.YtckkbghmiomfiaaDoorDo
namespace Go.Proofs.YtckkbghmiomfiaaDoor
open Go.RowKit Go.El Go.Proofs

theorem init_perm : (initI ++ initQ).Perm initL := by decide +kernel

theorem twNews (w : World) :
    Calls Tryd.prog 8 #[] w fun e w' => ∃ tb m1 m2, e = .returned (.pointer (some ⟨tb, 0, none⟩)) ∧ Hid (w.heap.size ≤ tb ∧ w.heap.size ≤ m1 ∧ w.heap.size ≤ m2 ∧ TabAt w' tb m1 m2 initI initQ ∧ Ext w w') :=
  (pNew_any w).mono fun _ _ ⟨tb, m1, m2, e, h⟩ => ⟨tb, m1, m2, e, h⟩
theorem twNewR {w W : World} {tb m1 m2 : Nat} (hT : TypesAt 0 w) (h : Hid (w.heap.size ≤ tb ∧ w.heap.size ≤ m1 ∧ w.heap.size ≤ m2 ∧ TabAt W tb m1 m2 initI initQ ∧ Ext w W)) :
    Calls Tryd.prog 9 #[] W fun e w' => ∃ rb v, e = .returned (.pointer (some ⟨rb, 0, none⟩)) ∧ TwoAt w w' tb m1 m2 rb v initI initQ initL :=
  (rNew_any W).mono fun _ _ ⟨rb, v, e, g1, g2, g3, g4⟩ => by
    obtain ⟨h1, h2, h3, h4, h5⟩ := h.out
    have lt : tb < W.heap.size := cell_lt h4.c0
    have lg : 0 < w.heap.size := cell_lt hT.h0
    have y := h5.size
    exact ⟨rb, v, e, h5.trans g3, (hT.ext h5).ext g3, h4.ext g3, g2, lg, h2, h3, by omega, fun b hb => by have := g4 b hb; omega, by omega, fun b hb => by have := g4 b hb; omega⟩

theorem twAll {w W : World} {tb m1 m2 rb : Nat} {v : Value} {I Q L : List OpV} (h : TwoAt w W tb m1 m2 rb v I Q L) (hi : Inv I Q) (hp : (I ++ Q).Perm L) :
    Calls Tryd.prog 12 #[.pointer (some ⟨tb, 0, none⟩)] W fun e w' => ∃ z, e = .returned z ∧ SliceO w' z (allR L) ∧ Ext W w' := by
  have hl := hi.len
  refine (pAll_any tb m1 m2 I Q W h.tab (by omega) (by omega)).mono fun _ _ ⟨z, M, e, p, s, o, _, x⟩ => ⟨z, e, ?_, x⟩
  obtain rfl := all_both hi hp p s
  obtain ⟨A, c, rfl⟩ := own_value o
  exact ⟨A, c, rfl, El.Src.of_own o⟩
theorem twAllR {w W : World} {tb m1 m2 rb : Nat} {v : Value} {I Q L : List OpV} (h : TwoAt w W tb m1 m2 rb v I Q L) (hi : Inv I Q) (hp : (I ++ Q).Perm L) :
    Calls Tryd.prog 13 #[.pointer (some ⟨rb, 0, none⟩)] W fun e w' => ∃ z, e = .returned z ∧ SliceO w' z (allR L) ∧ Ext W w' := by
  have hl : L.length ≤ 1000 := by rw [len_both hp]; have := hi.len; omega
  refine (rAll_any rb v L W h.ref hl).mono fun _ _ ⟨z, e, o, _, x⟩ => ⟨z, e, ?_, x⟩
  obtain ⟨A, c, rfl⟩ := own_value o
  exact ⟨A, c, rfl, El.Src.of_own o⟩
theorem allR_len {I Q L : List OpV} (hi : Inv I Q) (hp : (I ++ Q).Perm L) : (allR L).length ≤ 64 := by
  rw [(allR_perm L).length_eq, len_both hp]
  exact hi.len
theorem twIs {w W : World} {tb m1 m2 rb : Nat} {v : Value} {I Q L : List OpV} (h : TwoAt w W tb m1 m2 rb v I Q L) (s : ByteArray) :
    Calls Tryd.prog 16 #[.pointer (some ⟨tb, 0, none⟩), .string s] W fun e w' => e = .returned (.bool ((findO s I).isSome || (findO s Q).isSome)) ∧ Ext W w' := is_any tb m1 m2 I Q s W h.tab
theorem twDo {w W : World} {tb m1 m2 rb : Nat} {v : Value} {I Q L : List OpV} (h : TwoAt w W tb m1 m2 rb v I Q L) (hi : Inv I Q) (hp : (I ++ Q).Perm L) (k p t : Int) (s nm : ByteArray) (hs : s.size ≤ 1000) :
    Calls Tryd.prog 14 #[.pointer (some ⟨tb, 0, none⟩), .pointer (some ⟨rb, 0, none⟩), .agg #[.int .i64 k, .int .i64 p, .int .i64 t, .string s, .string nm]] W fun e w' => ∃ (tb m1 m2 : Nat) (v : Value) (I Q L : List OpV), e = .returned (.tuple #[.pointer (some ⟨tb, 0, none⟩), .bool true]) ∧ TwoAt w w' tb m1 m2 rb v I Q L ∧ Inv I Q ∧ Hid ((I ++ Q).Perm L) :=
  do_any h hi hp ⟨k, ⟨p, t, s⟩, nm⟩ (by show s.size ≤ _; omega)

theorem callCells_len (c : CallV) : (callCells c).length = 5 := rfl
/-- What is read at a place of a slice of calls. -/
theorem src_call {w : World} {A : Option Addr} {C : List CallV} (h : El.Src w A C.length 5 (flat callCells C)) {k : Nat} (hk : k < C.length) : ∃ b off, A = some ⟨b, off, none⟩ ∧ w.cell? ⟨b, off + k * 5, none⟩ = some (.int .i64 C[k].k) ∧ w.cell? ⟨b, off + k * 5 + 1, none⟩ = some (.int .i64 C[k].o.p) ∧ w.cell? ⟨b, off + k * 5 + 2, none⟩ = some (.int .i64 C[k].o.t) ∧ w.cell? ⟨b, off + k * 5 + 3, none⟩ = some (.string C[k].o.s) ∧ w.cell? ⟨b, off + k * 5 + 4, none⟩ = some (.string C[k].nm) := by
  obtain ⟨b, off, rfl, hc⟩ := h.form (by omega) (by omega)
  have ho : C[k]? = some C[k] := List.getElem?_eq_getElem hk
  have e (j : Nat) (hj : j < 5) (u : Value) (hu : (callCells C[k])[j]? = some u) : w.cell? ⟨b, off + (k * 5 + j), none⟩ = some u := hc _ u (by rw [flat_at callCells_len C k j _ ho hj]; exact hu)
  refine ⟨b, off, rfl, e 0 (by omega) _ rfl, ?_, ?_, ?_, ?_⟩
  · have := e 1 (by omega) _ rfl; rwa [← Nat.add_assoc] at this
  · have := e 2 (by omega) _ rfl; rwa [← Nat.add_assoc] at this
  · have := e 3 (by omega) _ rfl; rwa [← Nat.add_assoc] at this
  · have := e 4 (by omega) _ rfl; rwa [← Nat.add_assoc] at this

set_option maxRecDepth 100000 in
set_option maxHeartbeats 8000000 in
theorem does_any (A : Option Addr) (c : Nat) (C : List CallV) (w : World) (hT : TypesAt 0 w) (h1 : El.Src w A C.length 5 (flat callCells C)) (_hC : C.length ≤ 9223372036854775807) (hg : ∀ x ∈ C, x.good) :
    Calls Tryd.prog 3 #[.slice A C.length c] w fun e w' => e = .returned (.bool true) ∧ Ext w w' := by
  have HT := Lib.hid hT
  have H1 := Lib.hid h1
  have HG := Lib.hid hg
  clear hT h1 hg
  go_enter Tryd.func3, Tryd.ntmps3
  go_upto_region 2 with (first | (go_at_call 8; refine (twNews _).mono ?_; rintro e W1 ⟨tb, m1, m2, rfl, hn⟩) | (go_at_call 9; refine (twNewR HT.out hn).mono ?_; rintro e W2 ⟨rb, v, rfl, hx⟩; clear hn))
  go_upto_region 4 with (first | (go_at_call 10; refine (lives_any _ hx.types).mono ?_; rintro e W3 ⟨rfl, y⟩; replace hx := hx.go y; clear y) | (go_at_call 12; refine (twAll hx inv_init init_perm).mono ?_; rintro e W4 ⟨z1, rfl, o1, y⟩; replace hx := hx.go y; clear y; have HO1 := Lib.hid o1; clear o1) | (go_at_call 13; refine (twAllR hx inv_init init_perm).mono ?_; rintro e W5 ⟨z2, rfl, o2, y⟩; replace hx := hx.go y; replace HO1 := Lib.hid (HO1.out.ext y); clear y; have HO2 := Lib.hid o2; clear o2) | (go_at_call 11; refine (fkSame _ _ _ _ HO1.out HO2.out (allR_len inv_init init_perm)).mono ?_; rintro e W6 ⟨rfl, y⟩; replace hx := hx.go y; clear y))
  clear HO1 HO2
  go_wp2_with fail
  go_loopw [3, 5, 6] (fun tv okv i wr => ∃ (k tb m1 m2 : Nat) (v : Value) (I Q L : List OpV), k ≤ C.length ∧ k ≤ 60 ∧ i = .int .i64 k ∧ okv = .bool true ∧ tv = .pointer (some ⟨tb, 0, none⟩) ∧ TwoAt w wr tb m1 m2 rb v I Q L ∧ Inv I Q ∧ Hid ((I ++ Q).Perm L)) (fun _ _ i _ => 61 - (intOf i).toNat)
  case atStart => exact ⟨0, tb, m1, m2, v, initI, initQ, initL, Nat.zero_le _, Nat.zero_le _, rfl, rfl, rfl, hx, inv_init, Lib.hid init_perm⟩
  case round =>
    clear hx
    obtain ⟨k, tb, m1, m2, v, I, Q, L, hk, hk60, rfl, rfl, rfl, hx, hi, HP⟩ := hrel
    by_cases hlt : k < C.length
    · by_cases hlt6 : k < 60
      · obtain ⟨b, off, rfl, e0, e1, e2, e3, e4⟩ := src_call H1.out hlt
        have hgood := HG.out C[k] (List.getElem_mem hlt)
        generalize C[k] = x at e0 e1 e2 e3 e4 hgood
        obtain ⟨xk, ⟨xp, xt, xs⟩, xn⟩ := x
        obtain ⟨_, _, _, g3, g4⟩ := hgood
        dsimp only at e0 e1 e2 e3 e4 g3 g4
        have d0 := hx.ext.cell e0
        have d1 := hx.ext.cell e1
        have d2 := hx.ext.cell e2
        have d3 := hx.ext.cell e3
        have d4 := hx.ext.cell e4
        have HE4 := Lib.hid e4
        clear e0 e1 e2 e3 e4
        unfold maxLen at g3 g4
        by_cases hs1 : xs.size ≤ 1000
        · by_cases hs2 : xn.size ≤ 1000
          · go_upto_region 12 with (first | (go_at_call 14; refine (twDo hx hi HP.out _ _ _ _ _ hs1).mono ?_; rintro e W3 ⟨tb2, n1, n2, v2, I2, Q2, L2, rfl, hx2, hi2, HP2⟩) | (go_at_call 12; refine (twAll hx2 hi2 HP2.out).mono ?_; rintro e W4 ⟨z1, rfl, o1, y⟩; replace hx2 := hx2.go y; clear y; have HO1 := Lib.hid o1; clear o1) | (go_at_call 13; refine (twAllR hx2 hi2 HP2.out).mono ?_; rintro e W5 ⟨z2, rfl, o2, y⟩; replace hx2 := hx2.go y; replace HO1 := Lib.hid (HO1.out.ext y); clear y; have HO2 := Lib.hid o2; clear o2) | (go_at_call 11; refine (fkSame _ _ _ _ HO1.out HO2.out (allR_len hi2 HP2.out)).mono ?_; rintro e W6 ⟨rfl, y⟩; replace hx2 := hx2.go y; clear y))
            have f4 := hx2.ext.cell HE4.out
            clear hx hi HP HO1 HO2 d0 d1 d2 d3 d4
            go_upto_region 13 with (go_at_call 15; refine (twFind hx2 hi2 HP2.out _ false).mono ?_; rintro e V1 ⟨rfl, y⟩; simp only [Bool.false_eq_true, if_false])
            refine wp_abs (fun V => TwoAt w V tb2 n1 n2 rb v2 I2 Q2 L2 ∧ V.cell? ⟨b, off + k * 5 + 4, none⟩ = some (.string xn)) ⟨(hx2.go y).go (ext_box _ _), (y.trans (ext_box _ _)).cell f4⟩ ?_
            clear hx2 f4 y
            rintro V2 ⟨hx2, f4⟩
            go_upto_region 14 with (go_at_call 15; refine (twFind hx2 hi2 HP2.out _ true).mono ?_; rintro e V3 ⟨rfl, y⟩; simp only [if_true])
            refine wp_abs (fun V => TwoAt w V tb2 n1 n2 rb v2 I2 Q2 L2 ∧ V.cell? ⟨b, off + k * 5 + 4, none⟩ = some (.string xn)) ⟨(hx2.go y).go (ext_box _ _), (y.trans (ext_box _ _)).cell f4⟩ ?_
            clear hx2 f4 y
            rintro V4 ⟨hx2, f4⟩
            cases hfa : (findO xn I2).isSome <;> cases hfb : (findO xn Q2).isSome
            all_goals
              go_wp2_with (go_at_call 16; refine (twIs hx2 _).mono ?_; rintro e V5 ⟨rfl, y⟩; replace hx2 := hx2.go y; clear y)
              go_roundw
              case rel => exact ⟨k + 1, tb2, n1, n2, v2, I2, Q2, L2, hlt, hlt6, by go_num, rfl, rfl, hx2, hi2, HP2⟩
              case measure => simp [intOf]; omega
          · go_wp2_with fail
            go_roundw
            case rel => exact ⟨k + 1, tb, m1, m2, v, I, Q, L, hlt, hlt6, by go_num, rfl, rfl, hx, hi, HP⟩
            case measure => simp [intOf]; omega
        · by_cases hs2 : xn.size ≤ 1000
          all_goals
            go_wp2_with fail
            go_roundw
            case rel => exact ⟨k + 1, tb, m1, m2, v, I, Q, L, hlt, hlt6, by go_num, rfl, rfl, hx, hi, HP⟩
            case measure => simp [intOf]; omega
      · go_wp2_with fail
        go_ret
        exact ⟨rfl, hx.ext⟩
    · go_wp2_with fail
      go_ret
      exact ⟨rfl, hx.ext⟩

end Go.Proofs.YtckkbghmiomfiaaDoor
