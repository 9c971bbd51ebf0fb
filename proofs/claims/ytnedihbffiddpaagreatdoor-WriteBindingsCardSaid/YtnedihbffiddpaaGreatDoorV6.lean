/- Layer 11, the reference: what its texts lean on; the walks of plain, isList, long, open. -/
import Derived.Test.YtnedihbffiddpaaGreatDoorV2
import Derived.Test.YtnedihbffiddpaaGreatDoorV3
import Derived.Test.YtnedihbffiddpaaGreatDoorW24
namespace Go.El
theorem okT_parts' {t : Tm} (h : okT t = true) : partK t.k t.n t.s t.l.length = true ∧ okL t.l = true := by
  cases t with
  | mk k n s l =>
    simp only [okT, Bool.and_eq_true] at h
    exact h
theorem part_kind' {k n : Int} {s : ByteArray} {m : Nat} (h : partK k n s m = true) : k = 1 ∨ k = 2 ∨ k = 3 ∨ k = 4 := by
  unfold partK at h
  by_cases h1 : k = 1
  · exact .inl h1
  · by_cases h2 : k = 2
    · exact .inr (.inl h2)
    · by_cases h3 : k = 3
      · exact .inr (.inr (.inl h3))
      · by_cases h4 : k = 4
        · exact .inr (.inr (.inr h4))
        · simp [h1, h2, h3, h4] at h
end Go.El
namespace Go.Proofs.YtnedihbffiddpaaGreatDoor
open Go.RowKit Go.El

theorem keepC6 {V W W' : World} {p0 p1 p2 p3 p4 p5 : Addr} {v0 v1 v2 v3 v4 v5 : Value} (x : Ext W W') (h : W.cell? p0 = some v0 ∧ W.cell? p1 = some v1 ∧ W.cell? p2 = some v2 ∧ W.cell? p3 = some v3 ∧ W.cell? p4 = some v4 ∧ W.cell? p5 = some v5 ∧ Hid (Ext V W)) : W'.cell? p0 = some v0 ∧ W'.cell? p1 = some v1 ∧ W'.cell? p2 = some v2 ∧ W'.cell? p3 = some v3 ∧ W'.cell? p4 = some v4 ∧ W'.cell? p5 = some v5 ∧ Hid (Ext V W') :=
  ⟨x.cell h.1, x.cell h.2.1, x.cell h.2.2.1, x.cell h.2.2.2.1, x.cell h.2.2.2.2.1, x.cell h.2.2.2.2.2.1, Lib.hid (h.2.2.2.2.2.2.out.trans x)⟩
theorem keepE6 {V W : World} {p0 p1 p2 p3 p4 p5 : Addr} {v0 v1 v2 v3 v4 v5 : Value} (h : W.cell? p0 = some v0 ∧ W.cell? p1 = some v1 ∧ W.cell? p2 = some v2 ∧ W.cell? p3 = some v3 ∧ W.cell? p4 = some v4 ∧ W.cell? p5 = some v5 ∧ Hid (Ext V W)) : Ext V W := h.2.2.2.2.2.2.out
theorem keepC9 {V W W' : World} {p0 p1 p2 p3 p4 p5 p6 p7 p8 : Addr} {v0 v1 v2 v3 v4 v5 v6 v7 v8 : Value} (x : Ext W W') (h : W.cell? p0 = some v0 ∧ W.cell? p1 = some v1 ∧ W.cell? p2 = some v2 ∧ W.cell? p3 = some v3 ∧ W.cell? p4 = some v4 ∧ W.cell? p5 = some v5 ∧ W.cell? p6 = some v6 ∧ W.cell? p7 = some v7 ∧ W.cell? p8 = some v8 ∧ Hid (Ext V W)) : W'.cell? p0 = some v0 ∧ W'.cell? p1 = some v1 ∧ W'.cell? p2 = some v2 ∧ W'.cell? p3 = some v3 ∧ W'.cell? p4 = some v4 ∧ W'.cell? p5 = some v5 ∧ W'.cell? p6 = some v6 ∧ W'.cell? p7 = some v7 ∧ W'.cell? p8 = some v8 ∧ Hid (Ext V W') :=
  ⟨x.cell h.1, x.cell h.2.1, x.cell h.2.2.1, x.cell h.2.2.2.1, x.cell h.2.2.2.2.1, x.cell h.2.2.2.2.2.1, x.cell h.2.2.2.2.2.2.1, x.cell h.2.2.2.2.2.2.2.1, x.cell h.2.2.2.2.2.2.2.2.1, Lib.hid (h.2.2.2.2.2.2.2.2.2.out.trans x)⟩
theorem keepE9 {V W : World} {p0 p1 p2 p3 p4 p5 p6 p7 p8 : Addr} {v0 v1 v2 v3 v4 v5 v6 v7 v8 : Value} (h : W.cell? p0 = some v0 ∧ W.cell? p1 = some v1 ∧ W.cell? p2 = some v2 ∧ W.cell? p3 = some v3 ∧ W.cell? p4 = some v4 ∧ W.cell? p5 = some v5 ∧ W.cell? p6 = some v6 ∧ W.cell? p7 = some v7 ∧ W.cell? p8 = some v8 ∧ Hid (Ext V W)) : Ext V W := h.2.2.2.2.2.2.2.2.2.out
theorem keepC12 {V W W' : World} {p0 p1 p2 p3 p4 p5 p6 p7 p8 p9 p10 p11 : Addr} {v0 v1 v2 v3 v4 v5 v6 v7 v8 v9 v10 v11 : Value} (x : Ext W W') (h : W.cell? p0 = some v0 ∧ W.cell? p1 = some v1 ∧ W.cell? p2 = some v2 ∧ W.cell? p3 = some v3 ∧ W.cell? p4 = some v4 ∧ W.cell? p5 = some v5 ∧ W.cell? p6 = some v6 ∧ W.cell? p7 = some v7 ∧ W.cell? p8 = some v8 ∧ W.cell? p9 = some v9 ∧ W.cell? p10 = some v10 ∧ W.cell? p11 = some v11 ∧ Hid (Ext V W)) : W'.cell? p0 = some v0 ∧ W'.cell? p1 = some v1 ∧ W'.cell? p2 = some v2 ∧ W'.cell? p3 = some v3 ∧ W'.cell? p4 = some v4 ∧ W'.cell? p5 = some v5 ∧ W'.cell? p6 = some v6 ∧ W'.cell? p7 = some v7 ∧ W'.cell? p8 = some v8 ∧ W'.cell? p9 = some v9 ∧ W'.cell? p10 = some v10 ∧ W'.cell? p11 = some v11 ∧ Hid (Ext V W') :=
  ⟨x.cell h.1, x.cell h.2.1, x.cell h.2.2.1, x.cell h.2.2.2.1, x.cell h.2.2.2.2.1, x.cell h.2.2.2.2.2.1, x.cell h.2.2.2.2.2.2.1, x.cell h.2.2.2.2.2.2.2.1, x.cell h.2.2.2.2.2.2.2.2.1, x.cell h.2.2.2.2.2.2.2.2.2.1, x.cell h.2.2.2.2.2.2.2.2.2.2.1, x.cell h.2.2.2.2.2.2.2.2.2.2.2.1, Lib.hid (h.2.2.2.2.2.2.2.2.2.2.2.2.out.trans x)⟩
theorem keepE12 {V W : World} {p0 p1 p2 p3 p4 p5 p6 p7 p8 p9 p10 p11 : Addr} {v0 v1 v2 v3 v4 v5 v6 v7 v8 v9 v10 v11 : Value} (h : W.cell? p0 = some v0 ∧ W.cell? p1 = some v1 ∧ W.cell? p2 = some v2 ∧ W.cell? p3 = some v3 ∧ W.cell? p4 = some v4 ∧ W.cell? p5 = some v5 ∧ W.cell? p6 = some v6 ∧ W.cell? p7 = some v7 ∧ W.cell? p8 = some v8 ∧ W.cell? p9 = some v9 ∧ W.cell? p10 = some v10 ∧ W.cell? p11 = some v11 ∧ Hid (Ext V W)) : Ext V W := h.2.2.2.2.2.2.2.2.2.2.2.2.out

/-- The reference's operators. -/
def RfAt (w : World) : OpsV → Option Addr → Prop
  | none, p => p = none
  | some (I, Q), p => ∃ rb v L, p = some ⟨rb, 0, none⟩ ∧ RefAt 73 w rb v L ∧ (∀ s, findR s false L = findO s I ∧ findR s true L = findO s Q) ∧ (∀ p : OpV, p ∈ I ∨ p ∈ Q → -1000000 ≤ p.p ∧ p.p ≤ 1000000)
theorem RfAt.ext {w w' : World} {o : OpsV} {p : Option Addr} (h : RfAt w o p) (x : Ext w w') : RfAt w' o p := by
  cases o with
  | none => exact h
  | some q =>
    obtain ⟨I, Q⟩ := q
    obtain ⟨rb, v, L, e, hr, hf, hb⟩ := h
    exact ⟨rb, v, L, e, hr.ext x, hf, hb⟩
theorem foundI {w : World} {I Q : List OpV} {p : Option Addr} (h : RfAt w (some (I, Q)) p) (s : ByteArray) :
    Calls Tryz.prog 54 #[.pointer p, .string s, .bool false] w fun e w' => e = .returned (.tuple #[.agg #[.int .i64 ((findO s I).getD zeroO).p, .int .i64 ((findO s I).getD zeroO).t, .string ((findO s I).getD zeroO).s], .bool (findO s I).isSome]) ∧ Ext w w' := by
  obtain ⟨rb, v, L, rfl, hr, hf, _⟩ := h
  refine (rFind_any rb v L s false w hr).mono ?_
  rintro e w' ⟨rfl, hx⟩
  rw [(hf s).1]
  exact ⟨rfl, hx⟩
theorem foundQ {w : World} {I Q : List OpV} {p : Option Addr} (h : RfAt w (some (I, Q)) p) (s : ByteArray) :
    Calls Tryz.prog 54 #[.pointer p, .string s, .bool true] w fun e w' => e = .returned (.tuple #[.agg #[.int .i64 ((findO s Q).getD zeroO).p, .int .i64 ((findO s Q).getD zeroO).t, .string ((findO s Q).getD zeroO).s], .bool (findO s Q).isSome]) ∧ Ext w w' := by
  obtain ⟨rb, v, L, rfl, hr, hf, _⟩ := h
  refine (rFind_any rb v L s true w hr).mono ?_
  rintro e w' ⟨rfl, hx⟩
  rw [(hf s).2]
  exact ⟨rfl, hx⟩

set_option maxRecDepth 100000 in
set_option maxHeartbeats 2000000 in
theorem refPlain_any (t : Tm) (ho : okT t = true) (hk : t.k ≠ 4) (o : OpsV) (most : Int) (A : Option Addr) (c : Nat) (w : World) :
    Calls Tryz.prog 55 #[tmVal t A c] w fun e w' => e = .returned (.string (strB (txT o t most))) ∧ Ext w w' := by
  obtain ⟨hpk, _⟩ := okT_parts' ho
  obtain ⟨b1, b2, b3⟩ := part_bd hpk
  have hil := itoa_le b1 b2
  have HD := fun (W : World) => Lib.hid (refDigits_any t.n (by omega) (by omega) W)
  have HQ := fun (W : World) => Lib.hid (rQuote_any t.s.data.toList W (by simp; omega))
  rw [strB_mk] at HQ
  have hsz := strB_size (Lib.itoa t.n)
  have hap : (⟨#[95]⟩ : ByteArray) ++ strB (Lib.itoa t.n) = strB ([95] ++ Lib.itoa t.n) := strB_app [95] _
  have hbig : ¬ 9223372036854775807 < 1 + (Lib.itoa t.n).length := by omega
  rcases part_kind' hpk with k1 | k2 | k3 | k4
  · rw [tx_var (o := o) (most := most) k1]
    unfold tmVal
    rw [k1]
    clear hpk b1 b2 b3 hil k1 hk HQ ho
    generalize Lib.itoa t.n = q at *
    generalize t.n = n at *
    generalize t.s = s at *
    generalize t.l.length = m at *
    go_enter Tryz.func55, Tryz.ntmps55
    go_wp2_with (go_at_call 80; refine (HD _).out.mono ?_; rintro e w' ⟨rfl, rfl⟩)
    go_ret
    exact ⟨ret_str rfl, ext_box _ _⟩
  · rw [tx_int (o := o) (most := most) k2]
    unfold tmVal
    rw [k2]
    clear hpk b1 b2 b3 hil k2 hk HQ ho hap
    generalize Lib.itoa t.n = q at *
    generalize t.n = n at *
    generalize t.s = s at *
    generalize t.l.length = m at *
    go_enter Tryz.func55, Tryz.ntmps55
    go_wp2_with (go_at_call 80; refine (HD _).out.mono ?_; rintro e w' ⟨rfl, rfl⟩)
    go_ret
    exact ⟨ret_str rfl, ext_box _ _⟩
  · rw [tx_atom (o := o) (most := most) k3]
    unfold tmVal
    rw [k3]
    clear hpk b1 b2 b3 hil k3 hk HD ho hap hsz hbig
    generalize quoF t.s.data.toList = q at *
    generalize t.n = n at *
    generalize t.s = s at *
    generalize t.l.length = m at *
    go_enter Tryz.func55, Tryz.ntmps55
    go_wp2_with (go_at_call 59; refine (HQ _).out.mono ?_; rintro e W1 ⟨rfl, hx⟩; have HX := Lib.hid ((ext_box w _).trans hx); clear hx)
    go_ret
    exact ⟨ret_str rfl, HX.out⟩
  · exact absurd k4 hk

set_option maxRecDepth 100000 in
theorem refIsList_any (t : Tm) (A : Option Addr) (c : Nat) (w : World) :
    Calls Tryz.prog 56 #[tmVal t A c] w fun e w' => e = .returned (.bool (isLs t.k t.s t.l.length)) ∧ Ext w w' := by
  unfold tmVal
  cases h : isLs t.k t.s t.l.length
  · rcases ls_ways _ _ _ h with q1 | ⟨q1, q2⟩ | ⟨q1, q2, q3⟩
    all_goals
      clear h
      go_enter Tryz.func56, Tryz.ntmps56
      go_wp2_with fail
      go_ret
      exact ⟨rfl, ext_box _ _⟩
  · obtain ⟨q1, q2, q3⟩ := ls_yes _ _ _ h
    clear h
    go_enter Tryz.func56, Tryz.ntmps56
    go_wp2_with fail
    go_ret
    exact ⟨rfl, ext_box _ _⟩

/-- What open answers. -/
def opnF (I Q : List OpV) (t : Tm) : Int := match oprT I Q t with
  | none => 0
  | some x => rightI x.p x.t
theorem opn_two {I Q : List OpV} {t : Tm} (hk : t.k = 4) (hls : isLs t.k t.s t.l.length = false) (h2 : t.l.length = 2) : oprT I Q t = findO t.s I := by
  unfold oprT oprK
  have hd := of_decide_eq_false hls
  rw [if_neg (fun h => h.elim (fun h => h hk) (fun h => h.elim (fun h => hd ⟨hk, h.1, h.2⟩) (fun h => by omega))), if_pos h2]
theorem opn_one {I Q : List OpV} {t : Tm} (hk : t.k = 4) (h1 : t.l.length = 1) (hb : t.s.data.toList ≠ [123, 125]) (hm : isMinus t.s t.l = false) : oprT I Q t = findO t.s Q := by
  unfold oprT oprK
  rw [if_neg (fun h => h.elim (fun h => h hk) (fun h => h.elim (fun h => by omega) (fun h => hb h.1))), if_neg (by omega), if_pos ⟨h1, hm⟩]
theorem opn_br {I Q : List OpV} {t : Tm} (h1 : t.l.length = 1) (hb : t.s.data.toList = [123, 125]) : oprT I Q t = none := by
  unfold oprT oprK
  rw [if_pos (.inr (.inr ⟨hb, h1⟩))]
theorem opn_min {I Q : List OpV} {t : Tm} (h1 : t.l.length = 1) (hm : isMinus t.s t.l = true) : oprT I Q t = none := by
  unfold oprT oprK
  by_cases hc : t.k ≠ 4 ∨ (t.s.data.toList = [46] ∧ t.l.length = 2) ∨ (t.s.data.toList = [123, 125] ∧ t.l.length = 1)
  · rw [if_pos hc]
  · rw [if_neg hc, if_neg (by omega), if_neg (by simp [hm])]
theorem opn_more {I Q : List OpV} {t : Tm} (h1 : t.l.length ≠ 1) (h2 : t.l.length ≠ 2) : oprT I Q t = none := by
  unfold oprT oprK
  by_cases hc : t.k ≠ 4 ∨ (t.s.data.toList = [46] ∧ t.l.length = 2) ∨ (t.s.data.toList = [123, 125] ∧ t.l.length = 1)
  · rw [if_pos hc]
  · rw [if_neg hc, if_neg h2, if_neg (by simp [h1])]
theorem opn_not {I Q : List OpV} {t : Tm} (hk : t.k ≠ 4) : oprT I Q t = none := by
  unfold oprT oprK
  rw [if_pos (.inl hk)]
theorem opn_ls {I Q : List OpV} {t : Tm} (h : isLs t.k t.s t.l.length = true) : oprT I Q t = none := by
  unfold oprT oprK
  have hd := of_decide_eq_true h
  rw [if_pos (.inr (.inl hd.2))]
/-- What minus asks, of one argument. -/
theorem minus_ways {s : ByteArray} {a : Tm} {l : List Tm} (hl : l = [a]) : (isMinus s l = true ∧ (s.toList == [45]) = true ∧ (a.k == 2) = true) ∨ (isMinus s l = false ∧ (s.toList == [45]) = false) ∨ (isMinus s l = false ∧ (s.toList == [45]) = true ∧ (a.k == 2) = false) := by
  subst hl
  by_cases hs : s.data.toList = [45]
  · have h1 : (s.toList == [45]) = true := by rw [ByteArray.toList_eq]; simpa using hs
    cases h2 : (a.k == 2)
    · exact .inr (.inr ⟨by simp [isMinus, hs]; simpa using h2, h1, rfl⟩)
    · exact .inl ⟨by simp [isMinus, hs]; simpa using h2, h1, rfl⟩
  · exact .inr (.inl ⟨by simp [isMinus, hs], lit_ne hs⟩)

end Go.Proofs.YtnedihbffiddpaaGreatDoor

/- Layer 11, the reference: the walk of open. -/
namespace Go.Proofs.YtnedihbffiddpaaGreatDoor
open Go.RowKit Go.El

theorem some_getD {x : Option OpV} (h : x.isSome = true) : x = some (x.getD zeroO) := by
  cases x with
  | none => cases h
  | some a => rfl
theorem none_of {x : Option OpV} (h : x.isSome = false) : x = none := by
  cases x with
  | none => rfl
  | some a => cases h
theorem sq_ways (s l : List UInt8) (b : ByteArray) (h : b.data.toList = s) : (s = l ∧ (b.toList == l) = true ∧ (b.toList != l) = false) ∨ (s ≠ l ∧ (b.toList == l) = false ∧ (b.toList != l) = true) := by
  subst h
  rw [ByteArray.toList_eq]
  by_cases h : b.data.toList = l
  · exact .inl ⟨h, by simpa using h, by simpa using h⟩
  · exact .inr ⟨h, by simpa using h, by simpa using h⟩

set_option maxRecDepth 100000 in
set_option maxHeartbeats 8000000 in
theorem refOpen_any (t : Tm) (A : Option Addr) (c : Nat) (w : World) (D : Nat → Prop) (I Q : List OpV) (p : Option Addr) (ht : TmIn D w t A c) (hR : RfAt w (some (I, Q)) p) :
    Calls Tryz.prog 83 #[tmVal t A c, .pointer p] w fun e w' => e = .returned (.int .i64 (opnF I Q t)) ∧ Ext w w' := by
  have hx := ext_box w (.cells #[.int .i64 t.k, .int .i64 t.n, .string t.s, .slice A t.l.length c] 27)
  have HL := fun W => Lib.hid (refIsList_any t A c W)
  have HFI := fun (W : World) (x : Ext w W) => Lib.hid (foundI (hR.ext x) t.s)
  have HFQ := fun (W : World) (x : Ext w W) => Lib.hid (foundQ (hR.ext x) t.s)
  have HR := fun (W : World) (o : OpV) => Lib.hid (rRight_any o.p o.t o.s W)
  have HB := fun (W : World) (x : Ext (w.alloc (.cells #[.int .i64 t.k, .int .i64 t.n, .string t.s, .slice A t.l.length c] 27)) W) => Lib.hid (Blk.ext (Blk.new w 27 #[.int .i64 t.k, .int .i64 t.n, .string t.s, .slice A t.l.length c]) x)
  by_cases hk : t.k = 4
  · cases hls : isLs t.k t.s t.l.length
    · rw [hls] at HL
      have HT := Lib.hid ht
      have hH2 := fun h => opn_two (I := I) (Q := Q) hk hls h
      have hH1 := fun h1 hb hm => opn_one (I := I) (Q := Q) hk h1 hb hm
      have hHb := fun h1 hb => opn_br (t := t) (I := I) (Q := Q) h1 hb
      have hHm := fun h1 hm => opn_min (t := t) (I := I) (Q := Q) h1 hm
      have hHe := fun h1 h2 => opn_more (t := t) (I := I) (Q := Q) h1 h2
      have HO : Hid (opnF I Q t = match oprT I Q t with | none => 0 | some x => rightI x.p x.t) := rfl
      have hsI := fun h => some_getD (x := findO t.s I) h
      have hsQ := fun h => some_getD (x := findO t.s Q) h
      have hnI := fun h => none_of (x := findO t.s I) h
      have hnQ := fun h => none_of (x := findO t.s Q) h
      have HC : ∀ (a : Tm), t.l = [a] → ∃ b off, A = some ⟨b, off, none⟩ ∧ w.cell? ⟨b, off, none⟩ = some (.int .i64 a.k) := fun a ha => by
        obtain ⟨b, off, _, _, hA, _, _, q0, _, _, _⟩ := ht.child (j := 0) (u := a) (by rw [ha]; rfl)
        rw [Nat.zero_mul, Nat.add_zero] at q0
        exact ⟨b, off, hA, q0⟩
      unfold tmVal at HL ⊢
      rw [hk] at HL HB hx ⊢
      generalize opnF I Q t = r at *
      generalize oprT I Q t = op at *
      generalize hgI : findO t.s I = fI at *
      generalize hgQ : findO t.s Q = fQ at *
      generalize t.n = n at *
      generalize hgs : t.s = s at *
      generalize hgl : t.l = l at *
      generalize hgk : t.k = k at *
      clear ht hR hls hk hgI hgQ hgs hgk
      have H2 := Lib.hid hH2
      have H1 := Lib.hid hH1
      have Hb := Lib.hid hHb
      have Hm := Lib.hid hHm
      have He := Lib.hid hHe
      have HsI := Lib.hid hsI
      have HsQ := Lib.hid hsQ
      have HnI := Lib.hid hnI
      have HnQ := Lib.hid hnQ
      have HCH := Lib.hid HC
      clear hH2 hH1 hHb hHm hHe hsI hsQ hnI hnQ HC
      generalize hqI : fI.getD zeroO = oI at *
      generalize hqQ : fQ.getD zeroO = oQ at *
      generalize hbI : fI.isSome = sI at *
      generalize hbQ : fQ.isSome = sQ at *
      clear hqI hqQ hbI hbQ hgl
      go_enter Tryz.func83, Tryz.ntmps83
      go_upto_region 3 with (go_at_call 56; refine (HL _).out.mono ?_; rintro e W1 ⟨rfl, h1⟩; have X1 := Lib.hid (hx.trans h1); have B1 := HB _ h1; clear h1)
      have y2 : W1.cell? ⟨w.heap.size, 2, none⟩ = some (.string s) := B1.out.cell 2
      go_upto_region 4 with (go_at_call 54; refine (HFI _ X1.out).out.mono ?_; rintro e W2 ⟨rfl, h2⟩; have X2 := Lib.hid (X1.out.trans h2); have B2 := Lib.hid (B1.out.ext h2); clear h2)
      refine wp_abs (fun V => Hid (Blk V W2.heap.size 73 #[.int .i64 oI.p, .int .i64 oI.t, .string oI.s]) ∧ Hid (Blk V w.heap.size 27 #[.int .i64 4, .int .i64 n, .string s, .slice A l.length c]) ∧ Hid (Ext w V)) ⟨Blk.new W2 _ _, B2.out.alloc _, X2.out.alloc _⟩ ?_
      clear y2 X1 B1 X2 B2
      rintro V ⟨G1, B1, X1⟩
      have y2 : V.cell? ⟨w.heap.size, 2, none⟩ = some (.string s) := B1.out.cell 2
      go_upto_region 5 with (go_at_call 54; refine (HFQ _ X1.out).out.mono ?_; rintro e W3 ⟨rfl, h2⟩; have X2 := Lib.hid (X1.out.trans h2); have B2 := Lib.hid (B1.out.ext h2); have G2 := Lib.hid (G1.out.ext h2); clear h2)
      refine wp_abs (fun U => Hid (Blk U W3.heap.size 73 #[.int .i64 oQ.p, .int .i64 oQ.t, .string oQ.s]) ∧ Hid (Blk U W2.heap.size 73 #[.int .i64 oI.p, .int .i64 oI.t, .string oI.s]) ∧ Hid (Blk U w.heap.size 27 #[.int .i64 4, .int .i64 n, .string s, .slice A l.length c]) ∧ Hid (Ext w U)) ⟨Blk.new W3 _ _, G2.out.alloc _, B2.out.alloc _, X2.out.alloc _⟩ ?_
      clear y2 X1 B1 G1 X2 B2 G2 HFI HFQ HL HB hx
      rintro U ⟨K1, G1, B1, X1⟩
      have y2 : U.cell? ⟨w.heap.size, 2, none⟩ = some (.string s) := B1.out.cell 2
      have y3 : U.cell? ⟨w.heap.size, 3, none⟩ = some (.slice A l.length c) := B1.out.cell 3
      have z0 : U.cell? ⟨W2.heap.size, 0, none⟩ = some (.int .i64 oI.p) := G1.out.cell 0
      have z1 : U.cell? ⟨W2.heap.size, 1, none⟩ = some (.int .i64 oI.t) := G1.out.cell 1
      have z2 : U.cell? ⟨W2.heap.size, 2, none⟩ = some (.string oI.s) := G1.out.cell 2
      have u0 : U.cell? ⟨W3.heap.size, 0, none⟩ = some (.int .i64 oQ.p) := K1.out.cell 0
      have u1 : U.cell? ⟨W3.heap.size, 1, none⟩ = some (.int .i64 oQ.t) := K1.out.cell 1
      have u2 : U.cell? ⟨W3.heap.size, 2, none⟩ = some (.string oQ.s) := K1.out.cell 2
      by_cases h2 : l.length = 2
      · have q2 : ((l.length : Int) == 2) = true := by simpa using (show (l.length : Int) = 2 by omega)
        have q1 : ((l.length : Int) == 1) = false := by simpa using (show ¬ (l.length : Int) = 1 by omega)
        have e2 := H2.out h2
        clear h2
        cases sI
        · have E : Hid (r = 0) := Lib.hid (by rw [HO.out, e2, HnI.out rfl])
          clear e2
          go_wp2_with fail
          go_ret
          exact ⟨ret_int E.out.symm, X1.out⟩
        · have E : Hid (r = rightI oI.p oI.t) := Lib.hid (by rw [HO.out, e2, HsI.out rfl])
          clear e2
          go_wp2_with (go_at_call 84; refine (HR _ oI).out.mono ?_; rintro e W4 ⟨rfl, h4⟩; have X4 := Lib.hid (X1.out.trans h4); clear h4)
          go_ret
          exact ⟨ret_int E.out.symm, X4.out⟩
      · have q2 : ((l.length : Int) == 2) = false := by simpa using (show ¬ (l.length : Int) = 2 by omega)
        by_cases h1 : l.length = 1
        · have q1 : ((l.length : Int) == 1) = true := by simpa using (show (l.length : Int) = 1 by omega)
          obtain ⟨a, hla⟩ : ∃ a, l = [a] := by
            match l, h1 with
            | [a], _ => exact ⟨a, rfl⟩
          obtain ⟨bb, off, rfl, p0⟩ := HCH.out a hla
          have p1 := X1.out.cell p0
          have hl0 : (0 : Int) < (l.length : Int) := by omega
          have hw := minus_ways (s := s) hla
          have hb := sq_ways s.data.toList [123, 125] s rfl
          have eb := Hb.out h1
          have em := Hm.out h1
          have e1 := H1.out h1
          clear hla p0 h1 h2
          cases sQ
          · have E : Hid (r = 0) := by
              rcases hb with ⟨b1, _, _⟩ | ⟨b1, _, _⟩
              · exact Lib.hid (by rw [HO.out, eb b1])
              · rcases hw with ⟨m1, _, _⟩ | ⟨m1, _⟩ | ⟨m1, _, _⟩
                · exact Lib.hid (by rw [HO.out, em m1])
                · exact Lib.hid (by rw [HO.out, e1 b1 m1, HnQ.out rfl])
                · exact Lib.hid (by rw [HO.out, e1 b1 m1, HnQ.out rfl])
            clear eb em e1 hb hw
            go_wp2_with fail
            go_ret
            exact ⟨ret_int E.out.symm, X1.out⟩
          · rcases hb with ⟨b1, b2, b3⟩ | ⟨b1, b2, b3⟩
            · have E : Hid (r = 0) := Lib.hid (by rw [HO.out, eb b1])
              clear eb em e1 b1 hw
              go_wp2_with fail
              go_ret
              exact ⟨ret_int E.out.symm, X1.out⟩
            · rcases hw with ⟨m1, m2, m3⟩ | ⟨m1, m2⟩ | ⟨m1, m2, m3⟩
              · have E : Hid (r = 0) := Lib.hid (by rw [HO.out, em m1])
                clear eb em e1 b1 m1
                go_wp2_with fail
                go_ret
                exact ⟨ret_int E.out.symm, X1.out⟩
              all_goals
                have E : Hid (r = rightI oQ.p oQ.t) := Lib.hid (by rw [HO.out, e1 b1 m1, HsQ.out rfl])
                clear eb em e1 b1 m1
                go_wp2_with (go_at_call 84; refine (HR _ oQ).out.mono ?_; rintro e W4 ⟨rfl, h4⟩; have X4 := Lib.hid (X1.out.trans h4); clear h4)
                go_ret
                exact ⟨ret_int E.out.symm, X4.out⟩
        · have q1 : ((l.length : Int) == 1) = false := by simpa using (show ¬ (l.length : Int) = 1 by omega)
          have E : Hid (r = 0) := Lib.hid (by rw [HO.out, He.out h1 h2])
          clear h1 h2
          go_wp2_with fail
          go_ret
          exact ⟨ret_int E.out.symm, X1.out⟩
    · rw [hls] at HL
      have E : Hid (opnF I Q t = 0) := Lib.hid (by unfold opnF; rw [opn_ls hls])
      unfold tmVal at HL ⊢
      rw [hk] at HL HB hx ⊢
      generalize opnF I Q t = r at *
      clear hls ht hR hk
      go_enter Tryz.func83, Tryz.ntmps83
      go_wp2_with (go_at_call 56; refine (HL _).out.mono ?_; rintro e W1 ⟨rfl, h1⟩; have X1 := Lib.hid (hx.trans h1); clear h1)
      go_ret
      exact ⟨ret_int E.out.symm, X1.out⟩
  · have E : Hid (opnF I Q t = 0) := Lib.hid (by unfold opnF; rw [opn_not hk])
    have q1 : (t.k == 4) = false := by simpa using hk
    have q2 : (t.k != 4) = true := by simpa using hk
    unfold tmVal
    generalize opnF I Q t = r at *
    clear ht hR hk
    go_enter Tryz.func83, Tryz.ntmps83
    go_wp2_with fail
    go_ret
    exact ⟨ret_int E.out.symm, hx⟩

end Go.Proofs.YtnedihbffiddpaaGreatDoor

/- Layer 11, the reference: the contract of text; the walk of list. -/
namespace Go.El
theorem it_ok : ∀ (N : Nat) (t : Tm), szT t ≤ N → okT t = true → okL (itT t) = true ∧ okT (tlT t) = true
  | 0, t, h, _ => by have := szT_pos t; omega
  | N + 1, t, h, ho => by
    cases hl : isLs t.k t.s t.l.length
    · obtain ⟨h1, h2⟩ := ls_none hl
      rw [h1, h2]
      exact ⟨rfl, ho⟩
    · obtain ⟨a, b, hab, h1, h2⟩ := ls_split hl
      obtain ⟨_, hok⟩ := okT_parts' ho
      rw [hab] at hok
      simp only [okL, Bool.and_eq_true] at hok
      have hsz : szT t = 1 + (szT a + szT b) := by
        cases t with
        | mk k n s l =>
          simp only [Tm.l] at hab
          subst hab
          simp [szT, szL]
      obtain ⟨i1, i2⟩ := it_ok N b (by omega) hok.2.1
      rw [h1, h2]
      refine ⟨?_, i2⟩
      simp only [okL, Bool.and_eq_true]
      exact ⟨hok.1, i1⟩
end Go.El
namespace Go.Proofs.YtnedihbffiddpaaGreatDoor
open Go.RowKit Go.El

/-- What the reference's text does at terms of at most so many parts. -/
def RTxC (N : Nat) : Prop := ∀ t, szT t ≤ N → okT t = true → szT t ≤ 100000 → ∀ (w : World) (o : OpsV) (p : Option Addr) (most : Int) (bes : Bool) (A : Option Addr) (c : Nat) (D : Nat → Prop), RfAt w o p → (bes = true → o ≠ none) → TmIn D w t A c → -1000000000 ≤ most → most ≤ 1000000000 →
  Calls Tryz.prog 32 #[tmVal t A c, .pointer p, .int .i64 most, .bool bes] w fun e w' => e = .returned (.string (strB (brk (bes && bareT o t) (txT o t most)))) ∧ Ext w w'
/-- .. not beside an operator. -/
theorem RTxC.no {N : Nat} (h : RTxC N) {t : Tm} (h1 : szT t ≤ N) (h2 : okT t = true) (h3 : szT t ≤ 100000) {w : World} {o : OpsV} {p : Option Addr} (most : Int) {A : Option Addr} {c : Nat} {D : Nat → Prop} (hr : RfAt w o p) (ht : TmIn D w t A c) (h4 : -1000000000 ≤ most) (h5 : most ≤ 1000000000) :
    Calls Tryz.prog 32 #[.agg #[.int .i64 t.k, .int .i64 t.n, .string t.s, .slice A t.l.length c], .pointer p, .int .i64 most, .bool false] w fun e w' => e = .returned (.string (strB (txT o t most))) ∧ Ext w w' := by
  have := h t h1 h2 h3 w o p most false A c D hr (fun h => by cases h) ht h4 h5
  rw [Bool.false_and] at this
  exact this

set_option maxRecDepth 100000 in
set_option maxHeartbeats 8000000 in
theorem refList_any (N : Nat) (IH : RTxC N) (t : Tm) (hN : szT t ≤ N + 1) (hok : okT t = true) (hb : szT t ≤ 100000) (hls : isLs t.k t.s t.l.length = true) (w : World) (o : OpsV) (p : Option Addr) (most : Int) (A : Option Addr) (c : Nat) (D : Nat → Prop) (hR : RfAt w o p) (ht : TmIn D w t A c) :
    Calls Tryz.prog 57 #[tmVal t A c, .pointer p] w fun e w' => e = .returned (.string (strB (txT o t most))) ∧ Ext w w' := by
  have hx := ext_box w (.cells #[.int .i64 t.k, .int .i64 t.n, .string t.s, .slice A t.l.length c] 27)
  have hit := it_lt hls
  obtain ⟨hok1, hok2⟩ := it_ok (szT t) t (Nat.le_refl _) hok
  have HI := Lib.hid (refItems_any t (by omega) A c _ D (ht.ext hx))
  have HTX := Lib.hid (txT_list o most hls)
  have hpos := szT_pos (tlT t)
  have HRT := Lib.hid (rwT_take_le o (itT t) hok1)
  have HR := Lib.hid hR
  have HOK := Lib.hid hok1
  generalize txT o t most = X at *
  generalize hitt : itT t = its at *
  generalize htlt : tlT t = tl at *
  have htail := txT_le o tl 999 hok2
  unfold tmVal at HI ⊢
  clear ht hR hok hls hok1 hitt htlt
  go_enter Tryz.func57, Tryz.ntmps57
  go_upto_region 2 with (go_at_call 81; refine HI.out.mono ?_; rintro e W1 ⟨v, M, A', c', rfl, hR1, hM1, hT1⟩; obtain ⟨Av, cv, rfl⟩ := own_value hR1.own; have HR1 := Lib.hid hR1; have HM := Lib.hid hM1; have HT1 := Lib.hid hT1; clear hR1 hM1 hT1)
  have HML := Lib.hid (show M.length = its.length by rw [← HM.out]; simp)
  refine wp_abs (fun V => Hid (Blk V W1.heap.size 27 #[.int .i64 tl.k, .int .i64 tl.n, .string tl.s, .slice A' tl.l.length c']) ∧ Hid (V.ownsRow 0 27 4 (.slice Av M.length cv) M.length (flat tmC M)) ∧ Hid (∀ q ∈ M, TmIn D V q.1 q.2.1 q.2.2) ∧ Hid (TmIn D V tl A' c') ∧ Hid (Ext w V)) ⟨Blk.new W1 _ _, Lib.hid (own_ext HR1.out.own (ext_box _ _)), Lib.hid (fun q hq => (HR1.out.kid q hq).ext (HR1.out.ext.trans (ext_box _ _))), Lib.hid (HT1.out.ext (HR1.out.ext.trans (ext_box _ _))), Lib.hid (hx.trans (HR1.out.ext.trans (ext_box _ _)))⟩ ?_
  rintro V ⟨HB, HOW, HKID, HTL, HV⟩
  generalize W1.heap.size = g at *
  clear HR1 HT1 HI hx W1
  have hlen := len_szL its
  go_upto_region 4 with fail
  go_loopw [7, 8] (fun out i wr => ∃ (j : Nat) (s0 : ByteArray), j ≤ M.length ∧ out = .string s0 ∧ i = .int .i64 j ∧ Hid (s0 = strB ([91] ++ rwT o (its.take j))) ∧ Hid (Ext V wr)) (fun _ i _ => M.length - (intOf i).toNat)
  case atStart => exact ⟨0, _, Nat.zero_le _, rfl, rfl, Lib.hid (by simp [rwT]; rfl), Lib.hid (Ext.refl _)⟩
  case round =>
    obtain ⟨j, s0, hj, rfl, rfl, HS0, HX⟩ := hrel
    have hMl := HML.out
    have hmb : M.length ≤ 200000 := by omega
    have hle := HRT.out j
    have hsl := szL_take_le its j
    have hz0 : s0.size = 1 + (rwT o (its.take j)).length := by rw [HS0.out, strB_size]; simp; omega
    by_cases hlt : j < M.length
    · have hlt2 : j < its.length := by omega
      have ho : its[j]? = some its[j] := List.getElem?_eq_getElem hlt2
      have hq : M[j]? = some M[j] := List.getElem?_eq_getElem hlt
      have hqu : M[j].1 = its[j] := by
        have h1 : (M.map (·.1))[j]? = some its[j] := by rw [HM.out]; exact ho
        rw [List.getElem?_map, hq] at h1
        simpa using h1
      have hsu := szL_get ho
      have hou := okL_get HOK.out ho
      have hrt := Lib.hid (rwT_take o ho)
      have hkid := HKID.out _ (List.mem_of_getElem? hq)
      obtain ⟨bM, oM, rfl, hcell⟩ := Src.form (Src.of_own HOW.out) (by omega) (by omega)
      have p0 := HX.out.cell (hcell (j * 4) _ ((flat_at tmC_len M j 0 _ hq (by omega)).trans rfl))
      have p1 := HX.out.cell (hcell (j * 4 + 1) _ ((flat_at tmC_len M j 1 _ hq (by omega)).trans rfl))
      have p2 := HX.out.cell (hcell (j * 4 + 2) _ ((flat_at tmC_len M j 2 _ hq (by omega)).trans rfl))
      have p3 := HX.out.cell (hcell (j * 4 + 3) _ ((flat_at tmC_len M j 3 _ hq (by omega)).trans rfl))
      rw [← Nat.add_assoc] at p1 p2 p3
      rw [hqu] at hkid p0 p1 p2 p3
      clear hcell hq hqu ho
      generalize its[j] = u at *
      generalize M[j].2.1 = qA at *
      generalize M[j].2.2 = qc at *
      have HC := Lib.hid (IH.no (t := u) (by omega) hou (by omega) 999 (HR.out.ext (HV.out.trans HX.out)) (hkid.ext HX.out) (by omega) (by omega))
      have hlu := txT_le o u 999 hou
      have hzu := strB_size (txT o u 999)
      generalize hsu1 : strB (txT o u 999) = s1 at *
      have HS1 := Lib.hid hsu1
      clear hsu1 hkid hMl hlt2
      by_cases hj0 : j = 0
      · have hjc : ¬ (0 : Int) < (j : Int) := by omega
        rw [if_pos hj0, List.append_nil] at hrt
        have hbig : ¬ 9223372036854775807 < s0.size + s1.size := by omega
        clear hj0
        go_wp2_with (go_at_call 32; refine HC.out.mono ?_; rintro e W3 ⟨rfl, h3⟩; have H3 := Lib.hid (HX.out.trans h3); clear h3)
        go_roundw
        case rel => exact ⟨j + 1, s0 ++ s1, hlt, rfl, by go_num, Lib.hid (by rw [hrt.out, HS0.out, ← HS1.out, strB_app, List.append_assoc]), H3⟩
        case measure => simp [intOf]; omega
      · have hjc : (0 : Int) < (j : Int) := by omega
        rw [if_neg hj0] at hrt
        have hbig0 : ¬ 9223372036854775807 < s0.size + 1 := by omega
        have hbig : ¬ 9223372036854775807 < s0.size + 1 + s1.size := by omega
        clear hj0
        go_wp2_with (go_at_call 32; refine HC.out.mono ?_; rintro e W3 ⟨rfl, h3⟩; have H3 := Lib.hid (HX.out.trans h3); clear h3)
        go_roundw
        case rel => exact ⟨j + 1, s0 ++ ⟨#[44]⟩ ++ s1, hlt, rfl, by go_num, Lib.hid (by rw [hrt.out, HS0.out, ← HS1.out, show (⟨#[44]⟩ : ByteArray) = strB [44] from rfl, strB_app, strB_app]; simp), H3⟩
        case measure => simp [intOf]; omega
    · obtain rfl : j = M.length := by omega
      rw [hMl, List.take_length] at HS0
      rw [hMl, List.take_length] at hz0 hle
      have y0 : wr.cell? ⟨g, 0, none⟩ = some (.int .i64 tl.k) := (HB.out.ext HX.out).cell 0
      have y1 : wr.cell? ⟨g, 1, none⟩ = some (.int .i64 tl.n) := (HB.out.ext HX.out).cell 1
      have y2 : wr.cell? ⟨g, 2, none⟩ = some (.string tl.s) := (HB.out.ext HX.out).cell 2
      have y3 : wr.cell? ⟨g, 3, none⟩ = some (.slice A' tl.l.length c') := (HB.out.ext HX.out).cell 3
      have HC := Lib.hid (IH.no (t := tl) (by omega) hok2 (by omega) 999 (HR.out.ext (HV.out.trans HX.out)) (HTL.out.ext HX.out) (by omega) (by omega))
      have htf : tailF o tl = if tl.k = 3 ∧ tl.s.data.toList = [91, 93] then [93] else [124] ++ txT o tl 999 ++ [93] := rfl
      have hzu := strB_size (txT o tl 999)
      generalize hsu1 : strB (txT o tl 999) = s1 at *
      have HS1 := Lib.hid hsu1
      have hb0 : ¬ 9223372036854775807 < s0.size + 1 := by omega
      have hb1 : ¬ 9223372036854775807 < s0.size + 1 + s1.size := by omega
      have hb2 : ¬ 9223372036854775807 < s0.size + 1 + s1.size + 1 := by omega
      clear hsu1 hlt hMl
      by_cases hc : tl.k = 3 ∧ tl.s.data.toList = [91, 93]
      · rw [if_pos hc] at htf
        rw [htf] at HTX
        have q1 : (tl.k == 3) = true := by simpa using hc.1
        have q1' : (tl.k != 3) = false := by simpa using hc.1
        have q2 : (tl.s.toList == [91, 93]) = true := by rw [ByteArray.toList_eq]; simpa using hc.2
        have q2' : (tl.s.toList != [91, 93]) = false := by rw [ByteArray.toList_eq]; simpa using hc.2
        clear hc htf
        go_wp2_with fail
        go_ret
        exact ⟨ret_str (by rw [HTX.out, HS0.out]; exact strB_app _ [93]), HV.out.trans HX.out⟩
      · rw [if_neg hc] at htf
        rw [htf] at HTX
        have hw : ((tl.k == 3) = false ∧ (tl.k != 3) = true) ∨ ((tl.k == 3) = true ∧ (tl.k != 3) = false ∧ (tl.s.toList == [91, 93]) = false ∧ (tl.s.toList != [91, 93]) = true) := by
          by_cases h3 : tl.k = 3
          · have h4 : tl.s.data.toList ≠ [91, 93] := fun e => hc ⟨h3, e⟩
            refine .inr ⟨by simpa using h3, by simpa using h3, ?_, ?_⟩
            · rw [ByteArray.toList_eq]; simpa using h4
            · rw [ByteArray.toList_eq]; simpa using h4
          · exact .inl ⟨by simpa using h3, by simpa using h3⟩
        clear hc htf
        rcases hw with ⟨q1, q2⟩ | ⟨q1, q2, q3, q4⟩
        all_goals
          go_wp2_with (go_at_call 32; refine HC.out.mono ?_; rintro e W3 ⟨rfl, h3⟩; have H3 := Lib.hid (HX.out.trans h3); clear h3)
          go_ret
          exact ⟨ret_str (by rw [HTX.out, HS0.out, ← HS1.out, show (⟨#[124]⟩ : ByteArray) = strB [124] from rfl, show (⟨#[93]⟩ : ByteArray) = strB [93] from rfl, strB_app, strB_app, strB_app]; simp), HV.out.trans H3.out⟩

end Go.Proofs.YtnedihbffiddpaaGreatDoor
