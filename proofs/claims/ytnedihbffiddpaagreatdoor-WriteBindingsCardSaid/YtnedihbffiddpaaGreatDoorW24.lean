/- Layer 11, the program: the walk of term: its contract for all terms that may be. -/
import Derived.Test.YtnedihbffiddpaaGreatDoorW22
import Derived.Lib.AppendIntMem
namespace Go.Proofs.YtnedihbffiddpaaGreatDoor
open Go.RowKit Go.El

theorem itoa_calls (n : Int) (h0 : -9223372036854775808 ≤ n) (h1 : n ≤ 9223372036854775807) (w : World) (he : Env w) :
    Calls Tryz.prog 43 #[.int .i64 n] w fun e w' => e = .returned (.string (strB (Lib.itoa n))) ∧ Ext w w' := by
  refine (Tryz.strconv_Itoa n h0 h1 w he.pw).mono ?_
  rintro e w' ⟨rfl, k, os, rfl⟩
  exact ⟨rfl, Lib.below_grow _ w (Nat.le_refl _) k os⟩

/-- The texts of what is no compound. -/
theorem tx_var {o : OpsV} {t : Tm} {most : Int} (hk : t.k = 1) : txT o t most = [95] ++ Lib.itoa t.n := by
  cases t with
  | mk k n s l =>
    simp only [Tm.k] at hk
    subst hk
    have : isLs 1 s l.length = false := decide_eq_false (by simp)
    simp only [txT, this, hdF, Tm.n]
    simp
theorem tx_int {o : OpsV} {t : Tm} {most : Int} (hk : t.k = 2) : txT o t most = Lib.itoa t.n := by
  cases t with
  | mk k n s l =>
    simp only [Tm.k] at hk
    subst hk
    have : isLs 2 s l.length = false := decide_eq_false (by simp)
    simp only [txT, this, hdF, Tm.n]
    simp
theorem tx_atom {o : OpsV} {t : Tm} {most : Int} (hk : t.k = 3) : txT o t most = quoF t.s.data.toList := by
  cases t with
  | mk k n s l =>
    simp only [Tm.k] at hk
    subst hk
    have : isLs 3 s l.length = false := decide_eq_false (by simp)
    simp only [txT, this, hdF, Tm.s]
    simp

end Go.Proofs.YtnedihbffiddpaaGreatDoor

/- Layer 11, the program: the walk of term at variables, integers, atoms. -/
namespace Go.Proofs.YtnedihbffiddpaaGreatDoor
open Go.RowKit Go.El

set_option maxRecDepth 100000 in
set_option maxHeartbeats 4000000 in
theorem term_var (t : Tm) (hm : mayT t = true) (hk : t.k = 1) (base : Nat) (w : World) (b : Nat) (v : Value) (F : List UInt8) (o : OpsV) (op : Value) (most : Int) (A : Option Addr) (c : Nat) (h : WrSt base w b v F o op) (he : EnvIn w b v) (hl : F.length + 400 * szT t ≤ 800000000) :
    Calls Tryz.prog 26 #[.pointer (some ⟨b, 0, none⟩), tmVal t A c, .int .i64 most] w fun e w' => e = .returned (.tuple #[]) ∧ WrPost base w b v F (txT o t most) o op w' := by
  have hx := Lib.hid (tx_var (o := o) (most := most) hk)
  have hbd : -9007199254740991 ≤ t.n ∧ t.n ≤ 9007199254740991 ∧ t.s.size ≤ 64 := by
    have := (mayT_iff.1 hm).1
    cases t with
    | mk k n s l =>
      simp only [okT, Bool.and_eq_true] at this
      exact part_bd this.1
  have hup := szT_pos t
  have hil := itoa_le hbd.1 hbd.2.1
  have HC := fun W (x : Ext w W) => Lib.hid (itoa_calls t.n (by omega) (by omega) W (he.env.ext x))
  have hsz := strB_size (Lib.itoa t.n)
  have hst := strB_toList (Lib.itoa t.n)
  generalize strB (Lib.itoa t.n) = q at *
  generalize Lib.itoa t.n = QL at *
  have hbig : ¬ 9223372036854775807 < 1 + QL.length := by omega
  have H := Lib.hid h
  have HE := Lib.hid he
  unfold tmVal
  rw [hk]
  rw [hx.out]
  generalize t.n = n at *
  generalize t.s = s at *
  generalize t.l.length = m at *
  clear h he hm hk hx
  go_enter Tryz.func26, Tryz.ntmps26
  go_upto_region 5 with fail
  refine wp_abs (fun V => Hid (Blk V w.heap.size 27 #[.int .i64 1, .int .i64 n, .string s, .slice A m c]) ∧ Hid (Ext w V)) ⟨Blk.new w _ _, (Ext.refl w).alloc _⟩ ?_
  rintro V ⟨H4, HV⟩
  have y1 : V.cell? ⟨w.heap.size, 1, none⟩ = some (.int .i64 n) := H4.out.cell 1
  have y2 : V.cell? ⟨w.heap.size, 2, none⟩ = some (.string s) := H4.out.cell 2
  go_region_law ((first | (go_simp; go_at_call 43; refine (HC _ HV.out.drew).out.mono ?_; rintro e V2 ⟨rfl, hx⟩; have HV2 := Lib.hid (HV.out.drew.trans hx); clear hx) | (go_simp; go_at_call 25; refine (wrString (H.out.go HV2.out) _ (by rw [ByteArray.size_append, show (⟨#[95]⟩ : ByteArray).size = 1 from rfl]; omega)).mono ?_; rintro e V3 ⟨rfl, v3, h3, s3⟩; have H3 := Lib.hid h3; have S3 := Lib.hid ((WStep.ext (b := b) (v := v) HV2.out).trans s3); clear h3 s3)))
  all_goals
    go_wp2_with fail
    go_end0
    refine ⟨rfl, v3, ?_, S3.out⟩
    have := H3.out
    rw [app_list, hst] at this
    exact this

set_option maxRecDepth 100000 in
set_option maxHeartbeats 4000000 in
theorem term_int (t : Tm) (hm : mayT t = true) (hk : t.k = 2) (base : Nat) (w : World) (b : Nat) (v : Value) (F : List UInt8) (o : OpsV) (op : Value) (most : Int) (A : Option Addr) (c : Nat) (h : WrSt base w b v F o op) (he : EnvIn w b v) (hl : F.length + 400 * szT t ≤ 800000000) :
    Calls Tryz.prog 26 #[.pointer (some ⟨b, 0, none⟩), tmVal t A c, .int .i64 most] w fun e w' => e = .returned (.tuple #[]) ∧ WrPost base w b v F (txT o t most) o op w' := by
  have hx := Lib.hid (tx_int (o := o) (most := most) hk)
  have hbd : -9007199254740991 ≤ t.n ∧ t.n ≤ 9007199254740991 ∧ t.s.size ≤ 64 := by
    have := (mayT_iff.1 hm).1
    cases t with
    | mk k n s l =>
      simp only [okT, Bool.and_eq_true] at this
      exact part_bd this.1
  have hup := szT_pos t
  have hil := itoa_le hbd.1 hbd.2.1
  have HC := fun W (x : Ext w W) => Lib.hid (itoa_calls t.n (by omega) (by omega) W (he.env.ext x))
  have hsz := strB_size (Lib.itoa t.n)
  have hst := strB_toList (Lib.itoa t.n)
  generalize strB (Lib.itoa t.n) = q at *
  generalize Lib.itoa t.n = QL at *
  have hbig : ¬ 9223372036854775807 < 1 + QL.length := by omega
  have H := Lib.hid h
  have HE := Lib.hid he
  unfold tmVal
  rw [hk]
  rw [hx.out]
  generalize t.n = n at *
  generalize t.s = s at *
  generalize t.l.length = m at *
  clear h he hm hk hx
  go_enter Tryz.func26, Tryz.ntmps26
  go_upto_region 7 with fail
  refine wp_abs (fun V => Hid (Blk V w.heap.size 27 #[.int .i64 2, .int .i64 n, .string s, .slice A m c]) ∧ Hid (Ext w V)) ⟨Blk.new w _ _, (Ext.refl w).alloc _⟩ ?_
  rintro V ⟨H4, HV⟩
  have y1 : V.cell? ⟨w.heap.size, 1, none⟩ = some (.int .i64 n) := H4.out.cell 1
  have y2 : V.cell? ⟨w.heap.size, 2, none⟩ = some (.string s) := H4.out.cell 2
  go_region_law ((first | (go_simp; go_at_call 43; refine (HC _ HV.out.drew).out.mono ?_; rintro e V2 ⟨rfl, hx⟩; have HV2 := Lib.hid (HV.out.drew.trans hx); clear hx) | (go_simp; go_at_call 25; refine (wrString (H.out.go HV2.out) _ (by omega)).mono ?_; rintro e V3 ⟨rfl, v3, h3, s3⟩; have H3 := Lib.hid h3; have S3 := Lib.hid ((WStep.ext (b := b) (v := v) HV2.out).trans s3); clear h3 s3)))
  all_goals
    go_wp2_with fail
    go_end0
    refine ⟨rfl, v3, ?_, S3.out⟩
    have := H3.out
    rw [hst] at this
    exact this

set_option maxRecDepth 100000 in
set_option maxHeartbeats 4000000 in
theorem term_atom (t : Tm) (hm : mayT t = true) (hk : t.k = 3) (base : Nat) (w : World) (b : Nat) (v : Value) (F : List UInt8) (o : OpsV) (op : Value) (most : Int) (A : Option Addr) (c : Nat) (h : WrSt base w b v F o op) (he : EnvIn w b v) (hl : F.length + 400 * szT t ≤ 800000000) :
    Calls Tryz.prog 26 #[.pointer (some ⟨b, 0, none⟩), tmVal t A c, .int .i64 most] w fun e w' => e = .returned (.tuple #[]) ∧ WrPost base w b v F (txT o t most) o op w' := by
  have hx := Lib.hid (tx_atom (o := o) (most := most) hk)
  have hbd : -9007199254740991 ≤ t.n ∧ t.n ≤ 9007199254740991 ∧ t.s.size ≤ 64 := by
    have := (mayT_iff.1 hm).1
    cases t with
    | mk k n s l =>
      simp only [okT, Bool.and_eq_true] at this
      exact part_bd this.1
  have hup := szT_pos t
  have hil := quoF_le t.s.data.toList
  have hqe : t.s.data.toList.length = t.s.size := by simp
  have HC := fun W (x : Ext w W) => Lib.hid (quoteF_any t.s.data.toList W (by omega) (he.env.ext x).tz)
  rw [strB_mk] at HC
  have hsz := strB_size (quoF t.s.data.toList)
  have hst := strB_toList (quoF t.s.data.toList)
  generalize strB (quoF t.s.data.toList) = q at *
  generalize quoF t.s.data.toList = QL at *
  have H := Lib.hid h
  have HE := Lib.hid he
  unfold tmVal
  rw [hk]
  rw [hx.out]
  generalize t.n = n at *
  generalize t.s = s at *
  generalize t.l.length = m at *
  clear h he hm hk hx
  go_enter Tryz.func26, Tryz.ntmps26
  go_upto_region 9 with fail
  refine wp_abs (fun V => Hid (Blk V w.heap.size 27 #[.int .i64 3, .int .i64 n, .string s, .slice A m c]) ∧ Hid (Ext w V)) ⟨Blk.new w _ _, (Ext.refl w).alloc _⟩ ?_
  rintro V ⟨H4, HV⟩
  have y1 : V.cell? ⟨w.heap.size, 1, none⟩ = some (.int .i64 n) := H4.out.cell 1
  have y2 : V.cell? ⟨w.heap.size, 2, none⟩ = some (.string s) := H4.out.cell 2
  go_region_law ((first | (go_simp; go_at_call 44; refine (HC _ HV.out.drew).out.mono ?_; rintro e V2 ⟨rfl, hx⟩; have HV2 := Lib.hid (HV.out.drew.trans hx); clear hx) | (go_simp; go_at_call 25; refine (wrString (H.out.go HV2.out) _ (by omega)).mono ?_; rintro e V3 ⟨rfl, v3, h3, s3⟩; have H3 := Lib.hid h3; have S3 := Lib.hid ((WStep.ext (b := b) (v := v) HV2.out).trans s3); clear h3 s3)))
  all_goals
    go_wp2_with fail
    go_end0
    refine ⟨rfl, v3, ?_, S3.out⟩
    have := H3.out
    rw [hst] at this
    exact this

end Go.Proofs.YtnedihbffiddpaaGreatDoor

/- Layer 11, the program: the walk of term at compounds; its contract for all terms that may be. -/
namespace Go.Proofs.YtnedihbffiddpaaGreatDoor
open Go.RowKit Go.El

theorem tx_comp {o : OpsV} {t : Tm} {most : Int} (hk : t.k = 4) (hl : isLs t.k t.s t.l.length = false) : txT o t most = match o.bind (fun q => operF q.1 q.2 t.k t.s t.l most (a0T o t.l) (a1T o t.l)) with
    | some x => x
    | none => quoF t.s.data.toList ++ [40] ++ rwT o t.l ++ [41] := by
  cases t with
  | mk k n s l =>
    simp only [Tm.k, Tm.s, Tm.l] at hk hl ⊢
    subst hk
    simp only [txT, hl, hdF, Bool.false_eq_true, if_false]
    rw [if_neg (by decide), if_neg (by decide), if_neg (by decide)]
    generalize (o.bind fun q => operF q.1 q.2 4 s l most (a0T o l) (a1T o l)) = z
    cases z <;> rfl

set_option maxRecDepth 100000 in
set_option maxHeartbeats 4000000 in
theorem term_list (N : Nat) (IH : TermC N) (t : Tm) (hN : szT t ≤ N + 1) (hm : mayT t = true) (hk : t.k = 4) (hls : isLs t.k t.s t.l.length = true) (base : Nat) (w : World) (b : Nat) (v : Value) (F : List UInt8) (o : OpsV) (op : Value) (most : Int) (A : Option Addr) (c : Nat) (h : WrSt base w b v F o op) (he : EnvIn w b v) (ht : TmIn (Clr w b v) w t A c) (hl : F.length + 400 * szT t ≤ 800000000) :
    Calls Tryz.prog 26 #[.pointer (some ⟨b, 0, none⟩), tmVal t A c, .int .i64 most] w fun e w' => e = .returned (.tuple #[]) ∧ WrPost base w b v F (txT o t most) o op w' := by
  have hx := ext_box w (.cells #[.int .i64 t.k, .int .i64 t.n, .string t.s, .slice A t.l.length c] 27)
  have HL := Lib.hid (list_any N IH t hN hm hls base _ b v F o op most A c (h.go hx) (he.step (WStep.ext hx)) ((WStep.ext hx).tm ht) hl)
  have hd := of_decide_eq_true hls
  have s2 : (t.s.toList == [46]) = true := by rw [ByteArray.toList_eq]; simpa using hd.2.1
  have q2 : ((t.l.length : Int) == 2) = true := by simpa using (show (t.l.length : Int) = 2 by omega)
  have HS := Lib.hid (WStep.ext (b := b) (v := v) hx)
  unfold tmVal at HL ⊢
  rw [hk] at HL HS ⊢
  clear h he ht hl hls hd hx hm hN
  generalize txT o t most = X at *
  generalize t.n = n at *
  generalize t.s = s at *
  generalize t.l.length = m at *
  clear hk
  go_enter Tryz.func26, Tryz.ntmps26
  go_wp2_with (go_at_call 45; refine HL.out.mono ?_; rintro e w1 ⟨rfl, v1, h1, s1⟩; have H1 := Lib.hid h1; have S1 := Lib.hid (HS.out.trans s1); clear h1 s1)
  go_end0
  exact ⟨rfl, v1, H1.out, S1.out⟩

end Go.Proofs.YtnedihbffiddpaaGreatDoor

/- Layer 11, the program: the walk of term where an operator writes it. -/
namespace Go.Proofs.YtnedihbffiddpaaGreatDoor
open Go.RowKit Go.El

set_option maxRecDepth 100000 in
set_option maxHeartbeats 4000000 in
theorem term_op (N : Nat) (IH : TermC N) (t : Tm) (hN : szT t ≤ N + 1) (hm : mayT t = true) (hk : t.k = 4) (hls : isLs t.k t.s t.l.length = false) (base : Nat) (w : World) (b : Nat) (v : Value) (F : List UInt8) (o : OpsV) (op : Value) (most : Int) (X : List UInt8) (hX : o.bind (fun q => operF q.1 q.2 t.k t.s t.l most (a0T o t.l) (a1T o t.l)) = some X) (A : Option Addr) (c : Nat) (h : WrSt base w b v F o op) (he : EnvIn w b v) (ht : TmIn (Clr w b v) w t A c) (hl : F.length + 400 * szT t ≤ 800000000) :
    Calls Tryz.prog 26 #[.pointer (some ⟨b, 0, none⟩), tmVal t A c, .int .i64 most] w fun e w' => e = .returned (.tuple #[]) ∧ WrPost base w b v F (txT o t most) o op w' := by
  have hx := ext_box w (.cells #[.int .i64 t.k, .int .i64 t.n, .string t.s, .slice A t.l.length c] 27)
  have HO := Lib.hid ((operated_all N IH t hN hm base _ b v F o op most A c (h.go hx) (he.step (WStep.ext hx)) ((WStep.ext hx).tm ht) hl).mono (R' := fun e w' => e = .returned (.bool true) ∧ WrPost base (w.alloc (.cells #[.int .i64 t.k, .int .i64 t.n, .string t.s, .slice A t.l.length c] 27)) b v F X o op w') (fun e w' hh => by
    rcases hh with ⟨Y, hY, he, hp⟩ | ⟨hn, _, _⟩
    · rw [hX] at hY
      injection hY with hY
      exact ⟨he, hY ▸ hp⟩
    · rw [hX] at hn
      cases hn))
  have htx := tx_comp (most := most) (o := o) hk hls
  rw [hX] at htx
  have htx2 : txT o t most = X := htx
  rw [htx2]
  have hq : ((t.s.toList == [46]) = false) ∨ ((t.s.toList == [46]) = true ∧ ((t.l.length : Int) == 2) = false) := by
    by_cases hs : t.s.data.toList = [46]
    · right
      refine ⟨by rw [ByteArray.toList_eq]; simpa using hs, ?_⟩
      have := of_decide_eq_false hls
      simpa using (show ¬ (t.l.length : Int) = 2 from fun e => this ⟨hk, hs, by omega⟩)
    · exact .inl (lit_ne hs)
  have HS := Lib.hid (WStep.ext (b := b) (v := v) hx)
  unfold tmVal at HO ⊢
  rw [hk] at HO HS ⊢
  clear h he ht hl hls hx hm hN htx htx2 hX
  generalize t.n = n at *
  generalize t.s = s at *
  generalize t.l.length = m at *
  clear hk
  rcases hq with s2 | ⟨s2, q2⟩
  all_goals
    go_enter Tryz.func26, Tryz.ntmps26
    go_wp2_with (go_at_call 46; refine HO.out.mono ?_; rintro e w1 ⟨rfl, v1, h1, s1⟩; have H1 := Lib.hid h1; have S1 := Lib.hid (HS.out.trans s1); clear h1 s1)
    go_end0
    exact ⟨rfl, v1, H1.out, S1.out⟩

end Go.Proofs.YtnedihbffiddpaaGreatDoor
