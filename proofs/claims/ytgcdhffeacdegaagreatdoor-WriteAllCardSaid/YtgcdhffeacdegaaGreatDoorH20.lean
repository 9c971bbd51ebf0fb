/- Layer 11, the program: the walk of term: its contract for all terms that may be. -/
import Derived.Test.YtgcdhffeacdegaaGreatDoorH19
import Derived.Lib.AppendIntMem
import Derived.Test.YtgcdhffeacdegaaGreatDoorH17
namespace Go.Proofs.YtgcdhffeacdegaaGreatDoor
open Go.RowKit Go.El
theorem itoa_calls (n : Int) (h0 : -9223372036854775808 ≤ n) (h1 : n ≤ 9223372036854775807) (w : World) (he : Env w) :
  Calls Tryz.prog 118 #[.int .i64 n] w fun e w' => e = .returned (.string (strB (Lib.itoa n))) ∧ Ext w w' := by
 refine (Tryz.strconv_Itoa n h0 h1 w he.pw).mono ?_
 rintro e w' ⟨rfl, k, os, rfl⟩
 exact ⟨rfl, Lib.below_grow _ w (Nat.le_refl _) k os⟩
theorem tx_var {o : OpsV} {t : Tm} {most : Int} (hk : t.k = 1) : txT o t most = [95] ++ Lib.itoa t.n := by
 cases t with
 | mk k n s l =>
  simp only [Tm.k] at hk
  subst hk
  have : isLs 1 s l.length = false := decide_eq_false (by simp)
  simp only [txT, this, hdF, Tm.n]
  simp
theorem tx_int {o : OpsV} {t : Tm} {most : Int} (hk : t.k = 2) : txT o t most = Lib.itoa t.n := by
 cases t with
 | mk k n s l =>
  simp only [Tm.k] at hk
  subst hk
  have : isLs 2 s l.length = false := decide_eq_false (by simp)
  simp only [txT, this, hdF, Tm.n]
  simp
theorem tx_atom {o : OpsV} {t : Tm} {most : Int} (hk : t.k = 3) : txT o t most = quoF t.s.data.toList := by
 cases t with
 | mk k n s l =>
  simp only [Tm.k] at hk
  subst hk
  have : isLs 3 s l.length = false := decide_eq_false (by simp)
  simp only [txT, this, hdF, Tm.s]
  simp
end Go.Proofs.YtgcdhffeacdegaaGreatDoor
/- Layer 11, the program: the walk of term at variables, integers, atoms. -/
namespace Go.Proofs.YtgcdhffeacdegaaGreatDoor
open Go.RowKit Go.El
set_option maxRecDepth 100000 in
set_option maxHeartbeats 4000000 in
theorem term_var (t : Tm) (hm : mayT t = true) (hk : t.k = 1) (base : Nat) (w : World) (b : Nat) (v : Value) (F : List UInt8) (o : OpsV) (op : Value) (most : Int) (A : Option Addr) (c : Nat) (h : WrSt base w b v F o op) (he : EnvIn w b v) (hl : F.length + 400 * szT t ≤ 800000000) :
  Calls Tryz.prog 78 #[.pointer (some ⟨b, 0, none⟩), tmVal t A c, .int .i64 most] w fun e w' => e = .returned (.tuple #[]) ∧ WrPost base w b v F (txT o t most) o op w' := by
 have hx := Lib.hid (tx_var (o := o) (most := most) hk)
 have hbd : -9007199254740991 ≤ t.n ∧ t.n ≤ 9007199254740991 ∧ t.s.size ≤ 64 := by
  have := (mayT_iff.1 hm).1
  cases t with
  | mk k n s l =>
   simp only [okT, Bool.and_eq_true] at this
   exact part_bd this.1
 have hup := szT_pos t
 have hil := itoa_le hbd.1 hbd.2.1
 have HC := fun W (x : Ext w W) => Lib.hid (itoa_calls t.n (by omega) (by omega) W (he.env.ext x))
 have hsz := strB_size (Lib.itoa t.n)
 have hst := strB_toList (Lib.itoa t.n)
 generalize strB (Lib.itoa t.n) = q at *
 generalize Lib.itoa t.n = QL at *
 have hbig : ¬ 9223372036854775807 < 1 + QL.length := by omega
 have H := Lib.hid h
 have HE := Lib.hid he
 unfold tmVal
 rw [hk]
 rw [hx.out]
 generalize t.n = n at *
 generalize t.s = s at *
 generalize t.l.length = m at *
 clear h he hm hk hx
 go_enter Tryz.func78, Tryz.ntmps78
 go_upto_region 5 with fail
 refine wp_abs (fun V => Hid (Blk V w.heap.size 32 #[.int .i64 1, .int .i64 n, .string s, .slice A m c]) ∧ Hid (Ext w V)) ⟨Blk.new w _ _, (Ext.refl w).alloc _⟩ ?_
 rintro V ⟨H4, HV⟩
 have y1 : V.cell? ⟨w.heap.size, 1, none⟩ = some (.int .i64 n) := H4.out.cell 1
 have y2 : V.cell? ⟨w.heap.size, 2, none⟩ = some (.string s) := H4.out.cell 2
 go_region_law ((first | (go_simp; go_at_call 118; refine (HC _ HV.out.drew).out.mono ?_; rintro e V2 ⟨rfl, hx⟩; have HV2 := Lib.hid (HV.out.drew.trans hx); clear hx) | (go_simp; go_at_call 77; refine (wrString (H.out.go HV2.out) _ (by rw [ByteArray.size_append, show (⟨#[95]⟩ : ByteArray).size = 1 from rfl]; omega)).mono ?_; rintro e V3 ⟨rfl, v3, h3, s3⟩; have H3 := Lib.hid h3; have S3 := Lib.hid ((WStep.ext (b := b) (v := v) HV2.out).trans s3); clear h3 s3)))
 all_goals
  go_wp2_with fail
  go_end0
  refine ⟨rfl, v3, ?_, S3.out⟩
  have := H3.out
  rw [app_list, hst] at this
  exact this
set_option maxRecDepth 100000 in
set_option maxHeartbeats 4000000 in
theorem term_int (t : Tm) (hm : mayT t = true) (hk : t.k = 2) (base : Nat) (w : World) (b : Nat) (v : Value) (F : List UInt8) (o : OpsV) (op : Value) (most : Int) (A : Option Addr) (c : Nat) (h : WrSt base w b v F o op) (he : EnvIn w b v) (hl : F.length + 400 * szT t ≤ 800000000) :
  Calls Tryz.prog 78 #[.pointer (some ⟨b, 0, none⟩), tmVal t A c, .int .i64 most] w fun e w' => e = .returned (.tuple #[]) ∧ WrPost base w b v F (txT o t most) o op w' := by
 have hx := Lib.hid (tx_int (o := o) (most := most) hk)
 have hbd : -9007199254740991 ≤ t.n ∧ t.n ≤ 9007199254740991 ∧ t.s.size ≤ 64 := by
  have := (mayT_iff.1 hm).1
  cases t with
  | mk k n s l =>
   simp only [okT, Bool.and_eq_true] at this
   exact part_bd this.1
 have hup := szT_pos t
 have hil := itoa_le hbd.1 hbd.2.1
 have HC := fun W (x : Ext w W) => Lib.hid (itoa_calls t.n (by omega) (by omega) W (he.env.ext x))
 have hsz := strB_size (Lib.itoa t.n)
 have hst := strB_toList (Lib.itoa t.n)
 generalize strB (Lib.itoa t.n) = q at *
 generalize Lib.itoa t.n = QL at *
 have hbig : ¬ 9223372036854775807 < 1 + QL.length := by omega
 have H := Lib.hid h
 have HE := Lib.hid he
 unfold tmVal
 rw [hk]
 rw [hx.out]
 generalize t.n = n at *
 generalize t.s = s at *
 generalize t.l.length = m at *
 clear h he hm hk hx
 go_enter Tryz.func78, Tryz.ntmps78
 go_upto_region 7 with fail
 refine wp_abs (fun V => Hid (Blk V w.heap.size 32 #[.int .i64 2, .int .i64 n, .string s, .slice A m c]) ∧ Hid (Ext w V)) ⟨Blk.new w _ _, (Ext.refl w).alloc _⟩ ?_
 rintro V ⟨H4, HV⟩
 have y1 : V.cell? ⟨w.heap.size, 1, none⟩ = some (.int .i64 n) := H4.out.cell 1
 have y2 : V.cell? ⟨w.heap.size, 2, none⟩ = some (.string s) := H4.out.cell 2
 go_region_law ((first | (go_simp; go_at_call 118; refine (HC _ HV.out.drew).out.mono ?_; rintro e V2 ⟨rfl, hx⟩; have HV2 := Lib.hid (HV.out.drew.trans hx); clear hx) | (go_simp; go_at_call 77; refine (wrString (H.out.go HV2.out) _ (by omega)).mono ?_; rintro e V3 ⟨rfl, v3, h3, s3⟩; have H3 := Lib.hid h3; have S3 := Lib.hid ((WStep.ext (b := b) (v := v) HV2.out).trans s3); clear h3 s3)))
 all_goals
  go_wp2_with fail
  go_end0
  refine ⟨rfl, v3, ?_, S3.out⟩
  have := H3.out
  rw [hst] at this
  exact this
set_option maxRecDepth 100000 in
set_option maxHeartbeats 4000000 in
theorem term_atom (t : Tm) (hm : mayT t = true) (hk : t.k = 3) (base : Nat) (w : World) (b : Nat) (v : Value) (F : List UInt8) (o : OpsV) (op : Value) (most : Int) (A : Option Addr) (c : Nat) (h : WrSt base w b v F o op) (he : EnvIn w b v) (hl : F.length + 400 * szT t ≤ 800000000) :
  Calls Tryz.prog 78 #[.pointer (some ⟨b, 0, none⟩), tmVal t A c, .int .i64 most] w fun e w' => e = .returned (.tuple #[]) ∧ WrPost base w b v F (txT o t most) o op w' := by
 have hx := Lib.hid (tx_atom (o := o) (most := most) hk)
 have hbd : -9007199254740991 ≤ t.n ∧ t.n ≤ 9007199254740991 ∧ t.s.size ≤ 64 := by
  have := (mayT_iff.1 hm).1
  cases t with
  | mk k n s l =>
   simp only [okT, Bool.and_eq_true] at this
   exact part_bd this.1
 have hup := szT_pos t
 have hil := quoF_le t.s.data.toList
 have hqe : t.s.data.toList.length = t.s.size := by simp
 have HC := fun W (x : Ext w W) => Lib.hid (quoteF_any t.s.data.toList W (by omega) (he.env.ext x).tz)
 rw [strB_mk] at HC
 have hsz := strB_size (quoF t.s.data.toList)
 have hst := strB_toList (quoF t.s.data.toList)
 generalize strB (quoF t.s.data.toList) = q at *
 generalize quoF t.s.data.toList = QL at *
 have H := Lib.hid h
 have HE := Lib.hid he
 unfold tmVal
 rw [hk]
 rw [hx.out]
 generalize t.n = n at *
 generalize t.s = s at *
 generalize t.l.length = m at *
 clear h he hm hk hx
 go_enter Tryz.func78, Tryz.ntmps78
 go_upto_region 9 with fail
 refine wp_abs (fun V => Hid (Blk V w.heap.size 32 #[.int .i64 3, .int .i64 n, .string s, .slice A m c]) ∧ Hid (Ext w V)) ⟨Blk.new w _ _, (Ext.refl w).alloc _⟩ ?_
 rintro V ⟨H4, HV⟩
 have y1 : V.cell? ⟨w.heap.size, 1, none⟩ = some (.int .i64 n) := H4.out.cell 1
 have y2 : V.cell? ⟨w.heap.size, 2, none⟩ = some (.string s) := H4.out.cell 2
 go_region_law ((first | (go_simp; go_at_call 119; refine (HC _ HV.out.drew).out.mono ?_; rintro e V2 ⟨rfl, hx⟩; have HV2 := Lib.hid (HV.out.drew.trans hx); clear hx) | (go_simp; go_at_call 77; refine (wrString (H.out.go HV2.out) _ (by omega)).mono ?_; rintro e V3 ⟨rfl, v3, h3, s3⟩; have H3 := Lib.hid h3; have S3 := Lib.hid ((WStep.ext (b := b) (v := v) HV2.out).trans s3); clear h3 s3)))
 all_goals
  go_wp2_with fail
  go_end0
  refine ⟨rfl, v3, ?_, S3.out⟩
  have := H3.out
  rw [hst] at this
  exact this
end Go.Proofs.YtgcdhffeacdegaaGreatDoor
/- Layer 11, the program: the walk of term at compounds; its contract for all terms that may be. -/
namespace Go.Proofs.YtgcdhffeacdegaaGreatDoor
open Go.RowKit Go.El
theorem tx_comp {o : OpsV} {t : Tm} {most : Int} (hk : t.k = 4) (hl : isLs t.k t.s t.l.length = false) : txT o t most = match o.bind (fun q => operF q.1 q.2 t.k t.s t.l most (a0T o t.l) (a1T o t.l)) with
  | some x => x
  | none => quoF t.s.data.toList ++ [40] ++ rwT o t.l ++ [41] := by
 cases t with
 | mk k n s l =>
  simp only [Tm.k, Tm.s, Tm.l] at hk hl ⊢
  subst hk
  simp only [txT, hl, hdF, Bool.false_eq_true, if_false]
  rw [if_neg (by decide), if_neg (by decide), if_neg (by decide)]
  generalize (o.bind fun q => operF q.1 q.2 4 s l most (a0T o l) (a1T o l)) = z
  cases z <;> rfl
set_option maxRecDepth 100000 in
set_option maxHeartbeats 4000000 in
theorem term_list (N : Nat) (IH : TermC N) (t : Tm) (hN : szT t ≤ N + 1) (hm : mayT t = true) (hk : t.k = 4) (hls : isLs t.k t.s t.l.length = true) (base : Nat) (w : World) (b : Nat) (v : Value) (F : List UInt8) (o : OpsV) (op : Value) (most : Int) (A : Option Addr) (c : Nat) (h : WrSt base w b v F o op) (he : EnvIn w b v) (ht : TmIn (Clr w b v) w t A c) (hl : F.length + 400 * szT t ≤ 800000000) :
  Calls Tryz.prog 78 #[.pointer (some ⟨b, 0, none⟩), tmVal t A c, .int .i64 most] w fun e w' => e = .returned (.tuple #[]) ∧ WrPost base w b v F (txT o t most) o op w' := by
 have hx := ext_box w (.cells #[.int .i64 t.k, .int .i64 t.n, .string t.s, .slice A t.l.length c] 32)
 have HL := Lib.hid (list_any N IH t hN hm hls base _ b v F o op most A c (h.go hx) (he.step (WStep.ext hx)) ((WStep.ext hx).tm ht) hl)
 have hd := of_decide_eq_true hls
 have s2 : (t.s.toList == [46]) = true := by rw [ByteArray.toList_eq]; simpa using hd.2.1
 have q2 : ((t.l.length : Int) == 2) = true := by simpa using (show (t.l.length : Int) = 2 by omega)
 have HS := Lib.hid (WStep.ext (b := b) (v := v) hx)
 unfold tmVal at HL ⊢
 rw [hk] at HL HS ⊢
 clear h he ht hl hls hd hx hm hN
 generalize txT o t most = X at *
 generalize t.n = n at *
 generalize t.s = s at *
 generalize t.l.length = m at *
 clear hk
 go_enter Tryz.func78, Tryz.ntmps78
 go_wp2_with (go_at_call 120; refine HL.out.mono ?_; rintro e w1 ⟨rfl, v1, h1, s1⟩; have H1 := Lib.hid h1; have S1 := Lib.hid (HS.out.trans s1); clear h1 s1)
 go_end0
 exact ⟨rfl, v1, H1.out, S1.out⟩
end Go.Proofs.YtgcdhffeacdegaaGreatDoor
/- Layer 11, the program: the walk of term where an operator writes it. -/
namespace Go.Proofs.YtgcdhffeacdegaaGreatDoor
open Go.RowKit Go.El
set_option maxRecDepth 100000 in
set_option maxHeartbeats 4000000 in
theorem term_op (N : Nat) (IH : TermC N) (t : Tm) (hN : szT t ≤ N + 1) (hm : mayT t = true) (hk : t.k = 4) (hls : isLs t.k t.s t.l.length = false) (base : Nat) (w : World) (b : Nat) (v : Value) (F : List UInt8) (o : OpsV) (op : Value) (most : Int) (X : List UInt8) (hX : o.bind (fun q => operF q.1 q.2 t.k t.s t.l most (a0T o t.l) (a1T o t.l)) = some X) (A : Option Addr) (c : Nat) (h : WrSt base w b v F o op) (he : EnvIn w b v) (ht : TmIn (Clr w b v) w t A c) (hl : F.length + 400 * szT t ≤ 800000000) :
  Calls Tryz.prog 78 #[.pointer (some ⟨b, 0, none⟩), tmVal t A c, .int .i64 most] w fun e w' => e = .returned (.tuple #[]) ∧ WrPost base w b v F (txT o t most) o op w' := by
 have hx := ext_box w (.cells #[.int .i64 t.k, .int .i64 t.n, .string t.s, .slice A t.l.length c] 32)
 have HO := Lib.hid ((operated_all N IH t hN hm base _ b v F o op most A c (h.go hx) (he.step (WStep.ext hx)) ((WStep.ext hx).tm ht) hl).mono (R' := fun e w' => e = .returned (.bool true) ∧ WrPost base (w.alloc (.cells #[.int .i64 t.k, .int .i64 t.n, .string t.s, .slice A t.l.length c] 32)) b v F X o op w') (fun e w' hh => by
  rcases hh with ⟨Y, hY, he, hp⟩ | ⟨hn, _, _⟩
  ·rw [hX] at hY
   injection hY with hY
   exact ⟨he, hY ▸ hp⟩
  ·rw [hX] at hn
   cases hn))
 have htx := tx_comp (most := most) (o := o) hk hls
 rw [hX] at htx
 have htx2 : txT o t most = X := htx
 rw [htx2]
 have hq : ((t.s.toList == [46]) = false) ∨ ((t.s.toList == [46]) = true ∧ ((t.l.length : Int) == 2) = false) := by
  by_cases hs : t.s.data.toList = [46]
  ·right
   refine ⟨by rw [ByteArray.toList_eq]; simpa using hs, ?_⟩
   have := of_decide_eq_false hls
   simpa using (show ¬ (t.l.length : Int) = 2 from fun e => this ⟨hk, hs, by omega⟩)
  ·exact .inl (lit_ne hs)
 have HS := Lib.hid (WStep.ext (b := b) (v := v) hx)
 unfold tmVal at HO ⊢
 rw [hk] at HO HS ⊢
 clear h he ht hl hls hx hm hN htx htx2 hX
 generalize t.n = n at *
 generalize t.s = s at *
 generalize t.l.length = m at *
 clear hk
 rcases hq with s2 | ⟨s2, q2⟩
 all_goals
  go_enter Tryz.func78, Tryz.ntmps78
  go_wp2_with (go_at_call 121; refine HO.out.mono ?_; rintro e w1 ⟨rfl, v1, h1, s1⟩; have H1 := Lib.hid h1; have S1 := Lib.hid (HS.out.trans s1); clear h1 s1)
  go_end0
  exact ⟨rfl, v1, H1.out, S1.out⟩
end Go.Proofs.YtgcdhffeacdegaaGreatDoor

/- Layer 11, the program: the walk of term where no operator writes it; its contract for all terms that may be. -/
namespace Go.Proofs.YtgcdhffeacdegaaGreatDoor
open Go.RowKit Go.El
theorem szT_eq (t : Tm) : szT t = 1 + szL t.l := by cases t; rfl
theorem okT_parts {t : Tm} (h : okT t = true) : partK t.k t.n t.s t.l.length = true ∧ okL t.l = true := by
 cases t with
 | mk k n s l =>
  simp only [okT, Bool.and_eq_true] at h
  exact h
theorem part_kind {k n : Int} {s : ByteArray} {m : Nat} (h : partK k n s m = true) : k = 1 ∨ k = 2 ∨ k = 3 ∨ k = 4 := by
 unfold partK at h
 by_cases h1 : k = 1
 ·exact .inl h1
 ·by_cases h2 : k = 2
  ·exact .inr (.inl h2)
  ·by_cases h3 : k = 3
   ·exact .inr (.inr (.inl h3))
   ·by_cases h4 : k = 4
    ·exact .inr (.inr (.inr h4))
    ·simp [h1, h2, h3, h4] at h
set_option maxRecDepth 100000 in
set_option maxHeartbeats 8000000 in
theorem term_def (N : Nat) (IH : TermC N) (t : Tm) (hN : szT t ≤ N + 1) (hm : mayT t = true) (hk : t.k = 4) (hls : isLs t.k t.s t.l.length = false) (base : Nat) (w : World) (b : Nat) (v : Value) (F : List UInt8) (o : OpsV) (op : Value) (most : Int) (hX : o.bind (fun q => operF q.1 q.2 t.k t.s t.l most (a0T o t.l) (a1T o t.l)) = none) (A : Option Addr) (c : Nat) (h : WrSt base w b v F o op) (he : EnvIn w b v) (ht : TmIn (Clr w b v) w t A c) (hl : F.length + 400 * szT t ≤ 800000000) :
  Calls Tryz.prog 78 #[.pointer (some ⟨b, 0, none⟩), tmVal t A c, .int .i64 most] w fun e w' => e = .returned (.tuple #[]) ∧ WrPost base w b v F (txT o t most) o op w' := by
 have hx := ext_box w (.cells #[.int .i64 t.k, .int .i64 t.n, .string t.s, .slice A t.l.length c] 32)
 have HO := Lib.hid ((operated_all N IH t hN hm base _ b v F o op most A c (h.go hx) (he.step (WStep.ext hx)) ((WStep.ext hx).tm ht) hl).mono (R' := fun e w' => e = .returned (.bool false) ∧ Ext (w.alloc (.cells #[.int .i64 t.k, .int .i64 t.n, .string t.s, .slice A t.l.length c] 32)) w') (fun e w' hh => by
  rcases hh with ⟨Y, hY, _, _⟩ | ⟨_, he, hp⟩
  ·rw [hX] at hY
   cases hY
  ·exact ⟨he, hp⟩))
 have htx := tx_comp (most := most) (o := o) hk hls
 rw [hX] at htx
 have htx2 : txT o t most = quoF t.s.data.toList ++ [40] ++ rwT o t.l ++ [41] := htx
 rw [htx2]
 obtain ⟨hpk, hokl⟩ := okT_parts (mayT_iff.1 hm).1
 have hs64 : t.s.size ≤ 64 := (part_bd hpk).2.2
 have hq := quoF_le t.s.data.toList
 have hqe : t.s.data.toList.length = t.s.size := by simp
 have hsz := szT_eq t
 have hrow : ∀ (j : Nat) (u : Tm), t.l[j]? = some u → szT u ≤ N ∧ mayT u = true := fun j u hj => ⟨by have := szT_lt hj; omega, mayT_get hm hj⟩
 have hrl := rwT_le o t.l hokl
 have HRT := Lib.hid (rwT_take_le o t.l hokl)
 have HROW := Lib.hid hrow
 clear hrow
 have HQ := fun W (x : Ext w W) => Lib.hid (quoteF_any t.s.data.toList W (by omega) (TzAt.ext he.env.tz x))
 rw [strB_mk] at HQ
 have hqs := strB_size (quoF t.s.data.toList)
 have hqd := strB_toList (quoF t.s.data.toList)
 have hq2 : ((t.s.toList == [46]) = false) ∨ ((t.s.toList == [46]) = true ∧ ((t.l.length : Int) == 2) = false) := by
  by_cases hs : t.s.data.toList = [46]
  ·right
   refine ⟨by rw [ByteArray.toList_eq]; simpa using hs, ?_⟩
   have := of_decide_eq_false hls
   simpa using (show ¬ (t.l.length : Int) = 2 from fun e => this ⟨hk, hs, by omega⟩)
  ·exact .inl (lit_ne hs)
 have HT := Lib.hid ht
 have H := Lib.hid h
 have HE := Lib.hid he
 unfold tmVal at HO ⊢
 rw [hk] at HO hx ⊢
 generalize strB (quoF t.s.data.toList) = qs at *
 generalize hQL : quoF t.s.data.toList = QL at *
 generalize t.n = n at *
 generalize hS : t.s = s at *
 clear h he ht hls hm hN htx htx2 hX hk hQL hS hpk
 have hbig : ¬ 9223372036854775807 < QL.length + 1 := by omega
 have HB := fun (W : World) (x : Ext (w.alloc (.cells #[.int .i64 4, .int .i64 n, .string s, .slice A t.l.length c] 32)) W) => Lib.hid ((Blk.new w 32 #[.int .i64 4, .int .i64 n, .string s, .slice A t.l.length c]).ext x)
 rcases hq2 with s2 | ⟨s2, q2⟩
 all_goals
  go_enter Tryz.func78, Tryz.ntmps78
  go_upto_region 1 with (go_at_call 121; refine HO.out.mono ?_; rintro e V ⟨rfl, hv⟩; have H4 := HB V hv; have HV := Lib.hid (hx.trans hv); clear hv)
  have z2 : V.cell? ⟨w.heap.size, 2, none⟩ = some (.string s) := H4.out.cell 2
  go_region_law ((first | (go_simp; go_at_call 119; refine (HQ _ (HV.out.drew)).out.mono ?_; rintro e V2 ⟨rfl, hx⟩; have HV2 := Lib.hid (HV.out.drew.trans hx); have H42 := Lib.hid ((H4.out.drewN 1).ext hx); clear hx) | (go_simp; go_at_call 77; refine (wrString (H.out.go HV2.out) _ (by rw [ByteArray.size_append, show (⟨#[40]⟩ : ByteArray).size = 1 from rfl]; omega)).mono ?_; rintro e V3 ⟨rfl, v3, h3, s3⟩; have H3 := Lib.hid h3; have S3 := Lib.hid ((WStep.ext (b := b) (v := v) HV2.out).trans s3); have H43 := Lib.hid (H42.out.mods s3.mods (new_clr H.out (Nat.le_refl _) H42.out.lt).no); clear h3 s3)))
  all_goals
   have x3 : V3.cell? ⟨w.heap.size, 3, none⟩ = some (.slice A t.l.length c) := H43.out.cell 3
   have HR := Lib.hid (wrow_any N IH t.l HROW.out base V3 b v3 _ o op A c H3.out (HE.out.step S3.out) (S3.out.tm HT.out).args (by rw [List.length_append, app_list]; simp; omega) HRT.out)
   go_wp2_with (first | (go_at_call 122; refine HR.out.mono ?_; rintro e V4 ⟨rfl, v4, h4, s4⟩; have H4' := Lib.hid h4; have S4 := Lib.hid (S3.out.trans s4); clear h4 s4) | (go_at_call 123; refine (wrByte H4'.out 41 (by rw [List.length_append, List.length_append, app_list]; simp; omega)).mono ?_; rintro e V5 ⟨rfl, v5, h5, s5⟩; have H5 := Lib.hid h5; have S5 := Lib.hid (S4.out.trans s5); clear h5 s5))
   go_end0
   refine ⟨rfl, v5, ?_, S5.out⟩
   have := H5.out
   rw [app_list, hqd] at this
   simpa using this
theorem term_step (N : Nat) (IH : TermC N) : TermC (N + 1) := by
 intro t hN hm base w b v F o op most A c h he ht hl h1 h2
 obtain ⟨hpk, _⟩ := okT_parts (mayT_iff.1 hm).1
 rcases part_kind hpk with hk | hk | hk | hk
 ·exact term_var t hm hk base w b v F o op most A c h he hl
 ·exact term_int t hm hk base w b v F o op most A c h he hl
 ·exact term_atom t hm hk base w b v F o op most A c h he hl
 ·cases hls : isLs t.k t.s t.l.length
  ·cases hX : o.bind (fun q => operF q.1 q.2 t.k t.s t.l most (a0T o t.l) (a1T o t.l)) with
   | none => exact term_def N IH t hN hm hk hls base w b v F o op most hX A c h he ht hl
   | some X => exact term_op N IH t hN hm hk hls base w b v F o op most X hX A c h he ht hl
  ·exact term_list N IH t hN hm hk hls base w b v F o op most A c h he ht hl
theorem term_all : ∀ N, TermC N
 | 0 => fun t h => by
  have := szT_pos t
  omega
 | N + 1 => term_step N (term_all N)
end Go.Proofs.YtgcdhffeacdegaaGreatDoor

/- Layer 11, plain: two terms that may be have one canonical text just if they are the same. No program in sight. -/
namespace Go.El
theorem plain_kinds {s : List UInt8} (h : plainL s = true) : s = [33] ∨ s = [59] ∨ s = [91, 93] ∨ s = [123, 125] ∨ (∃ c r, s = c :: r ∧ isSmall c = true ∧ s.all isWord = true) ∨ (∃ c r, s = c :: r ∧ s.all isSign = true) := by
 unfold plainL at h
 split at h
 ·rename_i hh
  rcases hh with h | h | h | h
  ·exact .inl h
  ·exact .inr (.inl h)
  ·exact .inr (.inr (.inl h))
  ·exact .inr (.inr (.inr (.inl h)))
 ·split at h
  ·cases h
  ·rename_i hn
   split at h
   ·cases h
   ·cases s with
    | nil => exact absurd (Or.inl rfl) hn
    | cons c r =>
     rw [Bool.or_eq_true, Bool.and_eq_true] at h
     rcases h with h | h
     ·exact .inr (.inr (.inr (.inr (.inl ⟨c, r, rfl, h.1, h.2⟩))))
     ·exact .inr (.inr (.inr (.inr (.inr ⟨c, r, rfl, h⟩))))
def cls (c : UInt8) : Nat := if c = 33 then 0 else if c = 59 then 1 else if c = 91 then 2 else if c = 123 then 3 else if isSmall c then 4 else if isSign c then 5 else if c = 39 then 6 else if isDigit c then 7 else if c = 95 then 8 else 9
theorem cls_digit {c : UInt8} (h : isDigit c = true) : cls c = 7 := by
 have := all_bytes (p := fun c => (!isDigit c || cls c == 7) = true) (by decide +kernel) c
 rw [h] at this
 simpa using this
theorem quo_cases (s : List UInt8) : ∃ c r, quoF s = c :: r ∧ ((c = 33 ∧ s = [33] ∧ r = []) ∨ (c = 59 ∧ s = [59] ∧ r = []) ∨ (c = 91 ∧ s = [91, 93] ∧ r = [93]) ∨ (c = 123 ∧ s = [123, 125] ∧ r = [125]) ∨ (isSmall c = true ∧ s = c :: r ∧ s.all isWord = true) ∨ (isSign c = true ∧ s = c :: r ∧ s.all isSign = true) ∨ (c = 39 ∧ r = sgnW s ++ [39])) := by
 unfold quoF
 by_cases h : plainL s = true
 ·rw [if_pos h]
  rcases plain_kinds h with e | e | e | e | ⟨c, r, e, h1, h2⟩ | ⟨c, r, e, h1⟩
  ·subst e; exact ⟨_, _, rfl, .inl ⟨rfl, rfl, rfl⟩⟩
  ·subst e; exact ⟨_, _, rfl, .inr (.inl ⟨rfl, rfl, rfl⟩)⟩
  ·subst e; exact ⟨_, _, rfl, .inr (.inr (.inl ⟨rfl, rfl, rfl⟩))⟩
  ·subst e; exact ⟨_, _, rfl, .inr (.inr (.inr (.inl ⟨rfl, rfl, rfl⟩)))⟩
  ·subst e; exact ⟨_, _, rfl, .inr (.inr (.inr (.inr (.inl ⟨h1, rfl, h2⟩))))⟩
  ·subst e
   have hc : isSign c = true := by
    rw [List.all_cons, Bool.and_eq_true] at h1
    exact h1.1
   exact ⟨_, _, rfl, .inr (.inr (.inr (.inr (.inr (.inl ⟨hc, rfl, h1⟩)))))⟩
 ·rw [if_neg h]
  exact ⟨39, sgnW s ++ [39], rfl, .inr (.inr (.inr (.inr (.inr (.inr ⟨rfl, rfl⟩)))))⟩
theorem dig_all (u : Nat) : (Lib.decDigits u).all isDigit = true ∧ Lib.decDigits u ≠ [] := by
 induction u using Nat.strongRecOn with
 | _ u ih =>
  have hd : ∀ k : Fin 10, isDigit (UInt8.ofNat (48 + k.val)) = true := by decide
  rw [Lib.decDigits]
  split
  ·rename_i h
   exact ⟨by simpa using hd ⟨u, h⟩, by simp⟩
  ·have := ih (u / 10) (by omega)
   refine ⟨?_, by simp⟩
   rw [List.all_append, this.1]
   simpa using hd ⟨u % 10, Nat.mod_lt _ (by omega)⟩
theorem dig_head (u : Nat) : ∃ c r, Lib.decDigits u = c :: r ∧ isDigit c = true := by
 have := dig_all u
 cases h : Lib.decDigits u with
 | nil => exact absurd h this.2
 | cons c r =>
  rw [h, List.all_cons, Bool.and_eq_true] at this
  exact ⟨c, r, rfl, this.1.1⟩
theorem itoa_cls (n : Int) : ∃ c r, Lib.itoa n = c :: r ∧ (cls c = 7 ∨ cls c = 5) := by
 unfold Lib.itoa
 split
 ·exact ⟨45, _, rfl, .inr (by decide)⟩
 ·obtain ⟨d, t, e, hd⟩ := dig_head n.toNat
  exact ⟨d, t, e, .inl (cls_digit hd)⟩
end Go.El
/- Layer 11, plain: two terms that may be have one canonical text just if they are the same. No program in sight. -/
namespace Go.El
theorem bytes_ext {s s' : ByteArray} (h : s.data.toList = s'.data.toList) : s = s' := by
 rw [← Lib.mk_data s, ← Lib.mk_data s', h]
mutual
def exT : Tm → Tm → Bool
 | .mk k n s l, .mk k' n' s' l' => decide (k = k' ∧ n = n' ∧ s = s' ∧ l.length = l'.length) && exL l l'
def exL : List Tm → List Tm → Bool
 | a :: l, b :: l' => exT a b && exL l l'
 | _, _ => true
end
mutual
theorem exT_refl : ∀ t, exT t t = true
 | .mk k n s l => by simp only [exT, and_self, decide_true, Bool.true_and]; exact exL_refl l
theorem exL_refl : ∀ l, exL l l = true
 | [] => rfl
 | a :: l => by simp only [exL, exT_refl a, exL_refl l, Bool.and_self]
end
end Go.El

/- Layer 11, the program: the walks of done, written, Canon, Text, Clause. -/
namespace Go.El
theorem itoa_ne (n : Int) : Lib.itoa n ≠ [] := by
 obtain ⟨c, r, e, _⟩ := itoa_cls n
 simp [e]
theorem quo_ne (s : List UInt8) : quoF s ≠ [] := by
 obtain ⟨c, r, e, _⟩ := quo_cases s
 simp [e]
theorem brk_ne {b : Bool} {x : List UInt8} (h : x ≠ []) : brk b x ≠ [] := by
 unfold brk
 split
 ·simp
 ·exact h
theorem mid_ne (s : ByteArray) : midF s ≠ [] := by
 unfold midF
 split <;> simp
theorem operF_ne {I Q : List OpV} {k : Int} {s : ByteArray} {l : List Tm} {most : Int} {a0 a1 : Int → List UInt8} {x : List UInt8} (h : operF I Q k s l most a0 a1 = some x) : x ≠ [] := by
 unfold operF at h
 split at h
 ·injection h with h
  subst h
  simp
 ·split at h
  ·cases h
  ·split at h
   ·injection h with h
    subst h
    exact brk_ne (by simp [mid_ne])
   ·injection h with h
    subst h
    exact brk_ne (by simp)
theorem txT_ne (o : OpsV) (t : Tm) (m : Int) : txT o t m ≠ [] := by
 cases t with
 | mk k n s l =>
  simp only [txT]
  split
  ·simp
  ·unfold hdF
   split
   ·simp
   ·split
    ·exact itoa_ne n
    ·split
     ·exact quo_ne _
     ·split
      ·rename_i x hx
       cases o with
       | none => cases hx
       | some q => exact operF_ne hx
      ·simp
end Go.El
namespace Go.Proofs.YtgcdhffeacdegaaGreatDoor
open Go.RowKit Go.El
def OpsAt (w : World) : OpsV → Value → Prop
 | none, op => op = .pointer none
 | some (I, Q), op => ∃ tb m1 m2, op = .pointer (some ⟨tb, 0, none⟩) ∧ TabAt w tb m1 m2 I Q ∧ (∀ p : OpV, p ∈ I ∨ p ∈ Q → -1000000 ≤ p.p ∧ p.p ≤ 1000000)
theorem OpsAt.ext {w w' : World} {o : OpsV} {op : Value} (h : OpsAt w o op) (x : Ext w w') : OpsAt w' o op := by
 cases o with
 | none => exact h
 | some q =>
  obtain ⟨I, Q⟩ := q
  obtain ⟨tb, m1, m2, e, ht, hp⟩ := h
  exact ⟨tb, m1, m2, e, ht.ext x, hp⟩
theorem new_clr0 {w V : World} {b k : Nat} (hV : w.heap.size ≤ V.heap.size) (hb : w.heap.size ≤ b) (hk : k < w.heap.size) : Clr V b (.slice none 0 0) k := ⟨by omega, by simp [Value.ownBlock], by omega⟩
theorem OpsAt.inn {w V : World} {o : OpsV} {op : Value} (h : OpsAt w o op) (x : Ext w V) {b : Nat} (hb : w.heap.size ≤ b) : OpsIn V b (.slice none 0 0) o op := by
 cases o with
 | none => exact h
 | some q =>
  obtain ⟨I, Q⟩ := q
  obtain ⟨tb, m1, m2, e, ht, hp⟩ := h
  exact ⟨tb, m1, m2, e, ht.ext x, new_clr0 x.size hb (cell_lt ht.c0), new_clr0 x.size hb ht.mi.lt, new_clr0 x.size hb ht.mq.lt, hp⟩
theorem var_lt {w : World} {n : String} {g : Nat} (hg : Tryz.prog.globalNamed n = some g) {cs : Array Value} (h : w.var? Tryz.prog n = some cs) : g < w.heap.size := by
 unfold World.var? at h
 simp only [hg, Option.bind_some] at h
 rcases Nat.lt_or_ge g w.heap.size with h' | h'
 ·exact h'
 ·simp [Array.getElem?_eq_none h'] at h
theorem Env.inn {w V : World} (he : Env w) (x : Ext w V) {b : Nat} (hb : w.heap.size ≤ b) : EnvIn V b (.slice none 0 0) :=
 ⟨he.ext x, new_clr0 x.size hb (cell_lt he.tz), new_clr0 x.size hb (var_lt pwNamed he.pw), new_clr0 x.size hb (cell_lt he.ty.h0)⟩
theorem new_wr {w V : World} {o : OpsV} {op : Value} (h : OpsAt w o op) (x : Ext w V) {b : Nat} (hb : w.heap.size ≤ b) (hB : Blk V b 122 #[.pointer none, .slice none 0 0, op]) : WrSt w.heap.size V b (.slice none 0 0) [] o op :=
 ⟨⟨.pointer none, .inl rfl, hB, World.ownsRow_nil _ _ _ _, fun k hk => by simp [Value.ownBlock] at hk⟩, h.inn x hb, x.size, Nat.zero_le _⟩
theorem new_tm {w V : World} {D : Nat → Prop} {t : Tm} {A : Option Addr} {c : Nat} (h : TmIn D w t A c) (x : Ext w V) {b : Nat} (hb : w.heap.size ≤ b) : TmIn (Clr V b (.slice none 0 0)) V t A c :=
 (h.lt.ext x).mono (fun _ hk => new_clr0 x.size hb hk)
def txtS (X : List UInt8) : ByteArray := if 65536 < X.length then ⟨#[]⟩ else strB X
def txtE (X : List UInt8) : Int := if 65536 < X.length then 3 else 0
set_option maxRecDepth 100000 in
theorem done_any {base : Nat} {w : World} {b : Nat} {v : Value} {F : List UInt8} {o : OpsV} {op : Value} (h : WrSt base w b v F o op) (h0 : F ≠ []) :
  Calls Tryz.prog 80 #[.pointer (some ⟨b, 0, none⟩)] w fun e w' => e = .returned (.tuple #[.string (txtS F), .int .i64 (txtE F)]) ∧ Below base w w' := by
 obtain ⟨⟨p, hb⟩, _, _, hm⟩ := h
 have HL := Lib.hid ((bldLen_any _ _ _ _ _ _ _ _ hb).mono (R' := fun e w' => e = .returned (.int .i64 F.length) ∧ w = w') (fun _ _ h => ⟨h.1, h.2.symm⟩))
 have HT := Lib.hid (bldText_any _ _ _ _ _ _ _ _ hb h0)
 clear hb h0 hm
 by_cases hl : 65536 < F.length
 ·rw [show txtS F = ⟨#[]⟩ from if_pos hl, show txtE F = 3 from if_pos hl]
  have hq : (65536 : Int) < (F.length : Int) := by omega
  clear HT
  go_enter Tryz.func80, Tryz.ntmps80
  go_wp2_with (go_at_call 76; refine HL.out.mono ?_; rintro e w' ⟨rfl, rfl⟩)
  go_ret2
  exact ⟨rfl, Below.refl _ _⟩
 ·rw [show txtS F = strB F from if_neg hl, show txtE F = 0 from if_neg hl]
  have hq : ¬ (65536 : Int) < (F.length : Int) := by omega
  go_enter Tryz.func80, Tryz.ntmps80
  go_wp2_with (first | (go_at_call 76; refine HL.out.mono ?_; rintro e w' ⟨rfl, rfl⟩) | (go_at_call 125; refine HT.out.mono ?_; rintro e w2 ⟨rfl, hx⟩; have HX := Lib.hid hx; clear hx))
  go_ret2
  exact ⟨rfl, HX.out⟩
def wrtS (o : OpsV) (t : Tm) (X : List UInt8) : ByteArray := if chkT t = 0 then txtS (txT o t 1200 ++ X) else ⟨#[]⟩
def wrtE (o : OpsV) (t : Tm) (X : List UInt8) : Int := if chkT t = 0 then txtE (txT o t 1200 ++ X) else chkT t
set_option maxRecDepth 100000 in
set_option maxHeartbeats 4000000 in
theorem written_any (t : Tm) (A : Option Addr) (c : Nat) (w : World) (D : Nat → Prop) (o : OpsV) (op : Option Addr) (X : ByteArray) (ht : TmIn D w t A c) (he : Env w) (ho : OpsAt w o (.pointer op)) (hsz : szT t ≤ 1000000000) (hX : X.size ≤ 100) :
  Calls Tryz.prog 51 #[tmVal t A c, .pointer op, .string X] w fun e w' => e = .returned (.tuple #[.string (wrtS o t X.data.toList), .int .i64 (wrtE o t X.data.toList)]) ∧ Ext w w' := by
 have hx := ext_box w (.cells #[.int .i64 t.k, .int .i64 t.n, .string t.s, .slice A t.l.length c] 32)
 have HC := Lib.hid (check_any t A c _ D (ht.ext hx) hsz)
 by_cases hc : chkT t = 0
 ·have hm : mayT t = true := by unfold mayT; simp [hc]
  rw [show wrtS o t X.data.toList = txtS (txT o t 1200 ++ X.data.toList) from if_pos hc, show wrtE o t X.data.toList = txtE (txT o t 1200 ++ X.data.toList) from if_pos hc]
  rw [hc] at HC
  obtain ⟨hok, _, hs2⟩ := mayT_iff.1 hm
  have hne := txT_ne o t 1200
  have hle := txT_le o t 1200 hok
  have HS := fun (V : World) (b : Nat) (x : Ext w V) (hb : w.heap.size ≤ b) (hB : Blk V b 122 #[.pointer none, .slice none 0 0, .pointer op]) => Lib.hid (term_all (szT t) t (Nat.le_refl _) hm w.heap.size V b (.slice none 0 0) [] o (.pointer op) 1200 A c (new_wr ho x hb hB) (he.inn x hb) (new_tm ht x hb) (by simp; omega) (by omega) (by omega))
  have HB1 := fun (W : World) (x : Ext (w.alloc (.cells #[.int .i64 t.k, .int .i64 t.n, .string t.s, .slice A t.l.length c] 32)) W) => Lib.hid (Blk.ext (Blk.new w 32 #[.int .i64 t.k, .int .i64 t.n, .string t.s, .slice A t.l.length c]) x)
  have HN := Lib.hid hne
  unfold tmVal at HS HC ⊢
  generalize txT o t 1200 = TX at *
  generalize t.k = k at *
  generalize t.n = n at *
  generalize t.s = s at *
  generalize t.l.length = m at *
  clear hc hm hok ht he ho hne
  go_enter Tryz.func51, Tryz.ntmps51
  go_upto_region 5 with (go_at_call 43; refine HC.out.mono ?_; rintro e W1 ⟨rfl, h1⟩; have HX1 := Lib.hid (hx.trans h1); have HB := HB1 _ h1; clear h1)
  refine wp_abs (fun V => Hid (Blk V W1.heap.size 122 #[.pointer none, .slice none 0 0, .pointer op]) ∧ Hid (Blk V w.heap.size 32 #[.int .i64 k, .int .i64 n, .string s, .slice A m c]) ∧ Hid (Ext w V)) ⟨Blk.new W1 _ _, HB.out.alloc _, HX1.out.alloc _⟩ ?_
  rintro V ⟨HW, HT, HV⟩
  have x0 : V.cell? ⟨w.heap.size, 0, none⟩ = some (.int .i64 k) := HT.out.cell 0
  have x1 : V.cell? ⟨w.heap.size, 1, none⟩ = some (.int .i64 n) := HT.out.cell 1
  have x2 : V.cell? ⟨w.heap.size, 2, none⟩ = some (.string s) := HT.out.cell 2
  have x3 : V.cell? ⟨w.heap.size, 3, none⟩ = some (.slice A m c) := HT.out.cell 3
  have hb : w.heap.size ≤ W1.heap.size := HX1.out.size
  have HG := HS V W1.heap.size HV.out hb HW.out
  clear HS HC HB1
  go_upto_region 6 with (go_at_call 78; refine HG.out.mono ?_; rintro e V2 ⟨rfl, v2, h2, s2⟩; have H2 := Lib.hid (show WrSt w.heap.size V2 W1.heap.size v2 TX o (.pointer op) from h2); have S2 := Lib.hid s2; clear h2 s2)
  go_upto_region 7 with (go_at_call 77; refine (wrString H2.out X (by omega)).mono ?_; rintro e V3 ⟨rfl, v3, h3, s3⟩; have H3 := Lib.hid h3; have S3 := Lib.hid (S2.out.trans s3); clear h3 s3)
  have HD := Lib.hid (done_any H3.out (by simp [HN.out]))
  go_wp2_with (go_at_call 80; refine HD.out.mono ?_; rintro e V4 ⟨rfl, h4⟩; have H4 := Lib.hid h4; clear h4)
  go_ret2
  refine ⟨rfl, Below.trans (ext_mods HV.out S3.out.mods (fun x hx => ?_)) H4.out⟩
  simp [ownL, Value.ownBlock] at hx
  omega
 ·rw [show wrtS o t X.data.toList = ⟨#[]⟩ from if_neg hc, show wrtE o t X.data.toList = chkT t from if_neg hc]
  have q1 : (chkT t == 0) = false := by simpa using hc
  have q2 : (chkT t != 0) = true := by simpa using hc
  unfold tmVal at HC ⊢
  generalize chkT t = r at *
  clear ht hc
  go_enter Tryz.func51, Tryz.ntmps51
  go_wp2_with (go_at_call 43; refine HC.out.mono ?_; rintro e W1 ⟨rfl, h1⟩; have HX1 := Lib.hid (hx.trans h1); clear h1)
  go_ret2
  exact ⟨rfl, HX1.out⟩
set_option maxRecDepth 100000 in
theorem canon_any (t : Tm) (A : Option Addr) (c : Nat) (w : World) (D : Nat → Prop) (ht : TmIn D w t A c) (he : Env w) (hsz : szT t ≤ 1000000000) :
  Calls Tryz.prog 31 #[tmVal t A c] w fun e w' => e = .returned (.tuple #[.string (wrtS none t []), .int .i64 (wrtE none t [])]) ∧ Ext w w' := by
 have hx := ext_box w (.cells #[.int .i64 t.k, .int .i64 t.n, .string t.s, .slice A t.l.length c] 32)
 have HC := Lib.hid (written_any t A c _ D none none ⟨#[]⟩ (ht.ext hx) (he.ext hx) rfl hsz (by decide))
 unfold tmVal at HC ⊢
 clear ht he
 go_enter Tryz.func31, Tryz.ntmps31
 go_wp2_with (go_at_call 51; refine HC.out.mono ?_; rintro e W1 ⟨rfl, h1⟩; have HX1 := Lib.hid (hx.trans h1); clear h1)
 go_ret2
 exact ⟨rfl, HX1.out⟩
set_option maxRecDepth 100000 in
theorem text_any (t : Tm) (A : Option Addr) (c : Nat) (w : World) (D : Nat → Prop) (I Q : List OpV) (tb : Nat) (ht : TmIn D w t A c) (he : Env w) (ho : OpsAt w (some (I, Q)) (.pointer (some ⟨tb, 0, none⟩))) (hsz : szT t ≤ 1000000000) :
  Calls Tryz.prog 46 #[tmVal t A c, .pointer (some ⟨tb, 0, none⟩)] w fun e w' => e = .returned (.tuple #[.string (wrtS (some (I, Q)) t []), .int .i64 (wrtE (some (I, Q)) t [])]) ∧ Ext w w' := by
 have hx := ext_box w (.cells #[.int .i64 t.k, .int .i64 t.n, .string t.s, .slice A t.l.length c] 32)
 have HC := Lib.hid (written_any t A c _ D (some (I, Q)) _ ⟨#[]⟩ (ht.ext hx) (he.ext hx) (ho.ext hx) hsz (by decide))
 unfold tmVal at HC ⊢
 clear ht he ho
 go_enter Tryz.func46, Tryz.ntmps46
 go_wp2_with (go_at_call 51; refine HC.out.mono ?_; rintro e W1 ⟨rfl, h1⟩; have HX1 := Lib.hid (hx.trans h1); clear h1)
 go_ret2
 exact ⟨rfl, HX1.out⟩
set_option maxRecDepth 100000 in
theorem text_nil (t : Tm) (A : Option Addr) (c : Nat) (w : World) :
  Calls Tryz.prog 46 #[tmVal t A c, .pointer none] w fun e w' => e = .returned (.tuple #[.string ⟨#[]⟩, .int .i64 1]) ∧ Ext w w' := by
 unfold tmVal
 go_enter Tryz.func46, Tryz.ntmps46
 go_wp2_with fail
 go_ret2
 exact ⟨rfl, ext_box _ _⟩
set_option maxRecDepth 100000 in
theorem clause_any (t : Tm) (A : Option Addr) (c : Nat) (w : World) (D : Nat → Prop) (I Q : List OpV) (tb : Nat) (ht : TmIn D w t A c) (he : Env w) (ho : OpsAt w (some (I, Q)) (.pointer (some ⟨tb, 0, none⟩))) (hsz : szT t ≤ 1000000000) :
  Calls Tryz.prog 29 #[tmVal t A c, .pointer (some ⟨tb, 0, none⟩)] w fun e w' => e = .returned (.tuple #[.string (wrtS (some (I, Q)) t [32, 46, 10]), .int .i64 (wrtE (some (I, Q)) t [32, 46, 10])]) ∧ Ext w w' := by
 have hx := ext_box w (.cells #[.int .i64 t.k, .int .i64 t.n, .string t.s, .slice A t.l.length c] 32)
 have HC := Lib.hid (written_any t A c _ D (some (I, Q)) _ ⟨#[32, 46, 10]⟩ (ht.ext hx) (he.ext hx) (ho.ext hx) hsz (by decide))
 unfold tmVal at HC ⊢
 clear ht he ho
 go_enter Tryz.func29, Tryz.ntmps29
 go_wp2_with (go_at_call 51; refine HC.out.mono ?_; rintro e W1 ⟨rfl, h1⟩; have HX1 := Lib.hid (hx.trans h1); clear h1)
 go_ret2
 exact ⟨rfl, HX1.out⟩
end Go.Proofs.YtgcdhffeacdegaaGreatDoor
