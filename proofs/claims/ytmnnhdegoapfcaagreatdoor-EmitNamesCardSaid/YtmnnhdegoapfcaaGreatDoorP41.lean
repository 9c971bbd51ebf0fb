/- Law 17: lives holds. -/
import Derived.Test.YtmnnhdegoapfcaaGreatDoorP30
import Derived.Test.YtmnnhdegoapfcaaGreatDoorP40
import Derived.Test.YtmnnhdegoapfcaaGreatDoorP10
import Derived.Test.YtmnnhdegoapfcaaGreatDoorP07
import Derived.Test.YtmnnhdegoapfcaaGreatDoorP02
import Derived.Outline
import Derived.Test.YtmnnhdegoapfcaaGreatDoorP20
import Derived.Test.YtmnnhdegoapfcaaGreatDoorP26
import Derived.Test.YtmnnhdegoapfcaaGreatDoorP11
namespace Go.El
open Go.Proofs.YtmnnhdegoapfcaaGreatDoor
def lvI : List Ins := [⟨1, ⟨#[]⟩, 0, 3, 1⟩, ⟨5, nmB 102, 1, 0, 2⟩, ⟨6, ⟨#[]⟩, 0, 4, 0⟩, ⟨11, ⟨#[]⟩, 0, 4, 1⟩, ⟨22, nmB 113, 1, 0, 0⟩]
theorem lv_list : listS lvI = [103, 101, 116, 95, 118, 97, 114, 32, 88, 51, 32, 65, 49, 10, 103, 101, 116, 95, 115, 116, 114, 32, 102, 47, 49, 32, 65, 50, 10, 117, 110, 105, 95, 118, 97, 114, 32, 88, 52, 10, 112, 117, 116, 95, 118, 97, 108, 32, 88, 52, 32, 65, 49, 10, 101, 120, 101, 99, 32, 113, 47, 49, 10] := by decide +kernel
def nilC : Cls := ⟨.mk 0 0 ⟨#[]⟩ [], [], 0⟩
theorem comp_nil : (compF nilC).1.length = 0 ∧ (compF nilC).2 = 60 := by decide +kernel
theorem clSz_of {c : Cls} (h : szT c.h ≤ 1000000000) (hg : (c.gs.all fun g => decide (szT g.2 ≤ 1000000000)) = true) (hl : c.gs.length ≤ 1000000000) : ClSz c :=
 ⟨h, fun j k t hj => by simpa using List.all_eq_true.1 hg _ (List.mem_of_getElem? hj), hl⟩
theorem sz_lv : ClSz lvC := clSz_of (by decide +kernel) (by decide +kernel) (by decide +kernel)
theorem sz_nil : ClSz nilC := clSz_of (by decide +kernel) (by decide +kernel) (by decide +kernel)
theorem sz_one : ClSz oneC := clSz_of (by decide +kernel) (by decide +kernel) (by decide +kernel)
def tmF' : Tm := .mk 4 0 (nmB 102) [vT 1]
def tmP2 : Tm := .mk 4 0 (nmB 112) [vT 0, tmF']
def tmQ2 : Tm := .mk 4 0 (nmB 113) [vT 1]
theorem lv_gs : ([(tmQ2, (none : Option Addr), 0)].map fun p => (goalK p.1, p.1)) = lvC.gs := by
 have h1 : goalK tmQ2 = 1 := by decide +kernel
 simp only [List.map_cons, List.map_nil, h1]
 rfl
end Go.El
namespace Go.Proofs.YtmnnhdegoapfcaaGreatDoor
open Go.RowKit Go.El
theorem litComp (W : World) (s : ByteArray) (M : List TmP) (cs : Array Value) (n : Nat) (hn2 : M.length = n) (t : Tm) (htm : .mk 4 0 s (M.map (·.1)) = t) (hcs : cs = (flat tmC M).toArray) (hk : ∀ p ∈ M, TmIn (fun k => 0 ≤ k ∧ k < W.heap.size) W p.1 p.2.1 p.2.2) (hn : M ≠ []) (hl : M.length ≤ 1000) :
  Calls Tryz.prog 24 #[.string s, .slice (some ⟨W.heap.size, 0, none⟩) n n] (W.alloc (.cells cs 30)) fun e w' => ∃ A' c', e = .returned (.agg #[.int .i64 4, .int .i64 0, .string s, .slice A' n c']) ∧ TmIn (fun k => 0 ≤ k ∧ k < w'.heap.size) w' t A' c' ∧ Ext W w' := by
 subst hcs
 subst hn2
 subst htm
 have hx := (Ext.refl W).alloc (.cells (flat tmC M).toArray 30)
 have hs := El.Src.new W (flat tmC M).toArray 30 M.length 4 (by simpa using flat_len4 M)
 refine (refComp_any s M _ _ _ (fun k => k < (W.alloc (.cells (flat tmC M).toArray 30)).heap.size) hs (fun p hp => ((hk p hp).ext hx).mono (fun k h => Nat.lt_of_lt_of_le h.2 hx.size)) hn hl (fun k h => h)).mono ?_
 rintro e w' ⟨A', c', rfl, ht, hx2⟩
 exact ⟨A', c', rfl, ht.mono (fun k h => by rcases h with h | h; exact ⟨Nat.zero_le _, Nat.lt_of_lt_of_le h hx2.size⟩; exact ⟨Nat.zero_le _, h.2⟩), hx.trans hx2⟩
theorem blk2g (W : World) (c1 c2 : Array Value) : Blk ((W.alloc (.cells c1 42)).alloc (.cells c2 34)) (W.heap.size + 1) 34 c2 := by
 have := Blk.new (W.alloc (.cells c1 42)) 34 c2
 rw [World.size_alloc] at this
 exact this
theorem leafT (W : World) (n : Int) : TmIn (fun k => 0 ≤ k ∧ k < W.heap.size) W (vT n) none 0 := TmsIn.term (TmsIn.nil _ _ _ _) _ _ _
theorem tl_go0 {V U : World} {t : Tm} {A : Option Addr} {c : Nat} (h : TmIn (fun k => 0 ≤ k ∧ k < V.heap.size) V t A c) (x : Ext V U) : TmIn (fun k => 0 ≤ k ∧ k < U.heap.size) U t A c := tl_go h x
set_option maxRecDepth 100000 in
set_option maxHeartbeats 8000000 in
theorem lives17_any (w : World) (g : EnvT w) : Calls Tryz.prog 8 #[] w fun e w' => e = .returned (.bool true) ∧ Ext w w' := by
 have HG := Lib.hid g
 clear g
 have C1 := fun W => Lib.hid (litComp W ⟨#[102]⟩ [(vT 1, none, 0)] #[.int .i64 1, .int .i64 1, .string ⟨#[]⟩, .slice none 0 0] 1 rfl tmF' rfl rfl (fun p hp => by simp only [List.mem_cons, List.not_mem_nil, or_false] at hp; subst hp; exact leafT W 1) (by simp) (by simp))
 have C2 := fun W A c (h : TmIn (fun k => 0 ≤ k ∧ k < W.heap.size) W tmF' A c) => Lib.hid (litComp W ⟨#[112]⟩ [(vT 0, none, 0), (tmF', A, c)] #[.int .i64 1, .int .i64 0, .string ⟨#[]⟩, .slice none 0 0, .int .i64 4, .int .i64 0, .string ⟨#[102]⟩, .slice A 1 c] 2 rfl tmP2 rfl rfl (fun p hp => by simp only [List.mem_cons, List.not_mem_nil, or_false] at hp; rcases hp with rfl | rfl; exact leafT W 0; exact h) (by simp) (by simp))
 have C3 := fun W => Lib.hid (litComp W ⟨#[113]⟩ [(vT 1, none, 0)] #[.int .i64 1, .int .i64 1, .string ⟨#[]⟩, .slice none 0 0] 1 rfl tmQ2 rfl rfl (fun p hp => by simp only [List.mem_cons, List.not_mem_nil, or_false] at hp; subst hp; exact leafT W 1) (by simp) (by simp))
 go_enter Tryz.func8, Tryz.ntmps8
 have XR := Lib.hid (Ext.refl w)
 go_upto_region 2 with (first
  | (go_at_call 24; (with_reducible refine (C1 _).out.mono ?_); rintro e U1 ⟨A1, c1, rfl, ht, x⟩; have T1 := Lib.hid ht; have XS := Lib.hid (XR.out.trans x); clear XR x ht; have XR := XS; clear XS)
  | (go_at_call 24; (with_reducible refine (C2 _ _ _ T1.out).out.mono ?_); rintro e U2 ⟨A2, c2, rfl, ht, x⟩; have T2 := Lib.hid ht; have XS := Lib.hid (XR.out.trans x); clear XR x ht T1; have XR := XS; clear XS)
  | (go_at_call 24; (with_reducible refine (C3 _).out.mono ?_); rintro e U3 ⟨A3, c3, rfl, ht, x⟩; have T3 := Lib.hid ht; have T2c := Lib.hid (tl_go0 T2b.out x); have XS := Lib.hid (XR.out.trans x); clear XR x ht; have XR := XS; clear XS)
  | (go_at_call 17; refine (refVar_any _ _).mono ?_; rintro e U4 ⟨rfl, x⟩; (first | (have T2b := Lib.hid (tl_go0 T2.out x); clear T2) | skip); have XS := Lib.hid (XR.out.trans x); clear XR x; have XR := XS; clear XS))
 have hg := goals_lit U3 0 (Nat.zero_le _) [(tmQ2, A3, c3)] #[.int .i64 1, .int .i64 4, .int .i64 0, .string ⟨#[113]⟩, .slice A3 1 c3] 1 rfl rfl (fun p hp => by simp only [List.mem_cons, List.not_mem_nil, or_false] at hp; subst hp; exact T3.out) (by simp)
 have hgs : ([(tmQ2, A3, c3)].map fun p => (goalK p.1, p.1)) = lvC.gs := lv_gs
 rw [hgs] at hg
 have hx3 := ((Ext.refl U3).alloc (.cells #[.int .i64 1, .int .i64 4, .int .i64 0, .string ⟨#[113]⟩, .slice A3 1 c3] 42))
 have HCB := Lib.hid (blk2g U3 #[.int .i64 1, .int .i64 4, .int .i64 0, .string ⟨#[113]⟩, .slice A3 1 c3] #[.int .i64 4, .int .i64 0, .string ⟨#[112]⟩, .slice A2 2 c2, .slice (some ⟨U3.heap.size, 0, none⟩) 1 1, .int .i64 2])
 have hci : ClIn (fun k => 0 ≤ k ∧ k < U3.heap.size + 1) (U3.alloc (.cells #[.int .i64 1, .int .i64 4, .int .i64 0, .string ⟨#[113]⟩, .slice A3 1 c3] 42)) lvC A2 c2 (some ⟨U3.heap.size, 0, none⟩) 1 := ⟨(T2c.out.ext hx3).mono (fun k hk => ⟨Nat.zero_le _, by have := hk.2; omega⟩), hg⟩
 have HCI := Lib.hid (hci.ext ((Ext.refl _).alloc (.cells #[.int .i64 4, .int .i64 0, .string ⟨#[112]⟩, .slice A2 2 c2, .slice (some ⟨U3.heap.size, 0, none⟩) 1 1, .int .i64 2] 34)))
 refine wp_abs (fun V => Hid (Blk V (U3.heap.size + 1) 34 #[.int .i64 4, .int .i64 0, .string ⟨#[112]⟩, .slice A2 2 c2, .slice (some ⟨U3.heap.size, 0, none⟩) 1 1, .int .i64 2]) ∧ Hid (ClIn (fun k => 0 ≤ k ∧ k < U3.heap.size + 1) V lvC A2 c2 (some ⟨U3.heap.size, 0, none⟩) 1) ∧ Hid (Ext w V)) ⟨HCB, HCI, Lib.hid ((XR.out.alloc _).alloc _)⟩ ?_
 clear hg hgs hx3 HCB hci HCI XR C1 C2 C3 T2b T2c T3
 generalize U3.heap.size = g3 at *
 rintro V ⟨HB, HC, HX⟩
 have x9 := HB.out.cell
 have HCM : ∀ W, Ext V W → Hid (Calls Tryz.prog 13 #[.agg #[.int .i64 4, .int .i64 0, .string ⟨#[112]⟩, .slice A2 2 c2, .slice (some ⟨g3, 0, none⟩) 1 1, .int .i64 2]] W fun e w' => ∃ A k, e = .returned (.tuple #[.slice A 5 k, .int .i64 0]) ∧ El.Src w' A 5 5 (flat insCells lvI) ∧ Ext W w') := fun W x => by
  have h := mCompile lvC A2 c2 (some ⟨g3, 0, none⟩) 1 _ W (HC.out.ext x) sz_lv
  unfold CmPost at h
  rw [comp_lv] at h
  refine Lib.hid (h.mono ?_)
  rintro e w' ⟨A, k, rfl, ho, _, x2⟩
  exact ⟨A, k, rfl, El.Src.of_own ho, x2⟩
 have HCN : ∀ W, Hid (Calls Tryz.prog 13 #[.agg #[.int .i64 0, .int .i64 0, .string ⟨#[]⟩, .slice none 0 0, .slice none 0 0, .int .i64 0]] W fun e w' => ∃ A k, e = .returned (.tuple #[.slice A 0 k, .int .i64 60]) ∧ Ext W w') := fun W => by
  have h := mCompile nilC none 0 none 0 (fun _ => False) W ⟨TmsIn.term (TmsIn.nil _ _ _ _) _ _ _, ⟨Nat.le_refl _, fun j k t hj => by simp [nilC] at hj⟩⟩ sz_nil
  unfold CmPost at h
  rw [comp_nil.1, comp_nil.2] at h
  refine Lib.hid (h.mono ?_)
  rintro e w' ⟨A, k, rfl, _, _, x2⟩
  exact ⟨A, k, rfl, x2⟩
 have HCO : ∀ W hA hc gA gc, ClIn (fun k => k < W.heap.size) W oneC hA hc gA gc → Hid (Calls Tryz.prog 13 #[.agg #[.int .i64 4, .int .i64 0, .string ⟨#[112]⟩, .slice hA 2 hc, .slice gA 3 gc, .int .i64 3]] W fun e w' => ∃ A k, e = .returned (.tuple #[.slice A 12 k, .int .i64 0]) ∧ Ext W w') := fun W hA hc gA gc hin => by
  have h := mCompile oneC hA hc gA gc _ W hin sz_one
  unfold CmPost at h
  rw [comp_one.1, comp_one.2] at h
  refine Lib.hid (h.mono ?_)
  rintro e w' ⟨A, k, rfl, _, _, x2⟩
  exact ⟨A, k, rfl, x2⟩
 have HBS : ∀ W, Ext V W → Hid (Calls Tryz.prog 26 #[.agg #[.int .i64 4, .int .i64 0, .string ⟨#[112]⟩, .slice A2 2 c2, .slice (some ⟨g3, 0, none⟩) 1 1, .int .i64 2]] W fun e w' => e = .returned (.int .i64 2) ∧ Ext W w') := fun W x => by
  have h := mBase lvC A2 c2 (some ⟨g3, 0, none⟩) 1 _ W (HC.out.ext x) sz_lv
  rw [base_lv] at h
  exact Lib.hid h
 go_upto_region 3 with (go_at_call 13; refine (HCM V (Ext.refl V)).out.mono ?_; rintro e W1 ⟨Al, kl, rfl, hs, x⟩; have S1 := Lib.hid hs; have X1 := Lib.hid x; clear hs x)
 clear x9
 go_upto_region 4 with (go_at_call 13; refine (HCN W1).out.mono ?_; rintro e W2 ⟨An, kn, rfl, x⟩; have X2 := Lib.hid (X1.out.trans x); have S2 := Lib.hid (S1.out.ext x); clear x)
 clear S1 X1 HCM HCN
 unfold OnePost at *
 go_upto_region 5 with (first
  | (go_at_call 25; refine (one_any W2).mono ?_; rintro e W3 ⟨hA, hc, gA, gc, rfl, hin, x⟩; have HIN := Lib.hid hin; have X3 := Lib.hid (X2.out.trans x); have S3 := Lib.hid (S2.out.ext x); clear hin x)
  | (go_at_call 13; refine (HCO W3 hA hc gA gc HIN.out).out.mono ?_; rintro e W4 ⟨Ao, ko, rfl, x⟩; have X4 := Lib.hid (X3.out.trans x); have S4 := Lib.hid (S3.out.ext x); clear x))
 clear HCO HIN X3 S3 X2 S2
 have HL : Hid (Calls Tryz.prog 9 #[.slice Al 5 kl] W4 fun e w' => e = .returned (.string (mkB (listS lvI))) ∧ Ext W4 w') := Lib.hid (eList_any lvI Al kl W4 S4.out (by decide) (HG.out.ext (HX.out.trans X4.out)))
 have hT : mkB (listS lvI) = ⟨#[103, 101, 116, 95, 118, 97, 114, 32, 88, 51, 32, 65, 49, 10, 103, 101, 116, 95, 115, 116, 114, 32, 102, 47, 49, 32, 65, 50, 10, 117, 110, 105, 95, 118, 97, 114, 32, 88, 52, 10, 112, 117, 116, 95, 118, 97, 108, 32, 88, 52, 32, 65, 49, 10, 101, 120, 101, 99, 32, 113, 47, 49, 10]⟩ := by rw [lv_list]; rfl
 generalize mkB (listS lvI) = T at *
 have q1 : (T.toList == [103, 101, 116, 95, 118, 97, 114, 32, 88, 51, 32, 65, 49, 10, 103, 101, 116, 95, 115, 116, 114, 32, 102, 47, 49, 32, 65, 50, 10, 117, 110, 105, 95, 118, 97, 114, 32, 88, 52, 10, 112, 117, 116, 95, 118, 97, 108, 32, 88, 52, 32, 65, 49, 10, 101, 120, 101, 99, 32, 113, 47, 49, 10]) = true := by rw [str_lit]; exact decide_eq_true hT
 clear hT
 have x9 := (HB.out.ext X4.out).cell
 go_wp2_with (first
  | (go_at_call 9; refine HL.out.mono ?_; rintro e W5 ⟨rfl, x⟩; have X5 := Lib.hid (X4.out.trans x); have y9 := (HB.out.ext X5.out).cell; clear x)
  | (go_at_call 26; refine (HBS _ X5.out).out.mono ?_; rintro e W6 ⟨rfl, x⟩; have X6 := Lib.hid (X5.out.trans x); clear x))
 go_ret
 exact ⟨rfl, HX.out.trans X6.out⟩
end Go.Proofs.YtmnnhdegoapfcaaGreatDoor

/- Layer 16: the walk of Check. -/
namespace Go.Proofs.YtmnnhdegoapfcaaGreatDoor
open Go.RowKit Go.El
def ChkPost (l : List Ins) (arity : Int) (w : World) (e : Ending) (w' : World) : Prop := e = .returned (.tuple #[.int .i64 (chkIns l arity).1, .int .i64 (chkIns l arity).2]) ∧ Ext w w'
theorem chk_post {l : List Ins} {arity : Int} {w : World} {a b : Int} {w' : World} (h : chkIns l arity = (a, b)) (x : Ext w w') : ChkPost l arity w (.returned (.tuple #[.int .i64 a, .int .i64 b])) w' := by
 unfold ChkPost
 rw [h]
 exact ⟨rfl, x⟩
set_option maxRecDepth 100000 in
theorem check_arity (l : List Ins) (arity : Int) (c : Nat) (A : Option Addr) (w : World) (ha : arity < 0 ∨ 16 < arity) :
  Calls Tryz.prog 20 #[.slice A l.length c, .int .i64 arity] w (ChkPost l arity w) := by
 have HR := Lib.hid (chk_post (l := l) (arity := arity) (if_pos ha) (Ext.refl w))
 by_cases h0 : arity < 0
 ·clear ha
  go_enter Tryz.func20, Tryz.ntmps20
  go_wp2_with fail
  go_ret2
  exact HR.out
 ·have h1 : 16 < arity := by omega
  clear ha
  go_enter Tryz.func20, Tryz.ntmps20
  go_wp2_with fail
  go_ret2
  exact HR.out
set_option maxRecDepth 100000 in
theorem check_long (l : List Ins) (arity : Int) (c : Nat) (A : Option Addr) (w : World) (ha : ¬ (arity < 0 ∨ 16 < arity)) (hl : 4096 < l.length) :
  Calls Tryz.prog 20 #[.slice A l.length c, .int .i64 arity] w (ChkPost l arity w) := by
 have HR := Lib.hid (chk_post (l := l) (arity := arity) (a := 0) (b := 3) ((if_neg ha).trans (if_pos hl)) (Ext.refl w))
 have h0 : ¬ arity < 0 := by omega
 have h1 : ¬ 16 < arity := by omega
 have h2 : (4096 : Int) < l.length := by omega
 clear ha hl
 go_enter Tryz.func20, Tryz.ntmps20
 go_wp2_with fail
 go_ret2
 exact HR.out
set_option maxRecDepth 100000 in
set_option maxHeartbeats 4000000 in
theorem check_fit (l : List Ins) (arity : Nat) (c : Nat) (A : Option Addr) (w : World) (hT : OpTabAt w) (hS : El.Src w A l.length 5 (flat insCells l)) (ha : arity ≤ 16) (hl : l.length ≤ 4096) :
  Calls Tryz.prog 20 #[.slice A l.length c, .int .i64 arity] w (ChkPost l arity w) := by
 have e1 : (arity : Int) ≤ 16 := by omega
 have e2 : ¬ (16 : Int) < arity := by omega
 have e3 : ¬ (4096 : Int) < (l.length : Int) := by omega
 have HS := Lib.hid hS
 have HT := Lib.hid hT
 have HI : Hid (StAt (w.alloc (Obj.cells (Tryz.zeroCells102.setIfInBounds 321 (Value.int IntKind.i64 (-1))) 102)) w.heap.size 102 (InSt.start 0)) := by
  rw [start_cells]
  exact ⟨Blk.new w _ _, start_lx 0, start_ly 0⟩
 have HX : Hid (Ext w (w.alloc (Obj.cells (Tryz.zeroCells102.setIfInBounds 321 (Value.int IntKind.i64 (-1))) 102))) := Lib.hid ((Ext.refl w).alloc _)
 obtain ⟨B, hB⟩ : ∃ B, B = w.heap.size := ⟨_, rfl⟩
 rw [← hB] at HI
 clear hS hT
 go_enter Tryz.func20, Tryz.ntmps20
 go_upto_region 6 with fail
 rw [← hB]
 refine wp_abs (fun V => Hid (StAt V B 102 (InSt.start 0)) ∧ Hid (Ext w V)) ⟨HI, HX⟩ ?_
 have HB := Lib.hid hB
 clear HI HX hB
 rintro V ⟨HI, HX⟩
 go_wp2_with fail
 go_loopw [24] (fun i wr => ∃ k : Nat, k ≤ arity ∧ i = .int .i64 k ∧ Hid (StAt wr B 102 (InSt.start k)) ∧ Hid (Ext w wr)) (fun i _ => arity - (intOf i).toNat)
 case atStart => exact ⟨0, Nat.zero_le _, rfl, HI, HX⟩
 case round =>
  clear HI HX
  obtain ⟨k, hk, rfl, HI, HX⟩ := hrel
  by_cases hlt : k < arity
  ·have d1 : (k : Int) < arity := by omega
   have d2 : (k : Int) + 1 < 256 := by omega
   have c1 := HI.out.x (j := k + 1) (by omega)
   have f1 := HI.out.frozen (k + 1)
   have HN := HI.out.setX (j := k + 1) (by omega) true
   rw [start_set k (by omega)] at HN
   have HN2 := Lib.hid HN
   have HY := Lib.hid (HX.out.setCell (p := ⟨B, k + 1, none⟩) (by show w.heap.size ≤ B; rw [HB.out]; exact Nat.le_refl _) (.bool true))
   clear HN
   go_wp2_with fail
   go_roundw
   case rel => exact ⟨k + 1, by omega, by go_num, HN2, HY⟩
   case measure => simp [intOf]; omega
  ·obtain rfl : k = arity := by omega
   clear hk hlt
   go_wp2_with fail
   go_loopw [36] (fun i wr => ∃ (j : Nat) (st : InSt), j ≤ l.length ∧ i = .int .i64 j ∧ Hid ((InSt.start k).run (l.take j) = some st) ∧ Hid (StOk st) ∧ Hid (StAt wr B 102 st) ∧ Hid (Ext w wr)) (fun i _ => l.length - (intOf i).toNat)
   case atStart => exact ⟨0, _, Nat.zero_le _, rfl, Lib.hid rfl, Lib.hid (start_ok k), HI, HX⟩
   case round =>
    clear HI HX
    obtain ⟨j, st, hj, rfl, HRUN, HOK, HI, HX⟩ := hrel
    by_cases hlt : j < l.length
    ·have d1 : (j : Int) < l.length := by omega
     obtain ⟨bl, off, rfl, c0, c1, c2, c3, c4⟩ := src_ins (HS.out.ext HX.out) hlt
     obtain ⟨x, hx⟩ : ∃ x, x = l[j] := ⟨_, rfl⟩
     rw [← hx] at c0 c1 c2 c3 c4
     obtain ⟨op, sn, n, v, a⟩ := x
     have HXJ := Lib.hid hx
     dsimp only at c0 c1 c2 c3 c4
     have d2 : (0 : Int) ≤ j := by omega
     clear hx hj
     go_upto_region 14 with fail
     refine wp_abs (fun V => Hid (StAt V B 102 st) ∧ Hid (Blk V wr.heap.size 25 #[.int .i64 op, .string sn, .int .i64 n, .int .i64 v, .int .i64 a]) ∧ Hid (Ext w V)) ⟨Lib.hid (HI.out.ext ((Ext.refl _).alloc _)), Lib.hid (Blk.new wr _ _), Lib.hid (HX.out.alloc _)⟩ ?_
     clear HI HX c0 c1 c2 c3 c4
     rintro V ⟨HI, HB2, HX⟩
     have q0 : V.cell? ⟨wr.heap.size, 0, none⟩ = some (.int .i64 op) := HB2.out.cell 0
     have q1 : V.cell? ⟨wr.heap.size, 1, none⟩ = some (.string sn) := HB2.out.cell 1
     have q2 : V.cell? ⟨wr.heap.size, 2, none⟩ = some (.int .i64 n) := HB2.out.cell 2
     have q3 : V.cell? ⟨wr.heap.size, 3, none⟩ = some (.int .i64 v) := HB2.out.cell 3
     have q4 : V.cell? ⟨wr.heap.size, 4, none⟩ = some (.int .i64 a) := HB2.out.cell 4
     have HM := Lib.hid (may_ins ⟨op, sn, n, v, a⟩ V (HT.out.ext HX.out))
     cases hm : insMay ⟨op, sn, n, v, a⟩
     ·have HBAD : Hid ((insMay l[j] && (st.step l[j]).1) = false) := Lib.hid (by rw [← HXJ.out, hm]; rfl)
      rw [hm] at HM
      unfold insVal at HM
      clear hm
      go_wp2_with (go_at_call 53; refine HM.out.mono ?_; rintro e W1 ⟨rfl, x1⟩)
      go_ret2
      exact chk_post (chk_at ha hl hlt HRUN.out HBAD.out) (HX.out.trans x1)
     ·have hio := (may_ok hm).1
      have HOK2 := Lib.hid (step_ok HOK.out hm)
      have HMJ : Hid (insMay l[j] = true) := Lib.hid (by rw [← HXJ.out]; exact hm)
      obtain ⟨⟨rb, rs⟩, hr⟩ : ∃ r, st.step ⟨op, sn, n, v, a⟩ = r := ⟨_, rfl⟩
      have HST : ∀ W, StAt W B 102 st → Hid (Calls Tryz.prog 54 #[.pointer (some ⟨B, 0, none⟩), insVal ⟨op, sn, n, v, a⟩] W (StPost B (rb, rs) W)) := fun W h => by
       have := step_any B ⟨op, sn, n, v, a⟩ st W h HOK.out hio
       rw [hr] at this
       exact Lib.hid this
      rw [hm] at HM
      rw [hr] at HOK2
      have HSJ : Hid (st.step l[j] = (rb, rs)) := Lib.hid (by rw [← HXJ.out]; exact hr)
      unfold insVal at HM HST
      clear hm hr hio
      cases rb
      ·have HBAD : Hid ((insMay l[j] && (st.step l[j]).1) = false) := Lib.hid (by rw [HSJ.out, Bool.and_false])
       go_wp2_with (first | (go_at_call 53; refine HM.out.mono ?_; rintro e W1 ⟨rfl, x1⟩; have z0 := x1.cell q0; have z1 := x1.cell q1; have z2 := x1.cell q2; have z3 := x1.cell q3; have z4 := x1.cell q4; replace HI := Lib.hid (HI.out.ext x1); replace HX := Lib.hid (HX.out.trans x1); clear x1) | (go_at_call 54; refine (HST _ HI.out).out.mono ?_; rintro e W2 ⟨rfl, h2, m2⟩))
       go_ret2
       exact chk_post (chk_at ha hl hlt HRUN.out HBAD.out) (((Mods.ext HX.out).trans m2).toExt (by simp; rw [HB.out]; exact Nat.le_refl _))
      ·have HR2 := Lib.hid (run_snoc hlt HRUN.out HMJ.out (by rw [HSJ.out]))
       rw [HSJ.out] at HR2
       go_wp2_with (first | (go_at_call 53; refine HM.out.mono ?_; rintro e W1 ⟨rfl, x1⟩; have z0 := x1.cell q0; have z1 := x1.cell q1; have z2 := x1.cell q2; have z3 := x1.cell q3; have z4 := x1.cell q4; replace HI := Lib.hid (HI.out.ext x1); replace HX := Lib.hid (HX.out.trans x1); clear x1) | (go_at_call 54; refine (HST _ HI.out).out.mono ?_; rintro e W2 ⟨rfl, h2, m2⟩))
       go_roundw
       case rel => exact ⟨j + 1, rs, by omega, by go_num, HR2, HOK2, Lib.hid h2, Lib.hid (((Mods.ext HX.out).trans m2).toExt (by simp; rw [HB.out]; exact Nat.le_refl _))⟩
       case measure => simp [intOf]; omega
    ·obtain rfl : j = l.length := by omega
     have HE := Lib.hid (chk_end ha hl (by rw [List.take_length] at HRUN; exact HRUN.out))
     have c6 := HI.out.ended
     obtain ⟨en, hen⟩ : ∃ en, st.ended = en := ⟨_, rfl⟩
     rw [hen] at c6 HE
     clear hen hlt hj
     cases en
     all_goals
      go_wp2_with fail
      go_ret2
      exact chk_post HE.out HX.out
theorem ichk_any (l : List Ins) (arity : Int) (c : Nat) (A : Option Addr) (w : World) (hT : OpTabAt w) (hS : El.Src w A l.length 5 (flat insCells l)) :
  Calls Tryz.prog 20 #[.slice A l.length c, .int .i64 arity] w (ChkPost l arity w) := by
 by_cases ha : arity < 0 ∨ 16 < arity
 ·exact check_arity l arity c A w ha
 ·by_cases hl : 4096 < l.length
  ·exact check_long l arity c A w ha hl
  ·obtain ⟨k, rfl⟩ : ∃ k : Nat, arity = k := ⟨arity.toNat, by omega⟩
   exact check_fit l k c A w hT hS (by omega) (by omega)
end Go.Proofs.YtmnnhdegoapfcaaGreatDoor

/- Layer 17, plain: any clause's code is right, of the head's arity. No program in sight. -/
namespace Go.El
variable {c : Cls}
theorem go_head {S : List Int} {al : Alv} (hS : S.length ≤ 64) : ∀ (l : List Tm) (a : Int) (m : Mk) (s : InSt), okL l = true → alL al l → 1 ≤ a → a + l.length ≤ 256 → (headF S l a m).full = false → Core S al m s → s.uni = 0 → s.set = 0 → (∀ j : Nat, a ≤ j → (j : Int) < a + l.length → s.x.getD j false = true) →
  ∃ s', Go1 S al m (headF S l a m) s s' ∧ s'.uni = 0 ∧ s'.set = 0
 | [], a, m, s, _, _, _, _, _, hc, hu, hs, _ => ⟨s, .refl hc, hu, hs⟩
 | t :: r, a, m, s, hok, hal, ha, hr, hf, hc, hu, hs, hx => by
  simp only [okL, Bool.and_eq_true] at hok
  simp only [List.length_cons] at hr hx
  simp only [headF] at hf ⊢
  have hf1 := (ex_head S r (a + 1) (m.get S t a)).full hf
  obtain ⟨s1, g1, g2, g3⟩ := go_get hS hok.1 hal.1 ⟨ha, by omega⟩ hf1 hc hu hs (hx a.toNat (by omega) (by omega))
  obtain ⟨s2, k1, k2, k3⟩ := go_head hS r (a + 1) _ s1 hok.2 hal.2 (by omega) (by omega) hf g1.core g2 g3 (fun j h1 h2 => g1.mono.x _ (hx j (by omega) (by omega)))
  exact ⟨s2, g1.trans k1, k2, k3⟩
theorem base_ge (c : Cls) : 0 ≤ baseF c := by
 have key : ∀ (l : List (Int × Tm)) (n : Int), 0 ≤ n → 0 ≤ l.foldl (fun n g => max n (arF g)) n := by
  intro l
  induction l with
  | nil => intro n h; exact h
  | cons g r ih => intro n h; exact ih _ (show 0 ≤ max n (arF g) by omega)
 unfold baseF
 split
 ·exact Int.le_refl _
 ·exact key _ _ (by omega)
theorem start_x {n j : Nat} (h1 : 1 ≤ j) (h2 : j ≤ n) (h3 : n ≤ 255) : (InSt.start n).x.getD j false = true := by
 unfold InSt.start
 simp only
 rw [List.getD_eq_getElem?_getD, List.getElem?_map, List.getElem?_range (by omega)]
 simp
 omega
theorem core_start {c : Cls} {s : InSt} {m : Mk} (hx : s.x.length = 256) (hy : s.y.length = 65) (he : s.ended = false) (hm : m.regs = []) (hn : m.next = baseF c) (hs : (planF c).slots = [] ∨ s.slots = (slotsF c).length) : Core (planF c).slots (Ak (gathF c).1 0) m s := by
 refine ⟨hx, hy, he, fun n v hf _ => ?_, fun n v hf => ?_, fun n v hv _ => ?_, by rw [hn]; exact base_ge c⟩
 ·rw [hm] at hf; cases hf
 ·rw [hm] at hf; cases hf
 ·rcases hs with hs | hs
  ·rw [hs] at hv; cases hv
  ·obtain ⟨i, y, h1, h2, h3⟩ := slot_at (l := slotsF c) hv
   have := (List.getElem?_eq_some_iff.1 h1).1
   rw [hs]
   omega
theorem start_inv (hp : Plan c) : ∃ s, (InSt.start c.h.l.length).run (startF c).out = some s ∧ Inv c 0 (startF c) s ∧ ∀ j : Nat, 1 ≤ j → j ≤ c.h.l.length → s.x.getD j false = true := by
 have hk := hp.good.hk
 have hlx : (InSt.start c.h.l.length).x.length = 256 := by simp [InSt.start]
 have hly : (InSt.start c.h.l.length).y.length = 65 := by simp [InSt.start]
 have hs64 := hp.good.s
 have hsm : (planF c).slots.length = (slotsF c).length := by
  have : (planF c).slots = (slotsF c).map Spn.n := rfl
  rw [this, List.length_map]
 have hb := (lev_slot (l := slotsF c)).2.2.2
 have hlv : (planF c).level = levF (slotsF c) := rfl
 cases he : (planF c).env with
 | false =>
  obtain ⟨n1, n2, n3, n4⟩ := no_env hp he
  have hst : startF c = ⟨baseF c, [], []⟩ := by
   unfold startF
   simp only [he, n2]
   simp
  rw [hst]
  refine ⟨_, rfl, ⟨core_start (c := c) hlx hly rfl rfl rfl (.inl ?_), rfl, rfl, rfl, ?_, fun h => by omega⟩, fun j h1 h2 => start_x h1 h2 (by omega)⟩
  ·have : (planF c).slots = (slotsF c).map Spn.n := rfl
   rw [this, n1]
   rfl
  ·rw [he]
   rfl
 | true =>
  have h1 : (InSt.start c.h.l.length).step ⟨19, ⟨#[]⟩, (planF c).slots.length, 0, 0⟩ = (true, { InSt.start c.h.l.length with slots := (planF c).slots.length }) := by
   rw [step_env rfl rfl rfl (.inl rfl)]
   unfold InSt.env
   rw [if_neg (by simp)]
   rfl
  have hm1 := may_19 (n := (planF c).slots.length) ⟨by omega, by omega⟩
  have hc := core_start (c := c) (s := { InSt.start c.h.l.length with slots := (planF c).slots.length }) (m := ⟨baseF c, [], [⟨19, ⟨#[]⟩, (planF c).slots.length, 0, 0⟩]⟩) hlx hly rfl rfl rfl (.inr (by show ((planF c).slots.length : Int) = _; omega))
  have hr1 : (InSt.start c.h.l.length).run [⟨19, ⟨#[]⟩, (planF c).slots.length, 0, 0⟩] = some { InSt.start c.h.l.length with slots := (planF c).slots.length } := by
   rw [run_one hm1 (by rw [h1]), h1]
  by_cases h0 : 0 < (planF c).level
  ·have hst : startF c = (⟨baseF c, [], [⟨19, ⟨#[]⟩, (planF c).slots.length, 0, 0⟩]⟩ : Mk).add ⟨26, ⟨#[]⟩, 0, -(planF c).level, 0⟩ := by
    unfold startF
    simp only [he]
    rw [if_pos h0, if_pos trivial]
    rfl
   have hbd := lev_bd hp.good h0
   obtain ⟨l1, l2, l3, l4, l5, l6, l7, l8, l9⟩ := learn_ok hc (v := -(planF c).level) hbd (fun _ => by show -((planF c).slots.length : Int) ≤ _; omega)
   have h2 := step_level (s := { InSt.start c.h.l.length with slots := (planF c).slots.length }) (i := ⟨26, ⟨#[]⟩, 0, -(planF c).level, 0⟩) rfl rfl rfl rfl
   rw [if_pos (show -(planF c).level < 0 by omega)] at h2
   have hc2 := (hc.mono l2 l4 l5 l6).code ⟨26, ⟨#[]⟩, 0, -(planF c).level, 0⟩
   rw [hst]
   refine ⟨(InSt.learn { InSt.start c.h.l.length with slots := (planF c).slots.length } (-(planF c).level)).2, ?_, ⟨hc2, l7, l8, ?_, ?_, fun _ _ => l3⟩, fun j j1 j2 => l2.x j (start_x j1 j2 (by omega))⟩
   ·show InSt.run _ ([⟨19, ⟨#[]⟩, (planF c).slots.length, 0, 0⟩] ++ [⟨26, ⟨#[]⟩, 0, -(planF c).level, 0⟩]) = _
    rw [run_app, hr1]
    show InSt.run _ [_] = _
    rw [run_one (may_26 hbd) (by rw [h2]; exact l1), h2]
   ·rw [l2.ca]; rfl
   ·rw [l2.sl, he]
    show ((planF c).slots.length : Int) = _
    simp
    omega
  ·have hst : startF c = (⟨baseF c, [], [⟨19, ⟨#[]⟩, (planF c).slots.length, 0, 0⟩]⟩ : Mk) := by
    unfold startF
    simp only [he]
    rw [if_neg h0, if_pos trivial]
    rfl
   rw [hst]
   refine ⟨_, hr1, ⟨hc, rfl, rfl, rfl, ?_, fun h => absurd h h0⟩, fun j j1 j2 => start_x j1 j2 (by omega)⟩
   rw [he]
   show ((planF c).slots.length : Int) = _
   simp
   omega
theorem comp_right (h : (compF c).2 = 0) : chkIns (compF c).1 c.h.l.length = (((compF c).1.length : Int), 0) := by
 unfold compF at h ⊢
 split at h
 ·next h1 => exact absurd h h1
 ·next h1 =>
  rw [if_neg h1]
  split at h
  ·cases h
  ·next h2 =>
   rw [if_neg h2]
   simp only
   have h2 : (makeF c).full = false := by simpa using h2
   have hp := plan_of (Decidable.byContradiction h1)
   have hS := slots_le hp
   obtain ⟨s0, r0, i0, x0⟩ := start_inv hp
   have hok : okL c.h.l = true := by
    have hh := hp.good.h
    obtain ⟨⟨k, n, b, l⟩, gs, vs⟩ := c
    simp only [okT, Bool.and_eq_true] at hh
    exact hh.2
   have hal : alT (Ak (gathF c).1 0) c.h := al_of c.h [] _ hp.good.h (fun n hn => ⟨by have := vs_ge c.h [] hp.good.h (fun m hm => by cases hm) n hn; omega, hp.head n hn⟩)
   have hf1 : (headF (planF c).slots c.h.l 1 (startF c)).full = false := by
    obtain ⟨a, d, e⟩ := ex_goals (planF c) c.gs 0 false (headF (planF c).slots c.h.l 1 (startF c))
    unfold makeF at h2
    unfold Mk.full at h2 ⊢
    rw [Bool.or_eq_false_iff, e, List.length_append] at h2
    have e1 := of_decide_eq_false h2.1
    have e2 := of_decide_eq_false h2.2
    rw [Bool.or_eq_false_iff]
    exact ⟨decide_eq_false (by omega), decide_eq_false (by omega)⟩
   have hk := hp.good.hk
   obtain ⟨s1, g1, g2, g3⟩ := go_head hS c.h.l 1 (startF c) s0 hok (al_kids hal) (by omega) (by omega) hf1 i0.core i0.uni i0.set_ (fun j h1 h2 => x0 j (by omega) (by omega))
   have i1 := i0.go g1 g2 g3
   obtain ⟨d1, e1, e2, _, _⟩ := g1
   obtain ⟨d2, s2, e3, e4, e5⟩ := go_goals hp c.gs 0 _ s1 ⟨[], rfl⟩ (by rw [hp.cnt]; omega) hp.fit h2 i1
   have hrun : (InSt.start c.h.l.length).run (makeF c).out = some s2 := by
    unfold makeF
    rw [e3, e1, List.append_assoc, run_app, r0]
    show s0.run (d1 ++ d2) = _
    rw [run_app, e2]
    exact e4
   have hlen : (makeF c).out.length ≤ 4096 := by
    unfold Mk.full at h2
    rw [Bool.or_eq_false_iff] at h2
    have := of_decide_eq_false h2.2
    omega
   unfold chkIns
   rw [if_neg (by omega), if_neg (by omega), Int.toNat_natCast, hrun]
   simp only
   rw [e5]
   rfl
end Go.El

/- Law 17: the walk of EmitRight. -/
namespace Go.El
open Go.Proofs.YtmnnhdegoapfcaaGreatDoor
theorem sz_goal {t : Tm} (h : mayT t = true) : szT t ≤ 1000000000 := by
 have := (mayT_iff.1 h).2.2
 omega
theorem cls_sz {c : Cls} (h : mayC c = 0) : ClSz c := by
 obtain ⟨h1, h2, h3⟩ := may_parts h
 exact ⟨sz_goal h1, fun j k t hj => sz_goal (h2 (k, t) (List.mem_of_getElem? hj)), by omega⟩
theorem comp_two {c : Cls} (h : mayC c = 0) : (compF c).2 = 0 ∨ (compF c).2 = 62 := by
 have hp : planE c = 0 ∨ planE c = 62 := by
  unfold planE
  rw [if_neg (fun x => x h)]
  split
  ·exact .inr rfl
  ·exact .inl rfl
 unfold compF
 rcases hp with hp | hp
 ·rw [hp, if_neg (by decide)]
  split
  ·exact .inr rfl
  ·exact .inl rfl
 ·rw [hp, if_pos (by decide)]
  exact .inr rfl
end Go.El
namespace Go.Proofs.YtmnnhdegoapfcaaGreatDoor
open Go.RowKit Go.El
theorem blk2c (W : World) (c1 c2 : Array Value) : Blk ((W.alloc (.cells c1 34)).alloc (.cells c2 30)) W.heap.size 34 c1 := (Blk.new W _ _).alloc _
set_option maxRecDepth 100000 in
set_option maxHeartbeats 8000000 in
theorem emitRight_any (HFC : FromC) (t : Tm) (A : Option Addr) (c : Nat) (w : World) (D : Nat → Prop) (ht0 : TmIn D w t A c) (hf : fitT t = true) (g : EnvT w) :
  Calls Tryz.prog 6 #[tmVal t A c] w fun e w' => e = .returned (.bool true) ∧ Ext w w' := by
 have ht := ht0.lt
 have HLV := fun W (x : Ext w W) => Lib.hid (lives17_any W (g.ext x))
 have HLG := fun W (x : Ext w W) => Lib.hid (refLarge_any t A c W _ (ht.ext x) hf)
 have HFR := fun W (x : Ext w W) (hs : szT t ≤ 100000) => Lib.hid (HFC t A c W _ (fun k hk => Nat.lt_of_lt_of_le hk x.size) (ht.ext x) hs)
 have HG := Lib.hid g
 have HSZ : Hid (bigT t = false → szT t ≤ 100000) := Lib.hid (fun h => Nat.le_trans (bigT_no h) (by omega))
 have HMAY : ∀ cl, fromF biF t = some cl → Hid (mayC cl = 0) := fun cl h => Lib.hid (from_may h)
 unfold tmVal at *
 generalize bigT t = bg at *
 generalize fromF biF t = FF at *
 generalize szT t = sz at *
 generalize t.l.length = m at *
 generalize t.s = s at *
 generalize t.n = n at *
 generalize t.k = k at *
 clear ht ht0 g hf
 go_enter Tryz.func6, Tryz.ntmps6
 go_upto_region 1 with fail
 refine wp_abs (fun V => Hid (Blk V w.heap.size 30 #[.int .i64 k, .int .i64 n, .string s, .slice A m c]) ∧ Hid (Ext w V)) ⟨Lib.hid (Blk.new w _ _), Lib.hid ((Ext.refl w).alloc _)⟩ ?_
 rintro V ⟨HB, XR⟩
 have x9 := HB.out.cell
 have HL1 := HLG V XR.out
 clear HLG
 cases bg with
 | true =>
  clear HFR HMAY HSZ
  go_wp2_with (first
   | (go_at_call 11; refine HL1.out.mono ?_; rintro e W1 ⟨rfl, x⟩; have XS := Lib.hid (XR.out.trans x); clear XR x; have XR := XS; clear XS)
   | (go_at_call 8; refine (HLV _ XR.out).out.mono ?_; rintro e W2 ⟨rfl, x⟩; have XS := Lib.hid (XR.out.trans x); clear XR x; have XR := XS; clear XS))
  go_ret
  exact ⟨rfl, XR.out⟩
 | false =>
  have hsz := HSZ.out rfl
  go_upto_region 3 with (go_at_call 11; refine HL1.out.mono ?_; rintro e W1 ⟨rfl, x⟩; have X1 := Lib.hid (XR.out.trans x); have B1 := Lib.hid (HB.out.ext x); clear x)
  clear x9 HB XR HL1 HSZ
  have x9 := B1.out.cell
  have HF1 := HFR W1 X1.out hsz
  clear HFR hsz
  unfold FrPost clC at HF1
  go_upto_region 4 with (go_at_call 12; refine HF1.out.mono ?_; rintro e W2 hfr; (obtain ⟨ef, ⟨k9, n9, s9, A9, m9, c9, rfl⟩, x⟩ | ⟨cl, hA, hc, gA, gc, ef, rfl, hci, x⟩ := hfr))
  ·have XR := Lib.hid (((X1.out.trans x).alloc (.cells zC 34)).alloc (.cells #[.int .i64 k9, .int .i64 n9, .string s9, .slice A9 m9 c9] 30))
   clear ef x HMAY x9 B1 X1 HF1
   go_wp2_with (go_at_call 8; refine (HLV _ XR.out).out.mono ?_; rintro e W3 ⟨rfl, x⟩; have XS := Lib.hid (XR.out.trans x); clear XR x; have XR := XS; clear XS)
   go_ret
   exact ⟨rfl, XR.out⟩
  ·have HM := HMAY cl ef
   have HB2 := Lib.hid (blk2c W2 (clC cl hA hc gA gc) zT)
   have HCI := Lib.hid ((hci.ext ((Ext.refl _).alloc (.cells (clC cl hA hc gA gc) 34))).ext ((Ext.refl _).alloc (.cells zT 30)))
   have HX2 := Lib.hid (((X1.out.trans x).alloc (.cells (clC cl hA hc gA gc) 34)).alloc (.cells zT 30))
   unfold clC at HB2 HCI HX2
   refine wp_abs (fun V => Hid (Blk V W2.heap.size 34 #[.int .i64 cl.h.k, .int .i64 cl.h.n, .string cl.h.s, .slice hA cl.h.l.length hc, .slice gA cl.gs.length gc, .int .i64 cl.vars]) ∧ Hid (ClIn (fun b => b < W2.heap.size) V cl hA hc gA gc) ∧ Hid (Ext w V)) ⟨HB2, HCI, HX2⟩ ?_
   generalize W2.heap.size = gb at *
   clear HB2 HCI HX2 hci x ef HMAY x9 B1 X1 HF1
   rintro V2 ⟨HB, HC, XR⟩
   have HCM := fun W (x : Ext V2 W) => Lib.hid (mCompile cl hA hc gA gc _ W (HC.out.ext x) (cls_sz HM.out))
   have hcr := @comp_right cl
   have hct := comp_two HM.out
   unfold CmPost clC at HCM
   generalize (compF cl).1 = code at *
   generalize (compF cl).2 = er at *
   have HCR := Lib.hid hcr
   clear hcr
   have XV := Lib.hid (Ext.refl V2)
   go_upto_region 6 with (go_at_call 8; refine (HLV _ XR.out).out.mono ?_; rintro e W3 ⟨rfl, x⟩; have XW := Lib.hid (XV.out.trans x); have XS := Lib.hid (XR.out.trans x); clear XR XV x; have XR := XS; clear XS)
   have x9 := (HB.out.ext XW.out).cell
   rcases hct with hct | hct
   ·subst hct
    have hcr := HCR.out rfl
    go_upto_region 9 with (go_at_call 13; refine (HCM _ XW.out).out.mono ?_; rintro e W4 ⟨Al, kl, rfl, ho, _, x⟩; have O4 := Lib.hid (El.Src.of_own ho); have X4 := Lib.hid (XR.out.trans x); have XW4 := Lib.hid (XW.out.trans x); clear ho x)
    clear x9
    have x9 := (HB.out.ext XW4.out).cell
    have HCH := Lib.hid (ichk_any code (cl.h.l.length : Int) kl Al W4 (HG.out.ext X4.out).ops O4.out)
    unfold ChkPost at HCH
    rw [hcr] at HCH
    clear hcr HCR
    go_wp2_with (go_at_call 20; refine HCH.out.mono ?_; rintro e W5 ⟨rfl, x⟩; have X5 := Lib.hid (X4.out.trans x); clear x)
    go_ret
    exact ⟨rfl, X5.out⟩
   ·subst hct
    clear HCR
    go_wp2_with (go_at_call 13; refine (HCM _ XW.out).out.mono ?_; rintro e W4 ⟨Al, kl, rfl, ho, _, x⟩; have X4 := Lib.hid (XR.out.trans x); clear ho x)
    go_ret
    exact ⟨rfl, X4.out⟩
end Go.Proofs.YtmnnhdegoapfcaaGreatDoor
