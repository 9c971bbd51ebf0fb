/- Law 17: lives holds. -/
import Derived.Test.YtmnnhdegoapfcaaGreatDoorQ12
import Derived.Test.YtmnnhdegoapfcaaGreatDoorQ21
import Derived.Test.YtmnnhdegoapfcaaGreatDoorQ31
import Derived.Test.YtmnnhdegoapfcaaGreatDoorQ14
namespace Go.El
open Go.Proofs.YtmnnhdegoapfcaaGreatDoor
def lvI : List Ins := [⟨1, ⟨#[]⟩, 0, 3, 1⟩, ⟨5, nmB 102, 1, 0, 2⟩, ⟨6, ⟨#[]⟩, 0, 4, 0⟩, ⟨11, ⟨#[]⟩, 0, 4, 1⟩, ⟨22, nmB 113, 1, 0, 0⟩]
theorem lv_list : listS lvI = [103, 101, 116, 95, 118, 97, 114, 32, 88, 51, 32, 65, 49, 10, 103, 101, 116, 95, 115, 116, 114, 32, 102, 47, 49, 32, 65, 50, 10, 117, 110, 105, 95, 118, 97, 114, 32, 88, 52, 10, 112, 117, 116, 95, 118, 97, 108, 32, 88, 52, 32, 65, 49, 10, 101, 120, 101, 99, 32, 113, 47, 49, 10] := by decide +kernel
def nilC : Cls := ⟨.mk 0 0 ⟨#[]⟩ [], [], 0⟩
theorem comp_nil : (compF nilC).1.length = 0 ∧ (compF nilC).2 = 60 := by decide +kernel
theorem clSz_of {c : Cls} (h : szT c.h ≤ 1000000000) (hg : (c.gs.all fun g => decide (szT g.2 ≤ 1000000000)) = true) (hl : c.gs.length ≤ 1000000000) : ClSz c :=
 ⟨h, fun j k t hj => by simpa using List.all_eq_true.1 hg _ (List.mem_of_getElem? hj), hl⟩
theorem sz_lv : ClSz lvC := clSz_of (by decide +kernel) (by decide +kernel) (by decide +kernel)
theorem sz_nil : ClSz nilC := clSz_of (by decide +kernel) (by decide +kernel) (by decide +kernel)
theorem sz_one : ClSz oneC := clSz_of (by decide +kernel) (by decide +kernel) (by decide +kernel)
def tmF' : Tm := .mk 4 0 (nmB 102) [vT 1]
def tmP2 : Tm := .mk 4 0 (nmB 112) [vT 0, tmF']
def tmQ2 : Tm := .mk 4 0 (nmB 113) [vT 1]
theorem lv_gs : ([(tmQ2, (none : Option Addr), 0)].map fun p => (goalK p.1, p.1)) = lvC.gs := by
 have h1 : goalK tmQ2 = 1 := by decide +kernel
 simp only [List.map_cons, List.map_nil, h1]
 rfl
end Go.El
namespace Go.Proofs.YtmnnhdegoapfcaaGreatDoor
open Go.RowKit Go.El
theorem litComp (W : World) (s : ByteArray) (M : List TmP) (cs : Array Value) (n : Nat) (hn2 : M.length = n) (t : Tm) (htm : .mk 4 0 s (M.map (·.1)) = t) (hcs : cs = (flat tmC M).toArray) (hk : ∀ p ∈ M, TmIn (fun k => 0 ≤ k ∧ k < W.heap.size) W p.1 p.2.1 p.2.2) (hn : M ≠ []) (hl : M.length ≤ 1000) :
  Calls Tryz.prog 24 #[.string s, .slice (some ⟨W.heap.size, 0, none⟩) n n] (W.alloc (.cells cs 30)) fun e w' => ∃ A' c', e = .returned (.agg #[.int .i64 4, .int .i64 0, .string s, .slice A' n c']) ∧ TmIn (fun k => 0 ≤ k ∧ k < w'.heap.size) w' t A' c' ∧ Ext W w' := by
 subst hcs
 subst hn2
 subst htm
 have hx := (Ext.refl W).alloc (.cells (flat tmC M).toArray 30)
 have hs := El.Src.new W (flat tmC M).toArray 30 M.length 4 (by simpa using flat_len4 M)
 refine (refComp_any s M _ _ _ (fun k => k < (W.alloc (.cells (flat tmC M).toArray 30)).heap.size) hs (fun p hp => ((hk p hp).ext hx).mono (fun k h => Nat.lt_of_lt_of_le h.2 hx.size)) hn hl (fun k h => h)).mono ?_
 rintro e w' ⟨A', c', rfl, ht, hx2⟩
 exact ⟨A', c', rfl, ht.mono (fun k h => by rcases h with h | h; exact ⟨Nat.zero_le _, Nat.lt_of_lt_of_le h hx2.size⟩; exact ⟨Nat.zero_le _, h.2⟩), hx.trans hx2⟩
theorem blk2g (W : World) (c1 c2 : Array Value) : Blk ((W.alloc (.cells c1 42)).alloc (.cells c2 34)) (W.heap.size + 1) 34 c2 := by
 have := Blk.new (W.alloc (.cells c1 42)) 34 c2
 rw [World.size_alloc] at this
 exact this
theorem leafT (W : World) (n : Int) : TmIn (fun k => 0 ≤ k ∧ k < W.heap.size) W (vT n) none 0 := TmsIn.term (TmsIn.nil _ _ _ _) _ _ _
theorem tl_go0 {V U : World} {t : Tm} {A : Option Addr} {c : Nat} (h : TmIn (fun k => 0 ≤ k ∧ k < V.heap.size) V t A c) (x : Ext V U) : TmIn (fun k => 0 ≤ k ∧ k < U.heap.size) U t A c := tl_go h x
set_option maxRecDepth 100000 in
set_option maxHeartbeats 8000000 in
theorem lives17_any (w : World) (g : EnvT w) : Calls Tryz.prog 8 #[] w fun e w' => e = .returned (.bool true) ∧ Ext w w' := by
 have HG := Lib.hid g
 clear g
 have C1 := fun W => Lib.hid (litComp W ⟨#[102]⟩ [(vT 1, none, 0)] #[.int .i64 1, .int .i64 1, .string ⟨#[]⟩, .slice none 0 0] 1 rfl tmF' rfl rfl (fun p hp => by simp only [List.mem_cons, List.not_mem_nil, or_false] at hp; subst hp; exact leafT W 1) (by simp) (by simp))
 have C2 := fun W A c (h : TmIn (fun k => 0 ≤ k ∧ k < W.heap.size) W tmF' A c) => Lib.hid (litComp W ⟨#[112]⟩ [(vT 0, none, 0), (tmF', A, c)] #[.int .i64 1, .int .i64 0, .string ⟨#[]⟩, .slice none 0 0, .int .i64 4, .int .i64 0, .string ⟨#[102]⟩, .slice A 1 c] 2 rfl tmP2 rfl rfl (fun p hp => by simp only [List.mem_cons, List.not_mem_nil, or_false] at hp; rcases hp with rfl | rfl; exact leafT W 0; exact h) (by simp) (by simp))
 have C3 := fun W => Lib.hid (litComp W ⟨#[113]⟩ [(vT 1, none, 0)] #[.int .i64 1, .int .i64 1, .string ⟨#[]⟩, .slice none 0 0] 1 rfl tmQ2 rfl rfl (fun p hp => by simp only [List.mem_cons, List.not_mem_nil, or_false] at hp; subst hp; exact leafT W 1) (by simp) (by simp))
 go_enter Tryz.func8, Tryz.ntmps8
 have XR := Lib.hid (Ext.refl w)
 go_upto_region 2 with (first
  | (go_at_call 24; (with_reducible refine (C1 _).out.mono ?_); rintro e U1 ⟨A1, c1, rfl, ht, x⟩; have T1 := Lib.hid ht; have XS := Lib.hid (XR.out.trans x); clear XR x ht; have XR := XS; clear XS)
  | (go_at_call 24; (with_reducible refine (C2 _ _ _ T1.out).out.mono ?_); rintro e U2 ⟨A2, c2, rfl, ht, x⟩; have T2 := Lib.hid ht; have XS := Lib.hid (XR.out.trans x); clear XR x ht T1; have XR := XS; clear XS)
  | (go_at_call 24; (with_reducible refine (C3 _).out.mono ?_); rintro e U3 ⟨A3, c3, rfl, ht, x⟩; have T3 := Lib.hid ht; have T2c := Lib.hid (tl_go0 T2b.out x); have XS := Lib.hid (XR.out.trans x); clear XR x ht; have XR := XS; clear XS)
  | (go_at_call 17; refine (refVar_any _ _).mono ?_; rintro e U4 ⟨rfl, x⟩; (first | (have T2b := Lib.hid (tl_go0 T2.out x); clear T2) | skip); have XS := Lib.hid (XR.out.trans x); clear XR x; have XR := XS; clear XS))
 have hg := goals_lit U3 0 (Nat.zero_le _) [(tmQ2, A3, c3)] #[.int .i64 1, .int .i64 4, .int .i64 0, .string ⟨#[113]⟩, .slice A3 1 c3] 1 rfl rfl (fun p hp => by simp only [List.mem_cons, List.not_mem_nil, or_false] at hp; subst hp; exact T3.out) (by simp)
 have hgs : ([(tmQ2, A3, c3)].map fun p => (goalK p.1, p.1)) = lvC.gs := lv_gs
 rw [hgs] at hg
 have hx3 := ((Ext.refl U3).alloc (.cells #[.int .i64 1, .int .i64 4, .int .i64 0, .string ⟨#[113]⟩, .slice A3 1 c3] 42))
 have HCB := Lib.hid (blk2g U3 #[.int .i64 1, .int .i64 4, .int .i64 0, .string ⟨#[113]⟩, .slice A3 1 c3] #[.int .i64 4, .int .i64 0, .string ⟨#[112]⟩, .slice A2 2 c2, .slice (some ⟨U3.heap.size, 0, none⟩) 1 1, .int .i64 2])
 have hci : ClIn (fun k => 0 ≤ k ∧ k < U3.heap.size + 1) (U3.alloc (.cells #[.int .i64 1, .int .i64 4, .int .i64 0, .string ⟨#[113]⟩, .slice A3 1 c3] 42)) lvC A2 c2 (some ⟨U3.heap.size, 0, none⟩) 1 := ⟨(T2c.out.ext hx3).mono (fun k hk => ⟨Nat.zero_le _, by have := hk.2; omega⟩), hg⟩
 have HCI := Lib.hid (hci.ext ((Ext.refl _).alloc (.cells #[.int .i64 4, .int .i64 0, .string ⟨#[112]⟩, .slice A2 2 c2, .slice (some ⟨U3.heap.size, 0, none⟩) 1 1, .int .i64 2] 34)))
 refine wp_abs (fun V => Hid (Blk V (U3.heap.size + 1) 34 #[.int .i64 4, .int .i64 0, .string ⟨#[112]⟩, .slice A2 2 c2, .slice (some ⟨U3.heap.size, 0, none⟩) 1 1, .int .i64 2]) ∧ Hid (ClIn (fun k => 0 ≤ k ∧ k < U3.heap.size + 1) V lvC A2 c2 (some ⟨U3.heap.size, 0, none⟩) 1) ∧ Hid (Ext w V)) ⟨HCB, HCI, Lib.hid ((XR.out.alloc _).alloc _)⟩ ?_
 clear hg hgs hx3 HCB hci HCI XR C1 C2 C3 T2b T2c T3
 generalize U3.heap.size = g3 at *
 rintro V ⟨HB, HC, HX⟩
 have x9 := HB.out.cell
 have HCM : ∀ W, Ext V W → Hid (Calls Tryz.prog 13 #[.agg #[.int .i64 4, .int .i64 0, .string ⟨#[112]⟩, .slice A2 2 c2, .slice (some ⟨g3, 0, none⟩) 1 1, .int .i64 2]] W fun e w' => ∃ A k, e = .returned (.tuple #[.slice A 5 k, .int .i64 0]) ∧ El.Src w' A 5 5 (flat insCells lvI) ∧ Ext W w') := fun W x => by
  have h := mCompile lvC A2 c2 (some ⟨g3, 0, none⟩) 1 _ W (HC.out.ext x) sz_lv
  unfold CmPost at h
  rw [comp_lv] at h
  refine Lib.hid (h.mono ?_)
  rintro e w' ⟨A, k, rfl, ho, _, x2⟩
  exact ⟨A, k, rfl, El.Src.of_own ho, x2⟩
 have HCN : ∀ W, Hid (Calls Tryz.prog 13 #[.agg #[.int .i64 0, .int .i64 0, .string ⟨#[]⟩, .slice none 0 0, .slice none 0 0, .int .i64 0]] W fun e w' => ∃ A k, e = .returned (.tuple #[.slice A 0 k, .int .i64 60]) ∧ Ext W w') := fun W => by
  have h := mCompile nilC none 0 none 0 (fun _ => False) W ⟨TmsIn.term (TmsIn.nil _ _ _ _) _ _ _, ⟨Nat.le_refl _, fun j k t hj => by simp [nilC] at hj⟩⟩ sz_nil
  unfold CmPost at h
  rw [comp_nil.1, comp_nil.2] at h
  refine Lib.hid (h.mono ?_)
  rintro e w' ⟨A, k, rfl, _, _, x2⟩
  exact ⟨A, k, rfl, x2⟩
 have HCO : ∀ W hA hc gA gc, ClIn (fun k => k < W.heap.size) W oneC hA hc gA gc → Hid (Calls Tryz.prog 13 #[.agg #[.int .i64 4, .int .i64 0, .string ⟨#[112]⟩, .slice hA 2 hc, .slice gA 3 gc, .int .i64 3]] W fun e w' => ∃ A k, e = .returned (.tuple #[.slice A 12 k, .int .i64 0]) ∧ Ext W w') := fun W hA hc gA gc hin => by
  have h := mCompile oneC hA hc gA gc _ W hin sz_one
  unfold CmPost at h
  rw [comp_one.1, comp_one.2] at h
  refine Lib.hid (h.mono ?_)
  rintro e w' ⟨A, k, rfl, _, _, x2⟩
  exact ⟨A, k, rfl, x2⟩
 have HBS : ∀ W, Ext V W → Hid (Calls Tryz.prog 26 #[.agg #[.int .i64 4, .int .i64 0, .string ⟨#[112]⟩, .slice A2 2 c2, .slice (some ⟨g3, 0, none⟩) 1 1, .int .i64 2]] W fun e w' => e = .returned (.int .i64 2) ∧ Ext W w') := fun W x => by
  have h := mBase lvC A2 c2 (some ⟨g3, 0, none⟩) 1 _ W (HC.out.ext x) sz_lv
  rw [base_lv] at h
  exact Lib.hid h
 go_upto_region 3 with (go_at_call 13; refine (HCM V (Ext.refl V)).out.mono ?_; rintro e W1 ⟨Al, kl, rfl, hs, x⟩; have S1 := Lib.hid hs; have X1 := Lib.hid x; clear hs x)
 clear x9
 go_upto_region 4 with (go_at_call 13; refine (HCN W1).out.mono ?_; rintro e W2 ⟨An, kn, rfl, x⟩; have X2 := Lib.hid (X1.out.trans x); have S2 := Lib.hid (S1.out.ext x); clear x)
 clear S1 X1 HCM HCN
 unfold OnePost at *
 go_upto_region 5 with (first
  | (go_at_call 25; refine (one_any W2).mono ?_; rintro e W3 ⟨hA, hc, gA, gc, rfl, hin, x⟩; have HIN := Lib.hid hin; have X3 := Lib.hid (X2.out.trans x); have S3 := Lib.hid (S2.out.ext x); clear hin x)
  | (go_at_call 13; refine (HCO W3 hA hc gA gc HIN.out).out.mono ?_; rintro e W4 ⟨Ao, ko, rfl, x⟩; have X4 := Lib.hid (X3.out.trans x); have S4 := Lib.hid (S3.out.ext x); clear x))
 clear HCO HIN X3 S3 X2 S2
 have HL : Hid (Calls Tryz.prog 9 #[.slice Al 5 kl] W4 fun e w' => e = .returned (.string (mkB (listS lvI))) ∧ Ext W4 w') := Lib.hid (eList_any lvI Al kl W4 S4.out (by decide) (HG.out.ext (HX.out.trans X4.out)))
 have hT : mkB (listS lvI) = ⟨#[103, 101, 116, 95, 118, 97, 114, 32, 88, 51, 32, 65, 49, 10, 103, 101, 116, 95, 115, 116, 114, 32, 102, 47, 49, 32, 65, 50, 10, 117, 110, 105, 95, 118, 97, 114, 32, 88, 52, 10, 112, 117, 116, 95, 118, 97, 108, 32, 88, 52, 32, 65, 49, 10, 101, 120, 101, 99, 32, 113, 47, 49, 10]⟩ := by rw [lv_list]; rfl
 generalize mkB (listS lvI) = T at *
 have q1 : (T.toList == [103, 101, 116, 95, 118, 97, 114, 32, 88, 51, 32, 65, 49, 10, 103, 101, 116, 95, 115, 116, 114, 32, 102, 47, 49, 32, 65, 50, 10, 117, 110, 105, 95, 118, 97, 114, 32, 88, 52, 10, 112, 117, 116, 95, 118, 97, 108, 32, 88, 52, 32, 65, 49, 10, 101, 120, 101, 99, 32, 113, 47, 49, 10]) = true := by rw [str_lit]; exact decide_eq_true hT
 clear hT
 have x9 := (HB.out.ext X4.out).cell
 go_wp2_with (first
  | (go_at_call 9; refine HL.out.mono ?_; rintro e W5 ⟨rfl, x⟩; have X5 := Lib.hid (X4.out.trans x); have y9 := (HB.out.ext X5.out).cell; clear x)
  | (go_at_call 26; refine (HBS _ X5.out).out.mono ?_; rintro e W6 ⟨rfl, x⟩; have X6 := Lib.hid (X5.out.trans x); clear x))
 go_ret
 exact ⟨rfl, HX.out.trans X6.out⟩
end Go.Proofs.YtmnnhdegoapfcaaGreatDoor

/- Law 17: the walk of EmitLists. -/
namespace Go.Proofs.YtmnnhdegoapfcaaGreatDoor
open Go.RowKit Go.El
set_option maxRecDepth 100000 in
set_option maxHeartbeats 4000000 in
theorem emitLists_any (L : List Ins) (A : Option Addr) (c : Nat) (w : World) (h : El.Src w A L.length 5 (flat insCells L)) (hlm : L.length ≤ 9223372036854775807) (g : EnvT w) :
  Calls Tryz.prog 3 #[.slice A L.length c] w fun e w' => e = .returned (.bool true) ∧ Ext w w' := by
 have H := Lib.hid h
 have HLV := fun W (x : Ext w W) => Lib.hid (lives17_any W (g.ext x))
 have HG := Lib.hid g
 clear h g
 by_cases hl : 200 < L.length
 ·have q1 : (200 : Int) < (L.length : Int) := by omega
  have HL0 := HLV w (Ext.refl w)
  go_enter Tryz.func3, Tryz.ntmps3
  go_wp2_with (go_at_call 8; refine HL0.out.mono ?_; rintro e W1 ⟨rfl, x⟩; have X1 := Lib.hid x; clear x)
  go_ret
  exact ⟨rfl, X1.out⟩
 ·have q1 : ¬ (200 : Int) < (L.length : Int) := by omega
  go_enter Tryz.func3, Tryz.ntmps3
  go_wp2_with fail
  go_loopw [3] (fun iv wr => ∃ j : Nat, j ≤ L.length ∧ iv = .int .i64 j ∧ wr = w) (fun iv _ => L.length - (intOf iv).toNat)
  case atStart => exact ⟨0, Nat.zero_le _, rfl, rfl⟩
  case round =>
   obtain ⟨j, hj, rfl, rfl⟩ := hrel
   by_cases hlt : j < L.length
   ·obtain ⟨b, off, hA, d0, d1, d2, d3, d4⟩ := src_ins H.out hlt
    generalize L[j] = i at *
    subst hA
    by_cases hs : 200 < i.s.size
    ·have q2 : (200 : Int) < (i.s.size : Int) := by omega
     have HL0 := HLV wr (Ext.refl wr)
     go_wp2_with (go_at_call 8; refine HL0.out.mono ?_; rintro e W1 ⟨rfl, x⟩; have X1 := Lib.hid x; clear x)
     go_ret
     exact ⟨rfl, X1.out⟩
    ·have q2 : ¬ (200 : Int) < (i.s.size : Int) := by omega
     go_wp2_with fail
     go_roundw
     case rel => exact ⟨j + 1, hlt, by go_num, trivial⟩
     case measure => simp [intOf]; omega
   ·obtain rfl : j = L.length := by omega
    have HL0 := HLV wr (Ext.refl wr)
    have HE := fun W (x : Ext wr W) => Lib.hid (eList_any L A c W (H.out.ext x) (by omega) (HG.out.ext x))
    have HR := fun W (x : Ext wr W) => Lib.hid (rList_any L A c W (H.out.ext x) (by omega))
    generalize mkB (listS L) = T at *
    go_wp2_with (first
     | (go_at_call 8; refine HL0.out.mono ?_; rintro e W1 ⟨rfl, x⟩; have X1 := Lib.hid x; clear x)
     | (go_at_call 9; refine (HE _ X1.out).out.mono ?_; rintro e W2 ⟨rfl, x⟩; have X2 := Lib.hid (X1.out.trans x); clear x)
     | (go_at_call 10; refine (HR _ X2.out).out.mono ?_; rintro e W3 ⟨rfl, x⟩; have X3 := Lib.hid (X2.out.trans x); clear x))
    go_ret
    exact ⟨rfl, X3.out⟩
end Go.Proofs.YtmnnhdegoapfcaaGreatDoor
