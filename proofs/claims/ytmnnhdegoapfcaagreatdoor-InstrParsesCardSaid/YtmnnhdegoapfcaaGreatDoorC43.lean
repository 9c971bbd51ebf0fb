/- Layer 16: the walk of Parse. -/
import Derived.Test.YtmnnhdegoapfcaaGreatDoorC35
import Derived.Test.YtmnnhdegoapfcaaGreatDoorC31
import Derived.Test.YtmnnhdegoapfcaaGreatDoorC15
import Derived.Test.YtmnnhdegoapfcaaGreatDoorC03
import Derived.Outline
namespace Go.Proofs.YtmnnhdegoapfcaaGreatDoor
open Go.RowKit Go.El

def insZ : Ins := ⟨0, bE, 0, 0, 0⟩
/-- What Parse answers. -/
def parsV (o : Option Ins) : Value := .tuple #[insVal (o.getD insZ), .int .i64 (if o.isSome then 0 else 160)]
theorem cut_calls (s : ByteArray) (hs : s.size ≤ 10000) (w : World) (he : Env w) :
    Calls Tryz.prog 56 #[.string s, .string ⟨#[32]⟩] w fun e w' => ∃ c, e = .returned (.tuple #[.string (mkB (headB s)), .string (restB s), .bool c]) ∧ Ext w w' := by
  obtain ⟨m, hm⟩ := he.glob.max
  refine (Tryz.strings_Cut s ⟨#[32]⟩ m w (by omega) hm).mono ?_
  rintro e w' ⟨rfl, n, rfl⟩
  exact ⟨_, rfl, (Ext.refl w).drewN n⟩
theorem head_len (s : ByteArray) : (restB s).size ≤ s.size := by
  have e : (restB s).size = (Lib.cut s.data.toList [32]).2.1.length := mkB_size _
  have hl : s.data.toList.length = s.size := by simp
  rw [e]
  unfold Lib.cut
  split
  · rw [List.length_drop]; omega
  · simp
theorem word_len (s : ByteArray) : (wordB s).1.size ≤ s.size ∧ (wordB s).2.size ≤ s.size := by
  unfold wordB
  split
  · exact ⟨by show (0 : Nat) ≤ _; omega, Nat.le_refl _⟩
  · refine ⟨?_, ?_⟩
    · simp
      omega
    · simp
theorem trim_len (s : ByteArray) (c : UInt8) : (trimB s c).length ≤ s.size := by
  unfold trimB Lib.trimPrefix
  have : s.data.toList.length = s.size := by simp
  split
  · simp
  · omega

set_option maxRecDepth 100000 in
set_option maxHeartbeats 4000000 in
theorem parseI_any (s : ByteArray) (hs : s.size ≤ 10000) (w : World) (he : Env w) :
    Calls Tryz.prog 22 #[.string s] w fun e w' => e = .returned (parsV (parseB s)) ∧ Ext w w' := by
  obtain ⟨G, hG⟩ : ∃ G, parseB s = G := ⟨_, rfl⟩
  rw [hG]
  unfold parseB at hG
  have hx0 := (Ext.refl w).alloc (.cells #[Value.int .i64 0, .string ⟨#[]⟩, .int .i64 0, .int .i64 0, .int .i64 0] 25)
  have HC := Lib.hid (cut_calls s hs _ (he.ext hx0))
  have HE := Lib.hid he
  have HX0 := Lib.hid hx0
  have HZ := Lib.hid (Blk.new w 25 #[.int .i64 0, .string ⟨#[]⟩, .int .i64 0, .int .i64 0, .int .i64 0])
  have hrl := head_len s
  generalize restB s = rest at *
  have HIX := fun (W : World) (x : Ext w W) (hb : Nat) (h : W.cell? ⟨hb, 0, none⟩ = some (.string (mkB (headB s)))) => Lib.hid (indexF_any (headB s) hb W (HE.out.ext x).ops h)
  obtain ⟨ho1, ho2⟩ := opIdx_lt (headB s)
  generalize opIdx (headB s) = o at *
  generalize mkB (headB s) = hd at *
  clear he hx0
  go_enter Tryz.func22, Tryz.ntmps22
  go_upto_region 2 with (go_at_call 56; refine HC.out.mono ?_; rintro e W1 ⟨c, rfl, x1⟩)
  have HX1 := Lib.hid (HX0.out.trans x1)
  have HZ1 := Lib.hid (HZ.out.ext x1)
  clear x1 HX0 HZ HC
  have hbc := (Blk.new W1 9 #[.string hd]).cell 0
  have HI := Lib.hid (HIX _ (HX1.out.alloc _) _ hbc).out
  have HX2 := Lib.hid (HX1.out.alloc (.cells #[.string hd] 9))
  have HZ2 := Lib.hid (HZ1.out.alloc (.cells #[.string hd] 9))
  clear HIX hbc HX1 HZ1
  go_upto_region 3 with (go_at_call 57; refine HI.out.mono ?_; rintro e W2 ⟨rfl, x2⟩)
  have HX := Lib.hid (HX2.out.trans x2)
  have HZ := Lib.hid (HZ2.out.ext x2)
  clear x2 HX2 HZ2 HI
  by_cases h1 : o < 1
  · rw [if_pos h1] at hG
    have HR := Lib.hid hG
    have z0 := HZ.out.cell 0
    have z1 := HZ.out.cell 1
    have z2 := HZ.out.cell 2
    have z3 := HZ.out.cell 3
    have z4 := HZ.out.cell 4
    have kzf := HZ.out.frozen
    clear hG
    go_wp2_with fail
    have kb := blk_set5 HZ.out (.int .i64 0) (.string ⟨#[]⟩) (.int .i64 0) (.int .i64 0) (.int .i64 0)
    have kc := kb.cell
    refine bodyPost_ret (v := parsV G) ?_ rfl ⟨rfl, ext_set5 HX.out (Nat.le_refl _) _ _ _ _ _⟩
    rw [← HR.out]
    simp [results, Tryz.results22, go_sem, parsV, insVal, insZ, bE, kc]
  · rw [if_neg h1] at hG
    have q1 : ¬ o < 1 := h1
    have q0 : 0 ≤ o := by omega
    go_upto_region 6 with fail
    have HI := Lib.hid (show InsBlk (W2.alloc (.cells #[.int .i64 o, .string ⟨#[]⟩, .int .i64 0, .int .i64 0, .int .i64 0] 25)) W2.heap.size ⟨o, bE, 0, 0, 0⟩ from Blk.new W2 _ _)
    have HX3 := Lib.hid (HX.out.alloc (.cells #[.int .i64 o, .string ⟨#[]⟩, .int .i64 0, .int .i64 0, .int .i64 0] 25))
    have HZ3 := Lib.hid (HZ.out.alloc (.cells #[.int .i64 o, .string ⟨#[]⟩, .int .i64 0, .int .i64 0, .int .i64 0] 25))
    have hrb : w.heap.size < W2.heap.size := HZ.out.lt
    have hwb : w.heap.size ≤ W2.heap.size := HX.out.size
    generalize W2.heap.size = ib at *
    refine wp_abs (fun V => Hid (InsBlk V ib ⟨o, bE, 0, 0, 0⟩) ∧ Hid (Ext w V) ∧ Hid (Blk V w.heap.size 25 #[.int .i64 0, .string ⟨#[]⟩, .int .i64 0, .int .i64 0, .int .i64 0])) ⟨HI, HX3, HZ3⟩ ?_
    clear HI HX3 HZ3 HX HZ
    rintro V ⟨HI, HX, HZ⟩
    have HH := Lib.hid (has_any o q0 ho2 6 6 (by decide) V (HE.out.ext HX.out).ops)
    cases k6 : hasF o 6
    · have hrd : readB o rest = firstB ⟨o, bE, 0, 0, 0⟩ rest := by unfold readB; rw [k6]; rfl
      rw [hrd] at hG
      rw [k6] at HH
      have HF := Lib.hid (first_any ib ⟨o, bE, 0, 0, 0⟩ rest V (HE.out.ext HX.out) HI.out q0 ho2 (by omega))
      generalize firstB ⟨o, bE, 0, 0, 0⟩ rest = j at *
      have HR := Lib.hid hG
      clear hG hrd k6 h1
      go_upto_region 10 with (go_at_call 59; refine HH.out.mono ?_; rintro e V1 ⟨rfl, rfl⟩)
      go_upto_region 11 with (go_at_call 63; refine HF.out.mono ?_; rintro e V5 ⟨rfl, hj, mj⟩)
      have HJ := Lib.hid hj
      have HZ5 := Lib.hid (HZ.out.mods mj (by simp; omega))
      have HX5 := Lib.hid (ext_mods HX.out mj (fun k hk => by rw [List.mem_singleton] at hk; omega))
      clear hj mj HF HX HZ HI
      have j0 := HJ.out.c0
      have j1 := HJ.out.c1
      have j2 := HJ.out.c2
      have j3 := HJ.out.c3
      have j4 := HJ.out.c4
      have HTX := Lib.hid (text_any j V5 (HE.out.ext HX5.out))
      unfold insVal at HTX
      by_cases ht : insT j = s.data.toList
      · have HRR : Hid (G = some j) := Lib.hid (by rw [← HR.out, if_pos ht])
        have ht2 := mkB_ext ht.symm
        rw [← ht2] at HTX
        clear HR ht ht2
        go_upto_region 13 with (go_at_call 28; refine HTX.out.mono ?_; rintro e V6 ⟨rfl, hx⟩; have HX6 := Lib.hid (HX5.out.trans hx); have HJ6 := Lib.hid (HJ.out.ext hx); have HZ6 := Lib.hid (HZ5.out.ext hx); clear hx)
        have z0 := HZ6.out.cell 0
        have z1 := HZ6.out.cell 1
        have z2 := HZ6.out.cell 2
        have z3 := HZ6.out.cell 3
        have z4 := HZ6.out.cell 4
        have kzf := HZ6.out.frozen
        have l0 := HJ6.out.c0
        have l1 := HJ6.out.c1
        have l2 := HJ6.out.c2
        have l3 := HJ6.out.c3
        have l4 := HJ6.out.c4
        go_wp2_with fail
        have kb := blk_set5 HZ6.out (.int .i64 j.op) (.string j.s) (.int .i64 j.n) (.int .i64 j.v) (.int .i64 j.a)
        have kc := kb.cell
        refine bodyPost_ret (v := parsV G) ?_ rfl ⟨rfl, ext_set5 HX6.out (Nat.le_refl _) _ _ _ _ _⟩
        rw [HRR.out]
        simp [results, Tryz.results22, go_sem, parsV, insVal, kc]
      · have HRR : Hid (G = none) := Lib.hid (by rw [← HR.out, if_neg ht])
        have ht2 : ((mkB (insT j)).toList == s.toList) = false := by
          rw [ByteArray.toList_eq, ByteArray.toList_eq, mkB_list]
          simpa using ht
        have ht3 : ((mkB (insT j)).toList != s.toList) = true := by unfold bne; rw [ht2]; rfl
        generalize mkB (insT j) = tj at *
        clear HR ht
        go_upto_region 12 with (go_at_call 28; refine HTX.out.mono ?_; rintro e V6 ⟨rfl, hx⟩; have HX6 := Lib.hid (HX5.out.trans hx); have HZ6 := Lib.hid (HZ5.out.ext hx); clear hx)
        have z0 := HZ6.out.cell 0
        have z1 := HZ6.out.cell 1
        have z2 := HZ6.out.cell 2
        have z3 := HZ6.out.cell 3
        have z4 := HZ6.out.cell 4
        have kzf := HZ6.out.frozen
        go_wp2_with fail
        have kb := blk_set5 HZ6.out (.int .i64 0) (.string ⟨#[]⟩) (.int .i64 0) (.int .i64 0) (.int .i64 0)
        have kc := kb.cell
        refine bodyPost_ret (v := parsV G) ?_ rfl ⟨rfl, ext_set5 HX6.out (Nat.le_refl _) _ _ _ _ _⟩
        rw [HRR.out]
        simp [results, Tryz.results22, go_sem, parsV, insVal, insZ, bE, kc]
    · have hrd : readB o rest = firstB ⟨o, bE, 0, 0, atoiF (trimB (wordB rest).2 65)⟩ (wordB rest).1 := by unfold readB; rw [k6]; rfl
      rw [hrd] at hG
      rw [k6] at HH
      have HW := Lib.hid (word_any rest (by omega) V)
      have hwl := word_len rest
      have htl := trim_len (wordB rest).2 65
      generalize wordB rest = wr at *
      obtain ⟨ra, rb⟩ := wr
      dsimp only at hwl htl HW hG hrd
      have HTr := fun (W : World) => Lib.hid (Tryz.strings_TrimPrefix rb ⟨#[65]⟩ W)
      have htr : Lib.trimPrefix rb.data.toList (⟨#[65]⟩ : ByteArray).data.toList = trimB rb 65 := rfl
      rw [htr] at HTr
      have HA := fun (W : World) (x : Ext V W) => Lib.hid (atoiF_any ⟨(trimB rb 65).toArray⟩ (Nat.le_trans (Nat.le_of_eq (mkB_size _)) (by omega)) W (HE.out.ext (HX.out.trans x)))
      have hml : (⟨(trimB rb 65).toArray⟩ : ByteArray).data.toList = trimB rb 65 := mkB_list _
      rw [hml] at HA
      generalize atoiF (trimB rb 65) = av at *
      generalize (⟨(trimB rb 65).toArray⟩ : ByteArray) = ts at *
      clear htr hml htl hrd k6 h1
      go_upto_region 10 with (first | (go_at_call 59; refine HH.out.mono ?_; rintro e V1 ⟨rfl, rfl⟩) | (go_at_call 60; refine HW.out.mono ?_; rintro e V2 ⟨rfl, hx⟩; have HV2 := Lib.hid hx; clear hx) | (go_at_call 62; refine (HTr _).out.mono ?_; rintro e V3 ⟨rfl, rfl⟩) | (go_at_call 61; refine (HA _ HV2.out).out.mono ?_; rintro e V4 ⟨rfl, hx⟩; have HV := Lib.hid (HV2.out.trans hx); have hb := HI.out.ext HV.out; have d4 := hb.c4; have g4 := hb.fz 4; have HB := Lib.hid (hb.setA av); have HY := Lib.hid ((HX.out.trans HV.out).setCell (p := ⟨ib, 4, none⟩) hwb (.int .i64 av)); have HZ4 := Lib.hid ((HZ.out.ext HV.out).far (p := ⟨ib, 4, none⟩) (by show w.heap.size ≠ ib; omega) (.int .i64 av)); clear hb hx))
      refine wp_abs (fun V => Hid (InsBlk V ib ⟨o, bE, 0, 0, av⟩) ∧ Hid (Ext w V) ∧ Hid (Blk V w.heap.size 25 #[.int .i64 0, .string ⟨#[]⟩, .int .i64 0, .int .i64 0, .int .i64 0])) ⟨HB, HY, HZ4⟩ ?_
      clear HI HX HZ HB HY HZ4 d4 g4 HV HV2 HH HW HTr HA
      rintro V ⟨HI, HX, HZ⟩
      have HF := Lib.hid (first_any ib ⟨o, bE, 0, 0, av⟩ ra V (HE.out.ext HX.out) HI.out q0 ho2 (by omega))
      generalize firstB ⟨o, bE, 0, 0, av⟩ ra = j at *
      have HR := Lib.hid hG
      clear hG
      go_upto_region 11 with (go_at_call 63; refine HF.out.mono ?_; rintro e V5 ⟨rfl, hj, mj⟩)
      have HJ := Lib.hid hj
      have HZ5 := Lib.hid (HZ.out.mods mj (by simp; omega))
      have HX5 := Lib.hid (ext_mods HX.out mj (fun k hk => by rw [List.mem_singleton] at hk; omega))
      clear hj mj HF HX HZ HI
      have j0 := HJ.out.c0
      have j1 := HJ.out.c1
      have j2 := HJ.out.c2
      have j3 := HJ.out.c3
      have j4 := HJ.out.c4
      have HTX := Lib.hid (text_any j V5 (HE.out.ext HX5.out))
      unfold insVal at HTX
      by_cases ht : insT j = s.data.toList
      · have HRR : Hid (G = some j) := Lib.hid (by rw [← HR.out, if_pos ht])
        have ht2 := mkB_ext ht.symm
        rw [← ht2] at HTX
        clear HR ht ht2
        go_upto_region 13 with (go_at_call 28; refine HTX.out.mono ?_; rintro e V6 ⟨rfl, hx⟩; have HX6 := Lib.hid (HX5.out.trans hx); have HJ6 := Lib.hid (HJ.out.ext hx); have HZ6 := Lib.hid (HZ5.out.ext hx); clear hx)
        have z0 := HZ6.out.cell 0
        have z1 := HZ6.out.cell 1
        have z2 := HZ6.out.cell 2
        have z3 := HZ6.out.cell 3
        have z4 := HZ6.out.cell 4
        have kzf := HZ6.out.frozen
        have l0 := HJ6.out.c0
        have l1 := HJ6.out.c1
        have l2 := HJ6.out.c2
        have l3 := HJ6.out.c3
        have l4 := HJ6.out.c4
        go_wp2_with fail
        have kb := blk_set5 HZ6.out (.int .i64 j.op) (.string j.s) (.int .i64 j.n) (.int .i64 j.v) (.int .i64 j.a)
        have kc := kb.cell
        refine bodyPost_ret (v := parsV G) ?_ rfl ⟨rfl, ext_set5 HX6.out (Nat.le_refl _) _ _ _ _ _⟩
        rw [HRR.out]
        simp [results, Tryz.results22, go_sem, parsV, insVal, kc]
      · have HRR : Hid (G = none) := Lib.hid (by rw [← HR.out, if_neg ht])
        have ht2 : ((mkB (insT j)).toList == s.toList) = false := by
          rw [ByteArray.toList_eq, ByteArray.toList_eq, mkB_list]
          simpa using ht
        have ht3 : ((mkB (insT j)).toList != s.toList) = true := by unfold bne; rw [ht2]; rfl
        generalize mkB (insT j) = tj at *
        clear HR ht
        go_upto_region 12 with (go_at_call 28; refine HTX.out.mono ?_; rintro e V6 ⟨rfl, hx⟩; have HX6 := Lib.hid (HX5.out.trans hx); have HZ6 := Lib.hid (HZ5.out.ext hx); clear hx)
        have z0 := HZ6.out.cell 0
        have z1 := HZ6.out.cell 1
        have z2 := HZ6.out.cell 2
        have z3 := HZ6.out.cell 3
        have z4 := HZ6.out.cell 4
        have kzf := HZ6.out.frozen
        go_wp2_with fail
        have kb := blk_set5 HZ6.out (.int .i64 0) (.string ⟨#[]⟩) (.int .i64 0) (.int .i64 0) (.int .i64 0)
        have kc := kb.cell
        refine bodyPost_ret (v := parsV G) ?_ rfl ⟨rfl, ext_set5 HX6.out (Nat.le_refl _) _ _ _ _ _⟩
        rw [HRR.out]
        simp [results, Tryz.results22, go_sem, parsV, insVal, insZ, bE, kc]

end Go.Proofs.YtmnnhdegoapfcaaGreatDoor

/- Layer 16: the walk of Check. -/
namespace Go.Proofs.YtmnnhdegoapfcaaGreatDoor
open Go.RowKit Go.El

/-- What Check answers. -/
def ChkPost (l : List Ins) (arity : Int) (w : World) (e : Ending) (w' : World) : Prop := e = .returned (.tuple #[.int .i64 (chkIns l arity).1, .int .i64 (chkIns l arity).2]) ∧ Ext w w'
theorem chk_post {l : List Ins} {arity : Int} {w : World} {a b : Int} {w' : World} (h : chkIns l arity = (a, b)) (x : Ext w w') : ChkPost l arity w (.returned (.tuple #[.int .i64 a, .int .i64 b])) w' := by
  unfold ChkPost
  rw [h]
  exact ⟨rfl, x⟩

set_option maxRecDepth 100000 in
theorem check_arity (l : List Ins) (arity : Int) (c : Nat) (A : Option Addr) (w : World) (ha : arity < 0 ∨ 16 < arity) :
    Calls Tryz.prog 20 #[.slice A l.length c, .int .i64 arity] w (ChkPost l arity w) := by
  have HR := Lib.hid (chk_post (l := l) (arity := arity) (if_pos ha) (Ext.refl w))
  by_cases h0 : arity < 0
  · clear ha
    go_enter Tryz.func20, Tryz.ntmps20
    go_wp2_with fail
    go_ret2
    exact HR.out
  · have h1 : 16 < arity := by omega
    clear ha
    go_enter Tryz.func20, Tryz.ntmps20
    go_wp2_with fail
    go_ret2
    exact HR.out

set_option maxRecDepth 100000 in
theorem check_long (l : List Ins) (arity : Int) (c : Nat) (A : Option Addr) (w : World) (ha : ¬ (arity < 0 ∨ 16 < arity)) (hl : 4096 < l.length) :
    Calls Tryz.prog 20 #[.slice A l.length c, .int .i64 arity] w (ChkPost l arity w) := by
  have HR := Lib.hid (chk_post (l := l) (arity := arity) (a := 0) (b := 3) ((if_neg ha).trans (if_pos hl)) (Ext.refl w))
  have h0 : ¬ arity < 0 := by omega
  have h1 : ¬ 16 < arity := by omega
  have h2 : (4096 : Int) < l.length := by omega
  clear ha hl
  go_enter Tryz.func20, Tryz.ntmps20
  go_wp2_with fail
  go_ret2
  exact HR.out

set_option maxRecDepth 100000 in
set_option maxHeartbeats 4000000 in
theorem check_fit (l : List Ins) (arity : Nat) (c : Nat) (A : Option Addr) (w : World) (hT : OpTabAt w) (hS : El.Src w A l.length 5 (flat insCells l)) (ha : arity ≤ 16) (hl : l.length ≤ 4096) :
    Calls Tryz.prog 20 #[.slice A l.length c, .int .i64 arity] w (ChkPost l arity w) := by
  have e1 : (arity : Int) ≤ 16 := by omega
  have e2 : ¬ (16 : Int) < arity := by omega
  have e3 : ¬ (4096 : Int) < (l.length : Int) := by omega
  have HS := Lib.hid hS
  have HT := Lib.hid hT
  have HI : Hid (StAt (w.alloc (Obj.cells (Tryz.zeroCells102.setIfInBounds 321 (Value.int IntKind.i64 (-1))) 102)) w.heap.size 102 (InSt.start 0)) := by
    rw [start_cells]
    exact ⟨Blk.new w _ _, start_lx 0, start_ly 0⟩
  have HX : Hid (Ext w (w.alloc (Obj.cells (Tryz.zeroCells102.setIfInBounds 321 (Value.int IntKind.i64 (-1))) 102))) := Lib.hid ((Ext.refl w).alloc _)
  obtain ⟨B, hB⟩ : ∃ B, B = w.heap.size := ⟨_, rfl⟩
  rw [← hB] at HI
  clear hS hT
  go_enter Tryz.func20, Tryz.ntmps20
  go_upto_region 6 with fail
  rw [← hB]
  refine wp_abs (fun V => Hid (StAt V B 102 (InSt.start 0)) ∧ Hid (Ext w V)) ⟨HI, HX⟩ ?_
  have HB := Lib.hid hB
  clear HI HX hB
  rintro V ⟨HI, HX⟩
  go_wp2_with fail
  go_loopw [24] (fun i wr => ∃ k : Nat, k ≤ arity ∧ i = .int .i64 k ∧ Hid (StAt wr B 102 (InSt.start k)) ∧ Hid (Ext w wr)) (fun i _ => arity - (intOf i).toNat)
  case atStart => exact ⟨0, Nat.zero_le _, rfl, HI, HX⟩
  case round =>
    clear HI HX
    obtain ⟨k, hk, rfl, HI, HX⟩ := hrel
    by_cases hlt : k < arity
    · have d1 : (k : Int) < arity := by omega
      have d2 : (k : Int) + 1 < 256 := by omega
      have c1 := HI.out.x (j := k + 1) (by omega)
      have f1 := HI.out.frozen (k + 1)
      have HN := HI.out.setX (j := k + 1) (by omega) true
      rw [start_set k (by omega)] at HN
      have HN2 := Lib.hid HN
      have HY := Lib.hid (HX.out.setCell (p := ⟨B, k + 1, none⟩) (by show w.heap.size ≤ B; rw [HB.out]; exact Nat.le_refl _) (.bool true))
      clear HN
      go_wp2_with fail
      go_roundw
      case rel => exact ⟨k + 1, by omega, by go_num, HN2, HY⟩
      case measure => simp [intOf]; omega
    · obtain rfl : k = arity := by omega
      clear hk hlt
      go_wp2_with fail
      go_loopw [36] (fun i wr => ∃ (j : Nat) (st : InSt), j ≤ l.length ∧ i = .int .i64 j ∧ Hid ((InSt.start k).run (l.take j) = some st) ∧ Hid (StOk st) ∧ Hid (StAt wr B 102 st) ∧ Hid (Ext w wr)) (fun i _ => l.length - (intOf i).toNat)
      case atStart => exact ⟨0, _, Nat.zero_le _, rfl, Lib.hid rfl, Lib.hid (start_ok k), HI, HX⟩
      case round =>
        clear HI HX
        obtain ⟨j, st, hj, rfl, HRUN, HOK, HI, HX⟩ := hrel
        by_cases hlt : j < l.length
        · have d1 : (j : Int) < l.length := by omega
          obtain ⟨bl, off, rfl, c0, c1, c2, c3, c4⟩ := src_ins (HS.out.ext HX.out) hlt
          obtain ⟨x, hx⟩ : ∃ x, x = l[j] := ⟨_, rfl⟩
          rw [← hx] at c0 c1 c2 c3 c4
          obtain ⟨op, sn, n, v, a⟩ := x
          have HXJ := Lib.hid hx
          dsimp only at c0 c1 c2 c3 c4
          have d2 : (0 : Int) ≤ j := by omega
          clear hx hj
          go_upto_region 14 with fail
          refine wp_abs (fun V => Hid (StAt V B 102 st) ∧ Hid (Blk V wr.heap.size 25 #[.int .i64 op, .string sn, .int .i64 n, .int .i64 v, .int .i64 a]) ∧ Hid (Ext w V)) ⟨Lib.hid (HI.out.ext ((Ext.refl _).alloc _)), Lib.hid (Blk.new wr _ _), Lib.hid (HX.out.alloc _)⟩ ?_
          clear HI HX c0 c1 c2 c3 c4
          rintro V ⟨HI, HB2, HX⟩
          have q0 : V.cell? ⟨wr.heap.size, 0, none⟩ = some (.int .i64 op) := HB2.out.cell 0
          have q1 : V.cell? ⟨wr.heap.size, 1, none⟩ = some (.string sn) := HB2.out.cell 1
          have q2 : V.cell? ⟨wr.heap.size, 2, none⟩ = some (.int .i64 n) := HB2.out.cell 2
          have q3 : V.cell? ⟨wr.heap.size, 3, none⟩ = some (.int .i64 v) := HB2.out.cell 3
          have q4 : V.cell? ⟨wr.heap.size, 4, none⟩ = some (.int .i64 a) := HB2.out.cell 4
          have HM := Lib.hid (may_ins ⟨op, sn, n, v, a⟩ V (HT.out.ext HX.out))
          cases hm : insMay ⟨op, sn, n, v, a⟩
          · have HBAD : Hid ((insMay l[j] && (st.step l[j]).1) = false) := Lib.hid (by rw [← HXJ.out, hm]; rfl)
            rw [hm] at HM
            unfold insVal at HM
            clear hm
            go_wp2_with (go_at_call 53; refine HM.out.mono ?_; rintro e W1 ⟨rfl, x1⟩)
            go_ret2
            exact chk_post (chk_at ha hl hlt HRUN.out HBAD.out) (HX.out.trans x1)
          · have hio := (may_ok hm).1
            have HOK2 := Lib.hid (step_ok HOK.out hm)
            have HMJ : Hid (insMay l[j] = true) := Lib.hid (by rw [← HXJ.out]; exact hm)
            obtain ⟨⟨rb, rs⟩, hr⟩ : ∃ r, st.step ⟨op, sn, n, v, a⟩ = r := ⟨_, rfl⟩
            have HST : ∀ W, StAt W B 102 st → Hid (Calls Tryz.prog 54 #[.pointer (some ⟨B, 0, none⟩), insVal ⟨op, sn, n, v, a⟩] W (StPost B (rb, rs) W)) := fun W h => by
              have := step_any B ⟨op, sn, n, v, a⟩ st W h HOK.out hio
              rw [hr] at this
              exact Lib.hid this
            rw [hm] at HM
            rw [hr] at HOK2
            have HSJ : Hid (st.step l[j] = (rb, rs)) := Lib.hid (by rw [← HXJ.out]; exact hr)
            unfold insVal at HM HST
            clear hm hr hio
            cases rb
            · have HBAD : Hid ((insMay l[j] && (st.step l[j]).1) = false) := Lib.hid (by rw [HSJ.out, Bool.and_false])
              go_wp2_with (first | (go_at_call 53; refine HM.out.mono ?_; rintro e W1 ⟨rfl, x1⟩; have z0 := x1.cell q0; have z1 := x1.cell q1; have z2 := x1.cell q2; have z3 := x1.cell q3; have z4 := x1.cell q4; replace HI := Lib.hid (HI.out.ext x1); replace HX := Lib.hid (HX.out.trans x1); clear x1) | (go_at_call 54; refine (HST _ HI.out).out.mono ?_; rintro e W2 ⟨rfl, h2, m2⟩))
              go_ret2
              exact chk_post (chk_at ha hl hlt HRUN.out HBAD.out) (((Mods.ext HX.out).trans m2).toExt (by simp; rw [HB.out]; exact Nat.le_refl _))
            · have HR2 := Lib.hid (run_snoc hlt HRUN.out HMJ.out (by rw [HSJ.out]))
              rw [HSJ.out] at HR2
              go_wp2_with (first | (go_at_call 53; refine HM.out.mono ?_; rintro e W1 ⟨rfl, x1⟩; have z0 := x1.cell q0; have z1 := x1.cell q1; have z2 := x1.cell q2; have z3 := x1.cell q3; have z4 := x1.cell q4; replace HI := Lib.hid (HI.out.ext x1); replace HX := Lib.hid (HX.out.trans x1); clear x1) | (go_at_call 54; refine (HST _ HI.out).out.mono ?_; rintro e W2 ⟨rfl, h2, m2⟩))
              go_roundw
              case rel => exact ⟨j + 1, rs, by omega, by go_num, HR2, HOK2, Lib.hid h2, Lib.hid (((Mods.ext HX.out).trans m2).toExt (by simp; rw [HB.out]; exact Nat.le_refl _))⟩
              case measure => simp [intOf]; omega
        · obtain rfl : j = l.length := by omega
          have HE := Lib.hid (chk_end ha hl (by rw [List.take_length] at HRUN; exact HRUN.out))
          have c6 := HI.out.ended
          obtain ⟨en, hen⟩ : ∃ en, st.ended = en := ⟨_, rfl⟩
          rw [hen] at c6 HE
          clear hen hlt hj
          cases en
          all_goals
            go_wp2_with fail
            go_ret2
            exact chk_post HE.out HX.out

/-- Check, of any code. -/
theorem check_any (l : List Ins) (arity : Int) (c : Nat) (A : Option Addr) (w : World) (hT : OpTabAt w) (hS : El.Src w A l.length 5 (flat insCells l)) :
    Calls Tryz.prog 20 #[.slice A l.length c, .int .i64 arity] w (ChkPost l arity w) := by
  by_cases ha : arity < 0 ∨ 16 < arity
  · exact check_arity l arity c A w ha
  · by_cases hl : 4096 < l.length
    · exact check_long l arity c A w ha hl
    · obtain ⟨k, rfl⟩ : ∃ k : Nat, arity = k := ⟨arity.toNat, by omega⟩
      exact check_fit l k c A w hT hS (by omega) (by omega)

end Go.Proofs.YtmnnhdegoapfcaaGreatDoor
