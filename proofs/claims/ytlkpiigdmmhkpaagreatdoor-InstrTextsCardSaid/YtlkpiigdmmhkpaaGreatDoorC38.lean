/- Layer 16: the walk of Parse. -/
import Derived.Test.YtlkpiigdmmhkpaaGreatDoorC33
import Derived.Test.YtlkpiigdmmhkpaaGreatDoorC37
namespace Go.Proofs.YtlkpiigdmmhkpaaGreatDoor
open Go.RowKit Go.El

def insZ : Ins := ⟨0, bE, 0, 0, 0⟩
/-- What Parse answers. -/
def parsV (o : Option Ins) : Value := .tuple #[insVal (o.getD insZ), .int .i64 (if o.isSome then 0 else 160)]
theorem cut_calls (s : ByteArray) (hs : s.size ≤ 10000) (w : World) (he : Env w) :
    Calls Tryz.prog 30 #[.string s, .string ⟨#[32]⟩] w fun e w' => ∃ c, e = .returned (.tuple #[.string (mkB (headB s)), .string (restB s), .bool c]) ∧ Ext w w' := by
  obtain ⟨m, hm⟩ := he.glob.max
  refine (Tryz.strings_Cut s ⟨#[32]⟩ m w (by omega) hm).mono ?_
  rintro e w' ⟨rfl, n, rfl⟩
  exact ⟨_, rfl, (Ext.refl w).drewN n⟩
theorem head_len (s : ByteArray) : (restB s).size ≤ s.size := by
  have e : (restB s).size = (Lib.cut s.data.toList [32]).2.1.length := mkB_size _
  have hl : s.data.toList.length = s.size := by simp
  rw [e]
  unfold Lib.cut
  split
  · rw [List.length_drop]; omega
  · simp
theorem word_len (s : ByteArray) : (wordB s).1.size ≤ s.size ∧ (wordB s).2.size ≤ s.size := by
  unfold wordB
  split
  · exact ⟨by show (0 : Nat) ≤ _; omega, Nat.le_refl _⟩
  · refine ⟨?_, ?_⟩
    · simp
      omega
    · simp
theorem trim_len (s : ByteArray) (c : UInt8) : (trimB s c).length ≤ s.size := by
  unfold trimB Lib.trimPrefix
  have : s.data.toList.length = s.size := by simp
  split
  · simp
  · omega

set_option maxRecDepth 100000 in
set_option maxHeartbeats 4000000 in
theorem parseI_any (s : ByteArray) (hs : s.size ≤ 10000) (w : World) (he : Env w) :
    Calls Tryz.prog 13 #[.string s] w fun e w' => e = .returned (parsV (parseB s)) ∧ Ext w w' := by
  obtain ⟨G, hG⟩ : ∃ G, parseB s = G := ⟨_, rfl⟩
  rw [hG]
  unfold parseB at hG
  have hx0 := (Ext.refl w).alloc (.cells #[Value.int .i64 0, .string ⟨#[]⟩, .int .i64 0, .int .i64 0, .int .i64 0] 23)
  have HC := Lib.hid (cut_calls s hs _ (he.ext hx0))
  have HE := Lib.hid he
  have HX0 := Lib.hid hx0
  have HZ := Lib.hid (Blk.new w 23 #[.int .i64 0, .string ⟨#[]⟩, .int .i64 0, .int .i64 0, .int .i64 0])
  have hrl := head_len s
  generalize restB s = rest at *
  have HIX := fun (W : World) (x : Ext w W) (hb : Nat) (h : W.cell? ⟨hb, 0, none⟩ = some (.string (mkB (headB s)))) => Lib.hid (indexF_any (headB s) hb W (HE.out.ext x).ops h)
  obtain ⟨ho1, ho2⟩ := opIdx_lt (headB s)
  generalize opIdx (headB s) = o at *
  generalize mkB (headB s) = hd at *
  clear he hx0
  go_enter Tryz.func13, Tryz.ntmps13
  go_upto_region 2 with (go_at_call 30; refine HC.out.mono ?_; rintro e W1 ⟨c, rfl, x1⟩)
  have HX1 := Lib.hid (HX0.out.trans x1)
  have HZ1 := Lib.hid (HZ.out.ext x1)
  clear x1 HX0 HZ HC
  have hbc := (Blk.new W1 9 #[.string hd]).cell 0
  have HI := Lib.hid (HIX _ (HX1.out.alloc _) _ hbc).out
  have HX2 := Lib.hid (HX1.out.alloc (.cells #[.string hd] 9))
  have HZ2 := Lib.hid (HZ1.out.alloc (.cells #[.string hd] 9))
  clear HIX hbc HX1 HZ1
  go_upto_region 3 with (go_at_call 31; refine HI.out.mono ?_; rintro e W2 ⟨rfl, x2⟩)
  have HX := Lib.hid (HX2.out.trans x2)
  have HZ := Lib.hid (HZ2.out.ext x2)
  clear x2 HX2 HZ2 HI
  by_cases h1 : o < 1
  · rw [if_pos h1] at hG
    have HR := Lib.hid hG
    have z0 := HZ.out.cell 0
    have z1 := HZ.out.cell 1
    have z2 := HZ.out.cell 2
    have z3 := HZ.out.cell 3
    have z4 := HZ.out.cell 4
    have kzf := HZ.out.frozen
    clear hG
    go_wp2_with fail
    have kb := blk_set5 HZ.out (.int .i64 0) (.string ⟨#[]⟩) (.int .i64 0) (.int .i64 0) (.int .i64 0)
    have kc := kb.cell
    refine bodyPost_ret (v := parsV G) ?_ rfl ⟨rfl, ext_set5 HX.out (Nat.le_refl _) _ _ _ _ _⟩
    rw [← HR.out]
    simp [results, Tryz.results13, go_sem, parsV, insVal, insZ, bE, kc]
  · rw [if_neg h1] at hG
    have q1 : ¬ o < 1 := h1
    have q0 : 0 ≤ o := by omega
    go_upto_region 6 with fail
    have HI := Lib.hid (show InsBlk (W2.alloc (.cells #[.int .i64 o, .string ⟨#[]⟩, .int .i64 0, .int .i64 0, .int .i64 0] 23)) W2.heap.size ⟨o, bE, 0, 0, 0⟩ from Blk.new W2 _ _)
    have HX3 := Lib.hid (HX.out.alloc (.cells #[.int .i64 o, .string ⟨#[]⟩, .int .i64 0, .int .i64 0, .int .i64 0] 23))
    have HZ3 := Lib.hid (HZ.out.alloc (.cells #[.int .i64 o, .string ⟨#[]⟩, .int .i64 0, .int .i64 0, .int .i64 0] 23))
    have hrb : w.heap.size < W2.heap.size := HZ.out.lt
    have hwb : w.heap.size ≤ W2.heap.size := HX.out.size
    generalize W2.heap.size = ib at *
    refine wp_abs (fun V => Hid (InsBlk V ib ⟨o, bE, 0, 0, 0⟩) ∧ Hid (Ext w V) ∧ Hid (Blk V w.heap.size 23 #[.int .i64 0, .string ⟨#[]⟩, .int .i64 0, .int .i64 0, .int .i64 0])) ⟨HI, HX3, HZ3⟩ ?_
    clear HI HX3 HZ3 HX HZ
    rintro V ⟨HI, HX, HZ⟩
    have HH := Lib.hid (has_any o q0 ho2 6 6 (by decide) V (HE.out.ext HX.out).ops)
    cases k6 : hasF o 6
    · have hrd : readB o rest = firstB ⟨o, bE, 0, 0, 0⟩ rest := by unfold readB; rw [k6]; rfl
      rw [hrd] at hG
      rw [k6] at HH
      have HF := Lib.hid (first_any ib ⟨o, bE, 0, 0, 0⟩ rest V (HE.out.ext HX.out) HI.out q0 ho2 (by omega))
      generalize firstB ⟨o, bE, 0, 0, 0⟩ rest = j at *
      have HR := Lib.hid hG
      clear hG hrd k6 h1
      go_upto_region 10 with (go_at_call 17; refine HH.out.mono ?_; rintro e V1 ⟨rfl, rfl⟩)
      go_upto_region 11 with (go_at_call 36; refine HF.out.mono ?_; rintro e V5 ⟨rfl, hj, mj⟩)
      have HJ := Lib.hid hj
      have HZ5 := Lib.hid (HZ.out.mods mj (by simp; omega))
      have HX5 := Lib.hid (ext_mods HX.out mj (fun k hk => by rw [List.mem_singleton] at hk; omega))
      clear hj mj HF HX HZ HI
      have j0 := HJ.out.c0
      have j1 := HJ.out.c1
      have j2 := HJ.out.c2
      have j3 := HJ.out.c3
      have j4 := HJ.out.c4
      have HTX := Lib.hid (text_any j V5 (HE.out.ext HX5.out))
      unfold insVal at HTX
      by_cases ht : insT j = s.data.toList
      · have HRR : Hid (G = some j) := Lib.hid (by rw [← HR.out, if_pos ht])
        have ht2 := mkB_ext ht.symm
        rw [← ht2] at HTX
        clear HR ht ht2
        go_upto_region 13 with (go_at_call 7; refine HTX.out.mono ?_; rintro e V6 ⟨rfl, hx⟩; have HX6 := Lib.hid (HX5.out.trans hx); have HJ6 := Lib.hid (HJ.out.ext hx); have HZ6 := Lib.hid (HZ5.out.ext hx); clear hx)
        have z0 := HZ6.out.cell 0
        have z1 := HZ6.out.cell 1
        have z2 := HZ6.out.cell 2
        have z3 := HZ6.out.cell 3
        have z4 := HZ6.out.cell 4
        have kzf := HZ6.out.frozen
        have l0 := HJ6.out.c0
        have l1 := HJ6.out.c1
        have l2 := HJ6.out.c2
        have l3 := HJ6.out.c3
        have l4 := HJ6.out.c4
        go_wp2_with fail
        have kb := blk_set5 HZ6.out (.int .i64 j.op) (.string j.s) (.int .i64 j.n) (.int .i64 j.v) (.int .i64 j.a)
        have kc := kb.cell
        refine bodyPost_ret (v := parsV G) ?_ rfl ⟨rfl, ext_set5 HX6.out (Nat.le_refl _) _ _ _ _ _⟩
        rw [HRR.out]
        simp [results, Tryz.results13, go_sem, parsV, insVal, kc]
      · have HRR : Hid (G = none) := Lib.hid (by rw [← HR.out, if_neg ht])
        have ht2 : ((mkB (insT j)).toList == s.toList) = false := by
          rw [ByteArray.toList_eq, ByteArray.toList_eq, mkB_list]
          simpa using ht
        have ht3 : ((mkB (insT j)).toList != s.toList) = true := by unfold bne; rw [ht2]; rfl
        generalize mkB (insT j) = tj at *
        clear HR ht
        go_upto_region 12 with (go_at_call 7; refine HTX.out.mono ?_; rintro e V6 ⟨rfl, hx⟩; have HX6 := Lib.hid (HX5.out.trans hx); have HZ6 := Lib.hid (HZ5.out.ext hx); clear hx)
        have z0 := HZ6.out.cell 0
        have z1 := HZ6.out.cell 1
        have z2 := HZ6.out.cell 2
        have z3 := HZ6.out.cell 3
        have z4 := HZ6.out.cell 4
        have kzf := HZ6.out.frozen
        go_wp2_with fail
        have kb := blk_set5 HZ6.out (.int .i64 0) (.string ⟨#[]⟩) (.int .i64 0) (.int .i64 0) (.int .i64 0)
        have kc := kb.cell
        refine bodyPost_ret (v := parsV G) ?_ rfl ⟨rfl, ext_set5 HX6.out (Nat.le_refl _) _ _ _ _ _⟩
        rw [HRR.out]
        simp [results, Tryz.results13, go_sem, parsV, insVal, insZ, bE, kc]
    · have hrd : readB o rest = firstB ⟨o, bE, 0, 0, atoiF (trimB (wordB rest).2 65)⟩ (wordB rest).1 := by unfold readB; rw [k6]; rfl
      rw [hrd] at hG
      rw [k6] at HH
      have HW := Lib.hid (word_any rest (by omega) V)
      have hwl := word_len rest
      have htl := trim_len (wordB rest).2 65
      generalize wordB rest = wr at *
      obtain ⟨ra, rb⟩ := wr
      dsimp only at hwl htl HW hG hrd
      have HTr := fun (W : World) => Lib.hid (Tryz.strings_TrimPrefix rb ⟨#[65]⟩ W)
      have htr : Lib.trimPrefix rb.data.toList (⟨#[65]⟩ : ByteArray).data.toList = trimB rb 65 := rfl
      rw [htr] at HTr
      have HA := fun (W : World) (x : Ext V W) => Lib.hid (atoiF_any ⟨(trimB rb 65).toArray⟩ (Nat.le_trans (Nat.le_of_eq (mkB_size _)) (by omega)) W (HE.out.ext (HX.out.trans x)))
      have hml : (⟨(trimB rb 65).toArray⟩ : ByteArray).data.toList = trimB rb 65 := mkB_list _
      rw [hml] at HA
      generalize atoiF (trimB rb 65) = av at *
      generalize (⟨(trimB rb 65).toArray⟩ : ByteArray) = ts at *
      clear htr hml htl hrd k6 h1
      go_upto_region 10 with (first | (go_at_call 17; refine HH.out.mono ?_; rintro e V1 ⟨rfl, rfl⟩) | (go_at_call 33; refine HW.out.mono ?_; rintro e V2 ⟨rfl, hx⟩; have HV2 := Lib.hid hx; clear hx) | (go_at_call 35; refine (HTr _).out.mono ?_; rintro e V3 ⟨rfl, rfl⟩) | (go_at_call 34; refine (HA _ HV2.out).out.mono ?_; rintro e V4 ⟨rfl, hx⟩; have HV := Lib.hid (HV2.out.trans hx); have hb := HI.out.ext HV.out; have d4 := hb.c4; have g4 := hb.fz 4; have HB := Lib.hid (hb.setA av); have HY := Lib.hid ((HX.out.trans HV.out).setCell (p := ⟨ib, 4, none⟩) hwb (.int .i64 av)); have HZ4 := Lib.hid ((HZ.out.ext HV.out).far (p := ⟨ib, 4, none⟩) (by show w.heap.size ≠ ib; omega) (.int .i64 av)); clear hb hx))
      refine wp_abs (fun V => Hid (InsBlk V ib ⟨o, bE, 0, 0, av⟩) ∧ Hid (Ext w V) ∧ Hid (Blk V w.heap.size 23 #[.int .i64 0, .string ⟨#[]⟩, .int .i64 0, .int .i64 0, .int .i64 0])) ⟨HB, HY, HZ4⟩ ?_
      clear HI HX HZ HB HY HZ4 d4 g4 HV HV2 HH HW HTr HA
      rintro V ⟨HI, HX, HZ⟩
      have HF := Lib.hid (first_any ib ⟨o, bE, 0, 0, av⟩ ra V (HE.out.ext HX.out) HI.out q0 ho2 (by omega))
      generalize firstB ⟨o, bE, 0, 0, av⟩ ra = j at *
      have HR := Lib.hid hG
      clear hG
      go_upto_region 11 with (go_at_call 36; refine HF.out.mono ?_; rintro e V5 ⟨rfl, hj, mj⟩)
      have HJ := Lib.hid hj
      have HZ5 := Lib.hid (HZ.out.mods mj (by simp; omega))
      have HX5 := Lib.hid (ext_mods HX.out mj (fun k hk => by rw [List.mem_singleton] at hk; omega))
      clear hj mj HF HX HZ HI
      have j0 := HJ.out.c0
      have j1 := HJ.out.c1
      have j2 := HJ.out.c2
      have j3 := HJ.out.c3
      have j4 := HJ.out.c4
      have HTX := Lib.hid (text_any j V5 (HE.out.ext HX5.out))
      unfold insVal at HTX
      by_cases ht : insT j = s.data.toList
      · have HRR : Hid (G = some j) := Lib.hid (by rw [← HR.out, if_pos ht])
        have ht2 := mkB_ext ht.symm
        rw [← ht2] at HTX
        clear HR ht ht2
        go_upto_region 13 with (go_at_call 7; refine HTX.out.mono ?_; rintro e V6 ⟨rfl, hx⟩; have HX6 := Lib.hid (HX5.out.trans hx); have HJ6 := Lib.hid (HJ.out.ext hx); have HZ6 := Lib.hid (HZ5.out.ext hx); clear hx)
        have z0 := HZ6.out.cell 0
        have z1 := HZ6.out.cell 1
        have z2 := HZ6.out.cell 2
        have z3 := HZ6.out.cell 3
        have z4 := HZ6.out.cell 4
        have kzf := HZ6.out.frozen
        have l0 := HJ6.out.c0
        have l1 := HJ6.out.c1
        have l2 := HJ6.out.c2
        have l3 := HJ6.out.c3
        have l4 := HJ6.out.c4
        go_wp2_with fail
        have kb := blk_set5 HZ6.out (.int .i64 j.op) (.string j.s) (.int .i64 j.n) (.int .i64 j.v) (.int .i64 j.a)
        have kc := kb.cell
        refine bodyPost_ret (v := parsV G) ?_ rfl ⟨rfl, ext_set5 HX6.out (Nat.le_refl _) _ _ _ _ _⟩
        rw [HRR.out]
        simp [results, Tryz.results13, go_sem, parsV, insVal, kc]
      · have HRR : Hid (G = none) := Lib.hid (by rw [← HR.out, if_neg ht])
        have ht2 : ((mkB (insT j)).toList == s.toList) = false := by
          rw [ByteArray.toList_eq, ByteArray.toList_eq, mkB_list]
          simpa using ht
        have ht3 : ((mkB (insT j)).toList != s.toList) = true := by unfold bne; rw [ht2]; rfl
        generalize mkB (insT j) = tj at *
        clear HR ht
        go_upto_region 12 with (go_at_call 7; refine HTX.out.mono ?_; rintro e V6 ⟨rfl, hx⟩; have HX6 := Lib.hid (HX5.out.trans hx); have HZ6 := Lib.hid (HZ5.out.ext hx); clear hx)
        have z0 := HZ6.out.cell 0
        have z1 := HZ6.out.cell 1
        have z2 := HZ6.out.cell 2
        have z3 := HZ6.out.cell 3
        have z4 := HZ6.out.cell 4
        have kzf := HZ6.out.frozen
        go_wp2_with fail
        have kb := blk_set5 HZ6.out (.int .i64 0) (.string ⟨#[]⟩) (.int .i64 0) (.int .i64 0) (.int .i64 0)
        have kc := kb.cell
        refine bodyPost_ret (v := parsV G) ?_ rfl ⟨rfl, ext_set5 HX6.out (Nat.le_refl _) _ _ _ _ _⟩
        rw [HRR.out]
        simp [results, Tryz.results13, go_sem, parsV, insVal, insZ, bE, kc]

end Go.Proofs.YtlkpiigdmmhkpaaGreatDoor
