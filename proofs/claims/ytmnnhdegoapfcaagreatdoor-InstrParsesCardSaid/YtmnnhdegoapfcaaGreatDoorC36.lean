/- The reference of layer 16: the walks of number, named. -/
import Derived.Test.YtmnnhdegoapfcaaGreatDoorC35
namespace Go.Proofs.YtmnnhdegoapfcaaGreatDoor
open Go.RowKit Go.El

/-- What number answers. -/
def NumPost (l : List UInt8) (w : World) (e : Ending) (w' : World) : Prop := ∃ n : Int, e = .returned (.tuple #[.int .i64 n, .bool (numL l).isSome]) ∧ (∀ m, numL l = some m → n = m) ∧ (-1000000000000000000 ≤ n ∧ n ≤ 1000000000000000000) ∧ w = w'
theorem num_no {l : List UInt8} {k : Nat} (hk : k < (tailM l).length) (h18 : k < 18) (h : digOk (tailM l)[k] = false) : numL l = none := by
  unfold numL
  rw [if_neg]
  rw [Bool.not_eq_true, List.all_eq_false]
  exact ⟨(tailM l)[k], by rw [List.mem_take_iff_getElem]; exact ⟨k, by omega, rfl⟩, by simp [h]⟩
theorem num_end {l : List UInt8} {k : Nat} (h18 : k ≤ 18) (hd : k = (tailM l).length ∨ k = 18) (ha : ((tailM l).take k).all digOk = true) :
    numL l = (let n : Int := if (tailM l).length < l.length then -(foldD ((tailM l).take k) : Int) else foldD ((tailM l).take k); if Lib.itoa n = l then some n else none) := by
  have e : (tailM l).take 18 = (tailM l).take k := by
    rcases hd with h | h
    · rw [List.take_of_length_le (by omega), List.take_of_length_le (by omega)]
    · rw [h]
  unfold numL
  rw [e, if_pos ha]
theorem fold_take {l : List UInt8} {k : Nat} (hk : k < l.length) : foldD (l.take (k + 1)) = 10 * foldD (l.take k) + (l[k].toNat - 48) := by rw [List.take_succ_eq_append_getElem hk, fold_snoc]
theorem fold_gen : ∀ (l : List UInt8) (a : Nat), l.all digOk = true → l.foldl (fun a c => 10 * a + (c.toNat - 48)) a + 1 ≤ (a + 1) * 10 ^ l.length
  | [], a, _ => by simp
  | c :: l, a, h => by
    rw [List.all_cons, Bool.and_eq_true] at h
    have h2 : 48 ≤ c.toNat ∧ c.toNat ≤ 57 := by
      have := h.1
      simp [digOk] at this
      exact this
    have ih := fold_gen l (10 * a + (c.toNat - 48)) h.2
    rw [List.foldl_cons, List.length_cons, Nat.pow_succ]
    refine Nat.le_trans ih ?_
    rw [Nat.mul_comm (10 ^ l.length) 10, ← Nat.mul_assoc]
    exact Nat.mul_le_mul_right _ (by omega)
theorem fold_bd (l : List UInt8) (h : l.all digOk = true) : foldD l < 10 ^ l.length := by
  have := fold_gen l 0 h
  unfold foldD
  omega
theorem pow_le18 {k : Nat} (h : k ≤ 18) : 10 ^ k ≤ 1000000000000000000 := by
  have := Nat.pow_le_pow_right (n := 10) (by omega) h
  simpa using this
theorem pow_le17 {k : Nat} (h : k < 18) : 10 ^ k ≤ 100000000000000000 := by
  have := Nat.pow_le_pow_right (n := 10) (by omega) (show k ≤ 17 by omega)
  simpa using this
theorem get_list (s : ByteArray) (k : Nat) (h : k < s.size) (h2 : k < s.data.toList.length) : s[k]'h = s.data.toList[k]'h2 := by simp; rfl

set_option maxRecDepth 100000 in
set_option maxHeartbeats 4000000 in
theorem num_neg (s : ByteArray) (hs : s.size ≤ 1000) (w : World) (h1 : 1 ≤ s.size) (hc : ∀ h : 0 < s.size, s[0]'h = 45) :
    Calls Tryz.prog 109 #[.string s] w (NumPost s.data.toList w) := by
  have hll : s.data.toList.length = s.size := by simp
  have hsz : (s.extract 1 s.size).size < s.size := by simp; omega
  have hT : tailM s.data.toList = (s.extract 1 s.size).data.toList := by
    have h0 := hc (by omega)
    rw [get_list s 0 (by omega) (by omega)] at h0
    cases hl : s.data.toList with
    | nil => rw [hl] at hll; simp at hll; omega
    | cons c r =>
      simp only [hl, List.getElem_cons_zero] at h0
      subst h0
      rw [ext_list, hl, List.take_of_length_le (by rw [← hl]; omega)]
      rfl
  have b1 : (0 : Int) < (s.size : Int) := by omega
  have hdl : (s.extract 1 s.size).data.toList.length = (s.extract 1 s.size).size := by simp
  have hds : (s.extract 1 s.size).size ≤ s.size := by simp
  have HT := Lib.hid hT
  have HD := Lib.hid hdl
  clear hT hdl
  go_enter Tryz.func109, Tryz.ntmps109
  go_upto_region 6 with fail
  generalize s.extract 1 s.size = D at *
  go_wp2_with fail
  go_loopw [4, 6] (fun nv iv wr => ∃ k : Nat, k ≤ D.size ∧ k ≤ 18 ∧ nv = .int .i64 (foldD (D.data.toList.take k) : Int) ∧ iv = .int .i64 k ∧ w = wr ∧ Hid ((D.data.toList.take k).all digOk = true)) (fun _ iv _ => 18 - (intOf iv).toNat)
  case atStart => exact ⟨0, Nat.zero_le _, by omega, rfl, rfl, rfl, Lib.hid rfl⟩
  case round =>
    obtain ⟨k, hk, hk18, rfl, rfl, rfl, HA⟩ := hrel
    have hfb := fold_bd _ HA.out
    have hlen : (D.data.toList.take k).length = k := by rw [List.length_take, HD.out]; omega
    rw [hlen] at hfb
    have hpow := pow_le18 hk18
    have hfb2 : foldD (D.data.toList.take k) ≤ 1000000000000000000 := by omega
    by_cases hend : k < D.size ∧ k < 18
    · obtain ⟨hlt, h18⟩ := hend
      have hp17 := pow_le17 h18
      have hfb3 : (foldD (D.data.toList.take k) : Int) ≤ 100000000000000000 := by omega
      have hkk : k < D.data.toList.length := by rw [HD.out]; exact hlt
      have d1 : (k : Int) < (D.size : Int) := by omega
      have d2 : (k : Int) < 18 := by omega
      have hgl : D.data.toList[k]'hkk = D[k]'hlt := (get_list D k hlt hkk).symm
      have hft := fold_take hkk
      have hsn := List.take_succ_eq_append_getElem hkk
      have hno := fun (h : digOk D.data.toList[k] = false) => num_no (l := s.data.toList) (k := k) (by rw [HT.out]; exact hkk) h18 (by simp only [HT.out]; exact h)
      rw [hgl] at hft hsn hno
      clear hfb hpow hp17 hlen hfb2 hgl
      by_cases hc : 48 ≤ (D[k]'hlt).toNat ∧ (D[k]'hlt).toNat ≤ 57
      · have HA2 : Hid ((D.data.toList.take (k + 1)).all digOk = true) := Lib.hid (by
          rw [hsn, List.all_append, HA.out]
          simp [digOk, hc])
        have HF : Hid (foldD (D.data.toList.take (k + 1)) = 10 * foldD (D.data.toList.take k) + ((D[k]'hlt).toNat - 48)) := Lib.hid hft
        obtain ⟨hc1, hc2⟩ := hc
        have g1 : ¬ ((D[k]'hlt).toNat : Int) < 48 := by omega
        have g2 : ¬ (57 : Int) < ((D[k]'hlt).toNat : Int) := by omega
        have g3 : (48 : Int) ≤ ((D[k]'hlt).toNat : Int) := by omega
        have g4 : ((D[k]'hlt).toNat : Int) ≤ 57 := by omega
        have hd1 : (((D[k]'hlt).toNat : Int) - 48) = (((D[k]'hlt).toNat - 48 : Nat) : Int) := by omega
        have hd2 : (D[k]'hlt).toNat - 48 < 10 := by omega
        generalize (D[k]'hlt).toNat - 48 = dg at HF hd1 hd2
        clear hft hsn hno hc1 hc2
        generalize foldD (D.data.toList.take k) = f at *
        go_wp2_with fail
        go_roundw
        case rel => exact ⟨k + 1, hlt, h18, by rw [HF.out]; go_num, by go_num, trivial, HA2⟩
        case measure => simp [intOf]; omega
      · have HN := Lib.hid (hno (by simp [digOk]; omega))
        clear hft hsn hno
        by_cases g1 : ((D[k]'hlt).toNat : Int) < 48
        · go_wp2_with fail
          go_ret2
          exact ⟨0, by rw [HN.out]; rfl, fun m h => (by rw [HN.out] at h; cases h), by omega, rfl⟩
        · have g2 : (57 : Int) < ((D[k]'hlt).toNat : Int) := by omega
          go_wp2_with fail
          go_ret2
          exact ⟨0, by rw [HN.out]; rfl, fun m h => (by rw [HN.out] at h; cases h), by omega, rfl⟩
    · have HE := Lib.hid (num_end (l := s.data.toList) (k := k) hk18 (by rw [HT.out, HD.out]; omega) (by rw [HT.out]; exact HA.out))
      rw [HT.out, HD.out] at HE
      (try rw [hll] at HE)
      have hcmp : k < D.size → ¬ k < 18 := fun h1 h2 => hend ⟨h1, h2⟩
      generalize hfe : foldD (D.data.toList.take k) = f at *
      clear hfb hpow hlen HA hfe
      dsimp only at HE
      obtain ⟨N, hN⟩ : ∃ N : Int, -(f : Int) = N := ⟨_, rfl⟩
      have hNb : -1000000000000000000 ≤ N ∧ N ≤ 1000000000000000000 := by omega
      have HDG := Lib.hid (refDigits_any N (by omega) (by omega) w)
      have hE2 : numL s.data.toList = if Lib.itoa N = s.data.toList then some N else none := by
        first
          | rw [HE.out, if_pos hsz, hN]
          | (have e0 : ∀ a b : Int, (if s.size < s.size then a else b) = b := fun _ _ => if_neg (Nat.lt_irrefl _)
             rw [HE.out, e0, hN])
      clear HE
      have HW : ∀ b : Bool, b = ((strB (Lib.itoa N)).toList == s.toList) → (numL s.data.toList).isSome = b ∧ ∀ m, numL s.data.toList = some m → N = m := by
        intro b hb
        rw [ByteArray.toList_eq, ByteArray.toList_eq, strB_toList] at hb
        rw [hE2]
        split
        · rename_i h
          rw [h] at hb
          simp at hb
          exact ⟨by rw [hb]; rfl, fun m h => Option.some.inj h⟩
        · rename_i h
          have : (Lib.itoa N == s.data.toList) = false := by simpa using h
          rw [this] at hb
          exact ⟨by rw [hb]; rfl, fun m h => by cases h⟩
      obtain ⟨bb, hbb⟩ : ∃ b : Bool, ((strB (Lib.itoa N)).toList == s.toList) = b := ⟨_, rfl⟩
      have HW2 := Lib.hid (HW bb hbb.symm)
      have HNB := Lib.hid hNb
      have hbp : ((strB (Lib.itoa N)).toList = s.toList) = (bb = true) := by rw [← hbb]; simp
      generalize strB (Lib.itoa N) = q at *
      have l1 : (D.size : Int) < (s.size : Int) := by omega
      clear hE2 HW hNb hll hds
      by_cases h18 : k < D.size
      · have d1 : (k : Int) < (D.size : Int) := by omega
        have d2 : ¬ (k : Int) < 18 := by have := hcmp h18; omega
        clear hcmp hend
        subst hN
        go_wp2_with (go_at_call 75; refine HDG.out.mono ?_; rintro e W1 ⟨rfl, rfl⟩)
        go_ret2
        refine ⟨_, ?_, HW2.out.2, HNB.out, rfl⟩; rw [HW2.out.1]; rfl
      · have d1 : ¬ (k : Int) < (D.size : Int) := by omega
        clear hcmp hend
        subst hN
        go_wp2_with (go_at_call 75; refine HDG.out.mono ?_; rintro e W1 ⟨rfl, rfl⟩)
        go_ret2
        refine ⟨_, ?_, HW2.out.2, HNB.out, rfl⟩; rw [HW2.out.1]; rfl

set_option maxRecDepth 100000 in
set_option maxHeartbeats 4000000 in
theorem num_pos (s : ByteArray) (hs : s.size ≤ 1000) (w : World) (h1 : 1 ≤ s.size) (hc : ∀ h : 0 < s.size, ¬ s[0]'h = 45) :
    Calls Tryz.prog 109 #[.string s] w (NumPost s.data.toList w) := by
  have hll : s.data.toList.length = s.size := by simp
  have hT : tailM s.data.toList = s.data.toList := by
    unfold tailM
    rw [if_neg]
    intro h
    cases hl : s.data.toList with
    | nil => rw [hl] at h; cases h
    | cons c r =>
      rw [hl] at h
      have h0 := hc (by rw [hl] at hll; simp at hll; omega)
      rw [get_list s 0 (by rw [hl] at hll; simp at hll; omega) (by rw [hl]; simp)] at h0
      simp only [hl, List.getElem_cons_zero] at h0
      simp at h
      exact h0 h
  have b1 : (0 : Int) < (s.size : Int) := by omega
  have hcz : ∀ h : 0 < s.size, (((s[0]'h).toNat : Int) == 45) = false := fun h => by
    rw [beq_eq_false_iff_ne]
    intro e
    exact hc h (UInt8.toNat_inj.1 (by show (s[0]'h).toNat = 45; omega))
  clear hc
  have hdl : (s).data.toList.length = (s).size := by simp
  have hds : (s).size ≤ s.size := by simp
  have HT := Lib.hid hT
  have HD := Lib.hid hdl
  clear hT hdl
  go_enter Tryz.func109, Tryz.ntmps109
  go_upto_region 6 with fail
  go_wp2_with fail
  go_loopw [4, 6] (fun nv iv wr => ∃ k : Nat, k ≤ (s).size ∧ k ≤ 18 ∧ nv = .int .i64 (foldD ((s).data.toList.take k) : Int) ∧ iv = .int .i64 k ∧ w = wr ∧ Hid (((s).data.toList.take k).all digOk = true)) (fun _ iv _ => 18 - (intOf iv).toNat)
  case atStart => exact ⟨0, Nat.zero_le _, by omega, rfl, rfl, rfl, Lib.hid rfl⟩
  case round =>
    obtain ⟨k, hk, hk18, rfl, rfl, rfl, HA⟩ := hrel
    have hfb := fold_bd _ HA.out
    have hlen : ((s).data.toList.take k).length = k := by rw [List.length_take, HD.out]; omega
    rw [hlen] at hfb
    have hpow := pow_le18 hk18
    have hfb2 : foldD ((s).data.toList.take k) ≤ 1000000000000000000 := by omega
    by_cases hend : k < (s).size ∧ k < 18
    · obtain ⟨hlt, h18⟩ := hend
      have hp17 := pow_le17 h18
      have hfb3 : (foldD ((s).data.toList.take k) : Int) ≤ 100000000000000000 := by omega
      have hkk : k < (s).data.toList.length := by rw [HD.out]; exact hlt
      have d1 : (k : Int) < ((s).size : Int) := by omega
      have d2 : (k : Int) < 18 := by omega
      have hgl : (s).data.toList[k]'hkk = (s)[k]'hlt := (get_list (s) k hlt hkk).symm
      have hft := fold_take hkk
      have hsn := List.take_succ_eq_append_getElem hkk
      have hno := fun (h : digOk (s).data.toList[k] = false) => num_no (l := s.data.toList) (k := k) (by rw [HT.out]; exact hkk) h18 (by simp only [HT.out]; exact h)
      rw [hgl] at hft hsn hno
      clear hfb hpow hp17 hlen hfb2 hgl
      by_cases hc : 48 ≤ ((s)[k]'hlt).toNat ∧ ((s)[k]'hlt).toNat ≤ 57
      · have HA2 : Hid (((s).data.toList.take (k + 1)).all digOk = true) := Lib.hid (by
          rw [hsn, List.all_append, HA.out]
          simp [digOk, hc])
        have HF : Hid (foldD ((s).data.toList.take (k + 1)) = 10 * foldD ((s).data.toList.take k) + (((s)[k]'hlt).toNat - 48)) := Lib.hid hft
        obtain ⟨hc1, hc2⟩ := hc
        have g1 : ¬ (((s)[k]'hlt).toNat : Int) < 48 := by omega
        have g2 : ¬ (57 : Int) < (((s)[k]'hlt).toNat : Int) := by omega
        have g3 : (48 : Int) ≤ (((s)[k]'hlt).toNat : Int) := by omega
        have g4 : (((s)[k]'hlt).toNat : Int) ≤ 57 := by omega
        have hd1 : ((((s)[k]'hlt).toNat : Int) - 48) = ((((s)[k]'hlt).toNat - 48 : Nat) : Int) := by omega
        have hd2 : ((s)[k]'hlt).toNat - 48 < 10 := by omega
        generalize ((s)[k]'hlt).toNat - 48 = dg at HF hd1 hd2
        clear hft hsn hno hc1 hc2
        generalize foldD ((s).data.toList.take k) = f at *
        go_wp2_with fail
        go_roundw
        case rel => exact ⟨k + 1, hlt, h18, by rw [HF.out]; go_num, by go_num, trivial, HA2⟩
        case measure => simp [intOf]; omega
      · have HN := Lib.hid (hno (by simp [digOk]; omega))
        clear hft hsn hno
        by_cases g1 : (((s)[k]'hlt).toNat : Int) < 48
        · go_wp2_with fail
          go_ret2
          exact ⟨0, by rw [HN.out]; rfl, fun m h => (by rw [HN.out] at h; cases h), by omega, rfl⟩
        · have g2 : (57 : Int) < (((s)[k]'hlt).toNat : Int) := by omega
          go_wp2_with fail
          go_ret2
          exact ⟨0, by rw [HN.out]; rfl, fun m h => (by rw [HN.out] at h; cases h), by omega, rfl⟩
    · have HE := Lib.hid (num_end (l := s.data.toList) (k := k) hk18 (by rw [HT.out, HD.out]; omega) (by rw [HT.out]; exact HA.out))
      rw [HT.out, HD.out] at HE
      (try rw [hll] at HE)
      have hcmp : k < (s).size → ¬ k < 18 := fun h1 h2 => hend ⟨h1, h2⟩
      generalize hfe : foldD ((s).data.toList.take k) = f at *
      clear hfb hpow hlen HA hfe
      dsimp only at HE
      obtain ⟨N, hN⟩ : ∃ N : Int, (f : Int) = N := ⟨_, rfl⟩
      have hNb : -1000000000000000000 ≤ N ∧ N ≤ 1000000000000000000 := by omega
      have HDG := Lib.hid (refDigits_any N (by omega) (by omega) w)
      have hE2 : numL s.data.toList = if Lib.itoa N = s.data.toList then some N else none := by
        first
          | rw [HE.out, if_pos hsz, hN]
          | (have e0 : ∀ a b : Int, (if s.size < s.size then a else b) = b := fun _ _ => if_neg (Nat.lt_irrefl _)
             rw [HE.out, e0, hN])
      clear HE
      have HW : ∀ b : Bool, b = ((strB (Lib.itoa N)).toList == s.toList) → (numL s.data.toList).isSome = b ∧ ∀ m, numL s.data.toList = some m → N = m := by
        intro b hb
        rw [ByteArray.toList_eq, ByteArray.toList_eq, strB_toList] at hb
        rw [hE2]
        split
        · rename_i h
          rw [h] at hb
          simp at hb
          exact ⟨by rw [hb]; rfl, fun m h => Option.some.inj h⟩
        · rename_i h
          have : (Lib.itoa N == s.data.toList) = false := by simpa using h
          rw [this] at hb
          exact ⟨by rw [hb]; rfl, fun m h => by cases h⟩
      obtain ⟨bb, hbb⟩ : ∃ b : Bool, ((strB (Lib.itoa N)).toList == s.toList) = b := ⟨_, rfl⟩
      have HW2 := Lib.hid (HW bb hbb.symm)
      have HNB := Lib.hid hNb
      have hbp : ((strB (Lib.itoa N)).toList = s.toList) = (bb = true) := by rw [← hbb]; simp
      generalize strB (Lib.itoa N) = q at *
      have l1 : ¬ (s.size : Int) < (s.size : Int) := by omega
      clear hE2 HW hNb hll hds
      by_cases h18 : k < (s).size
      · have d1 : (k : Int) < ((s).size : Int) := by omega
        have d2 : ¬ (k : Int) < 18 := by have := hcmp h18; omega
        clear hcmp hend
        subst hN
        go_wp2_with (go_at_call 75; refine HDG.out.mono ?_; rintro e W1 ⟨rfl, rfl⟩)
        go_ret2
        refine ⟨_, ?_, HW2.out.2, HNB.out, rfl⟩; rw [HW2.out.1]; rfl
      · have d1 : ¬ (k : Int) < ((s).size : Int) := by omega
        clear hcmp hend
        subst hN
        go_wp2_with (go_at_call 75; refine HDG.out.mono ?_; rintro e W1 ⟨rfl, rfl⟩)
        go_ret2
        refine ⟨_, ?_, HW2.out.2, HNB.out, rfl⟩; rw [HW2.out.1]; rfl

set_option maxRecDepth 100000 in
set_option maxHeartbeats 4000000 in
theorem num_nil (s : ByteArray) (hs : s.size ≤ 1000) (w : World) (h1 : s.size = 0) :
    Calls Tryz.prog 109 #[.string s] w (NumPost s.data.toList w) := by
  have hll : s.data.toList.length = s.size := by simp
  have hT : tailM s.data.toList = s.data.toList := by
    have : s.data.toList = [] := List.eq_nil_of_length_eq_zero (by omega)
    rw [this]
    rfl
  have b1 : ¬ (0 : Int) < (s.size : Int) := by omega
  have HZ0 := Lib.hid h1
  clear h1
  have hdl : (s).data.toList.length = (s).size := by simp
  have hds : (s).size ≤ s.size := by simp
  have HT := Lib.hid hT
  have HD := Lib.hid hdl
  clear hT hdl
  go_enter Tryz.func109, Tryz.ntmps109
  go_upto_region 6 with fail
  go_wp2_with fail
  go_loopw [4, 6] (fun nv iv wr => ∃ k : Nat, k ≤ (s).size ∧ k ≤ 18 ∧ nv = .int .i64 (foldD ((s).data.toList.take k) : Int) ∧ iv = .int .i64 k ∧ w = wr ∧ Hid (((s).data.toList.take k).all digOk = true)) (fun _ iv _ => 18 - (intOf iv).toNat)
  case atStart => exact ⟨0, Nat.zero_le _, by omega, rfl, rfl, rfl, Lib.hid rfl⟩
  case round =>
    obtain ⟨k, hk, hk18, rfl, rfl, rfl, HA⟩ := hrel
    have hfb := fold_bd _ HA.out
    have hlen : ((s).data.toList.take k).length = k := by rw [List.length_take, HD.out]; omega
    rw [hlen] at hfb
    have hpow := pow_le18 hk18
    have hfb2 : foldD ((s).data.toList.take k) ≤ 1000000000000000000 := by omega
    by_cases hend : k < (s).size ∧ k < 18
    · obtain ⟨hlt, h18⟩ := hend
      have hp17 := pow_le17 h18
      have hfb3 : (foldD ((s).data.toList.take k) : Int) ≤ 100000000000000000 := by omega
      have hkk : k < (s).data.toList.length := by rw [HD.out]; exact hlt
      have d1 : (k : Int) < ((s).size : Int) := by omega
      have d2 : (k : Int) < 18 := by omega
      have hgl : (s).data.toList[k]'hkk = (s)[k]'hlt := (get_list (s) k hlt hkk).symm
      have hft := fold_take hkk
      have hsn := List.take_succ_eq_append_getElem hkk
      have hno := fun (h : digOk (s).data.toList[k] = false) => num_no (l := s.data.toList) (k := k) (by rw [HT.out]; exact hkk) h18 (by simp only [HT.out]; exact h)
      rw [hgl] at hft hsn hno
      clear hfb hpow hp17 hlen hfb2 hgl
      by_cases hc : 48 ≤ ((s)[k]'hlt).toNat ∧ ((s)[k]'hlt).toNat ≤ 57
      · have HA2 : Hid (((s).data.toList.take (k + 1)).all digOk = true) := Lib.hid (by
          rw [hsn, List.all_append, HA.out]
          simp [digOk, hc])
        have HF : Hid (foldD ((s).data.toList.take (k + 1)) = 10 * foldD ((s).data.toList.take k) + (((s)[k]'hlt).toNat - 48)) := Lib.hid hft
        obtain ⟨hc1, hc2⟩ := hc
        have g1 : ¬ (((s)[k]'hlt).toNat : Int) < 48 := by omega
        have g2 : ¬ (57 : Int) < (((s)[k]'hlt).toNat : Int) := by omega
        have g3 : (48 : Int) ≤ (((s)[k]'hlt).toNat : Int) := by omega
        have g4 : (((s)[k]'hlt).toNat : Int) ≤ 57 := by omega
        have hd1 : ((((s)[k]'hlt).toNat : Int) - 48) = ((((s)[k]'hlt).toNat - 48 : Nat) : Int) := by omega
        have hd2 : ((s)[k]'hlt).toNat - 48 < 10 := by omega
        generalize ((s)[k]'hlt).toNat - 48 = dg at HF hd1 hd2
        clear hft hsn hno hc1 hc2
        generalize foldD ((s).data.toList.take k) = f at *
        go_wp2_with fail
        go_roundw
        case rel => exact ⟨k + 1, hlt, h18, by rw [HF.out]; go_num, by go_num, trivial, HA2⟩
        case measure => simp [intOf]; omega
      · have HN := Lib.hid (hno (by simp [digOk]; omega))
        clear hft hsn hno
        by_cases g1 : (((s)[k]'hlt).toNat : Int) < 48
        · go_wp2_with fail
          go_ret2
          exact ⟨0, by rw [HN.out]; rfl, fun m h => (by rw [HN.out] at h; cases h), by omega, rfl⟩
        · have g2 : (57 : Int) < (((s)[k]'hlt).toNat : Int) := by omega
          go_wp2_with fail
          go_ret2
          exact ⟨0, by rw [HN.out]; rfl, fun m h => (by rw [HN.out] at h; cases h), by omega, rfl⟩
    · have HE := Lib.hid (num_end (l := s.data.toList) (k := k) hk18 (by rw [HT.out, HD.out]; omega) (by rw [HT.out]; exact HA.out))
      rw [HT.out, HD.out] at HE
      (try rw [hll] at HE)
      have hcmp : k < (s).size → ¬ k < 18 := fun h1 h2 => hend ⟨h1, h2⟩
      generalize hfe : foldD ((s).data.toList.take k) = f at *
      clear hfb hpow hlen HA hfe
      dsimp only at HE
      obtain ⟨N, hN⟩ : ∃ N : Int, (f : Int) = N := ⟨_, rfl⟩
      have hNb : -1000000000000000000 ≤ N ∧ N ≤ 1000000000000000000 := by omega
      have HDG := Lib.hid (refDigits_any N (by omega) (by omega) w)
      have hE2 : numL s.data.toList = if Lib.itoa N = s.data.toList then some N else none := by
        first
          | rw [HE.out, if_pos hsz, hN]
          | (have e0 : ∀ a b : Int, (if s.size < s.size then a else b) = b := fun _ _ => if_neg (Nat.lt_irrefl _)
             rw [HE.out, e0, hN])
      clear HE
      have HW : ∀ b : Bool, b = ((strB (Lib.itoa N)).toList == s.toList) → (numL s.data.toList).isSome = b ∧ ∀ m, numL s.data.toList = some m → N = m := by
        intro b hb
        rw [ByteArray.toList_eq, ByteArray.toList_eq, strB_toList] at hb
        rw [hE2]
        split
        · rename_i h
          rw [h] at hb
          simp at hb
          exact ⟨by rw [hb]; rfl, fun m h => Option.some.inj h⟩
        · rename_i h
          have : (Lib.itoa N == s.data.toList) = false := by simpa using h
          rw [this] at hb
          exact ⟨by rw [hb]; rfl, fun m h => by cases h⟩
      obtain ⟨bb, hbb⟩ : ∃ b : Bool, ((strB (Lib.itoa N)).toList == s.toList) = b := ⟨_, rfl⟩
      have HW2 := Lib.hid (HW bb hbb.symm)
      have HNB := Lib.hid hNb
      have hbp : ((strB (Lib.itoa N)).toList = s.toList) = (bb = true) := by rw [← hbb]; simp
      generalize strB (Lib.itoa N) = q at *
      have l1 : ¬ (s.size : Int) < (s.size : Int) := by omega
      clear hE2 HW hNb hll hds
      by_cases h18 : k < (s).size
      · have d1 : (k : Int) < ((s).size : Int) := by omega
        have d2 : ¬ (k : Int) < 18 := by have := hcmp h18; omega
        clear hcmp hend
        subst hN
        go_wp2_with (go_at_call 75; refine HDG.out.mono ?_; rintro e W1 ⟨rfl, rfl⟩)
        go_ret2
        refine ⟨_, ?_, HW2.out.2, HNB.out, rfl⟩; rw [HW2.out.1]; rfl
      · have d1 : ¬ (k : Int) < ((s).size : Int) := by omega
        clear hcmp hend
        subst hN
        go_wp2_with (go_at_call 75; refine HDG.out.mono ?_; rintro e W1 ⟨rfl, rfl⟩)
        go_ret2
        refine ⟨_, ?_, HW2.out.2, HNB.out, rfl⟩; rw [HW2.out.1]; rfl

theorem rNum_any (s : ByteArray) (hs : s.size ≤ 1000) (w : World) : Calls Tryz.prog 109 #[.string s] w (NumPost s.data.toList w) := by
  by_cases h0 : s.size = 0
  · exact num_nil s hs w h0
  · by_cases hc : ∀ h : 0 < s.size, s[0]'h = 45
    · exact num_neg s hs w (Nat.pos_of_ne_zero h0) hc
    · exact num_pos s hs w (Nat.pos_of_ne_zero h0) (fun h e => hc (fun _ => e))

end Go.Proofs.YtmnnhdegoapfcaaGreatDoor
