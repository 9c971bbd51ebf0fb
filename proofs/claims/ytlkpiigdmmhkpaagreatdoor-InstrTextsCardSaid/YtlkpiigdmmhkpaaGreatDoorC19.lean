/- Layer 16, plain: words, numerals: what was written is read. -/
import Derived.Test.YtlkpiigdmmhkpaaGreatDoorC06
import Derived.Test.YtlkpiigdmmhkpaaGreatDoorC12
namespace Go.El

theorem dig_nat (d : Nat) (h : d < 10) : (UInt8.ofNat (48 + d)).toNat = 48 + d := by
  rw [UInt8.toNat_ofNat']
  exact Nat.mod_eq_of_lt (by omega)
theorem dec_small {u : Nat} (h : u < 10) : Lib.decDigits u = [UInt8.ofNat (48 + u)] := by rw [Lib.decDigits, dif_pos h]
theorem dec_big {u : Nat} (h : ¬ u < 10) : Lib.decDigits u = Lib.decDigits (u / 10) ++ [UInt8.ofNat (48 + u % 10)] := by rw [Lib.decDigits, dif_neg h]
theorem dec_mem (u : Nat) : ∀ c ∈ Lib.decDigits u, 48 ≤ c.toNat ∧ c.toNat ≤ 57 := by
  induction u using Nat.strongRecOn with
  | _ u ih =>
    intro c hc
    by_cases h : u < 10
    · rw [dec_small h] at hc
      simp only [List.mem_singleton] at hc
      subst hc
      rw [dig_nat u h]
      omega
    · rw [dec_big h] at hc
      simp only [List.mem_append, List.mem_singleton] at hc
      rcases hc with hc | rfl
      · exact ih (u / 10) (by omega) c hc
      · rw [dig_nat _ (by omega)]
        omega
theorem dec_ne (u : Nat) : Lib.decDigits u ≠ [] := by
  by_cases h : u < 10
  · rw [dec_small h]; simp
  · rw [dec_big h]; simp
theorem parse_snoc : ∀ (l : List UInt8) (acc v : Nat) (c : UInt8), Lib.parseUint10 acc l = .ok v → 48 ≤ c.toNat ∧ c.toNat ≤ 57 → v < 1844674407370955162 → v * 10 + (c.toNat - 48) < 18446744073709551616 → Lib.parseUint10 acc (l ++ [c]) = .ok (v * 10 + (c.toNat - 48))
  | [], acc, v, c, h, hc, hv, hv2 => by
    simp only [Lib.parseUint10] at h
    injection h with h
    subst h
    simp only [List.nil_append, Lib.parseUint10]
    rw [if_pos hc, if_neg (by omega), if_neg (by omega)]
  | d :: l, acc, v, c, h, hc, hv, hv2 => by
    simp only [Lib.parseUint10, List.cons_append] at h ⊢
    split at h
    · rename_i hd
      rw [if_pos hd]
      split at h
      · cases h
      · rename_i h1
        rw [if_neg h1]
        split at h
        · cases h
        · rename_i h2
          rw [if_neg h2]
          exact parse_snoc l _ v c h hc hv hv2
    · cases h
theorem parse_dec (u : Nat) (hu : u ≤ 9007199254740991) : Lib.parseUint10 0 (Lib.decDigits u) = .ok u := by
  induction u using Nat.strongRecOn with
  | _ u ih =>
    by_cases h : u < 10
    · rw [dec_small h]
      have := parse_snoc [] 0 0 (UInt8.ofNat (48 + u)) rfl (by rw [dig_nat u h]; omega) (by omega) (by rw [dig_nat u h]; omega)
      rw [List.nil_append] at this
      rw [this, dig_nat u h]
      congr 1
      omega
    · rw [dec_big h]
      have hd := dig_nat (u % 10) (by omega)
      have := parse_snoc _ 0 (u / 10) (UInt8.ofNat (48 + u % 10)) (ih (u / 10) (by omega) (by omega)) (by rw [hd]; omega) (by omega) (by rw [hd]; omega)
      rw [this, hd]
      congr 1
      omega
theorem mag_dec (u : Nat) (hu : u ≤ 9007199254740991) : Lib.parseMag (Lib.decDigits u) = .ok u := by
  unfold Lib.parseMag
  rw [if_neg (dec_ne u), parse_dec u hu]
theorem atoi_itoa {n : Int} (h0 : -9007199254740991 ≤ n) (h1 : n ≤ 9007199254740991) : atoiF (Lib.itoa n) = n := by
  unfold Lib.itoa
  split
  · rename_i h
    have e : Lib.atoiAll (45 :: Lib.decDigits n.natAbs) = .ok n := by
      unfold Lib.atoiAll
      simp only [show (45 : UInt8).toNat = 45 from rfl, or_true, if_true, mag_dec n.natAbs (by omega)]
      rw [if_neg (by simp), if_neg (by omega)]
      congr 1
      omega
    unfold atoiF
    rw [e]
  · rename_i h
    have hm := dec_mem n.toNat
    have hp := mag_dec n.toNat (by omega)
    cases hd : Lib.decDigits n.toNat with
    | nil => exact absurd hd (dec_ne _)
    | cons c r =>
      rw [hd] at hm hp
      have hc := hm c (by simp)
      have e : Lib.atoiAll (c :: r) = .ok n := by
        unfold Lib.atoiAll
        simp only
        rw [if_neg (by omega : ¬ (c.toNat = 43 ∨ c.toNat = 45)), hp]
        simp only
        rw [if_neg (by omega), if_neg (by omega), if_neg (by omega)]
        congr 1
        omega
      unfold atoiF
      rw [e]
theorem itoa_mem {n : Int} (c : UInt8) (h : c ∈ Lib.itoa n) : c = 45 ∨ 48 ≤ c.toNat ∧ c.toNat ≤ 57 := by
  unfold Lib.itoa at h
  split at h
  · simp only [List.mem_cons] at h
    rcases h with h | h
    · exact .inl h
    · exact .inr (dec_mem _ c h)
  · exact .inr (dec_mem _ c h)
theorem itoa_not {n : Int} {x : UInt8} (hx : x ≠ 45) (h : ¬ (48 ≤ x.toNat ∧ x.toNat ≤ 57)) : x ∉ Lib.itoa n := fun hm => (itoa_mem x hm).elim hx h
theorem itoa_nonneg_mem {n : Int} (hn : 0 ≤ n) (c : UInt8) (h : c ∈ Lib.itoa n) : 48 ≤ c.toNat ∧ c.toNat ≤ 57 := by
  unfold Lib.itoa at h
  rw [if_neg (by omega)] at h
  exact dec_mem _ c h
theorem itoa_ne_nil (n : Int) : Lib.itoa n ≠ [] := by
  unfold Lib.itoa
  split
  · simp
  · exact dec_ne _

/-! ## The last place of a byte, the first one -/
def mkB (l : List UInt8) : ByteArray := ⟨l.toArray⟩
theorem mkB_size (l : List UInt8) : (mkB l).size = l.length := by simp [mkB, ByteArray.size]
theorem mkB_list (l : List UInt8) : (mkB l).data.toList = l := by simp [mkB]
theorem mkB_back (s : ByteArray) : mkB s.data.toList = s := by simp [mkB]
theorem last_mid (x y : List UInt8) (c : UInt8) (hy : c ∉ y) : Lib.lastIndexByte (mkB (x ++ [c] ++ y)) (c.toNat : Int) = (x.length : Int) := by
  have hsz : (mkB (x ++ [c] ++ y)).size = x.length + 1 + y.length := by
    rw [mkB_size]
    simp
    omega
  have hat : ∀ j, j < (mkB (x ++ [c] ++ y)).size → (mkB (x ++ [c] ++ y)).data[j]! = (x ++ [c] ++ y).getD j default := by
    intro j hj
    simp [mkB, List.getD_eq_getElem?_getD, getElem!_def]
    split <;> simp_all
  rcases Lib.lastIndexByte_spec (mkB (x ++ [c] ++ y)) (c.toNat : Int) with ⟨_, h⟩ | ⟨i, hi, he, hc, hn⟩
  · exfalso
    apply h x.length (by omega)
    rw [hat _ (by omega)]
    simp [List.getD_eq_getElem?_getD]
  · rw [he]
    have h1 : ¬ i < x.length := by
      intro h1
      apply hn x.length h1 (by omega)
      rw [hat _ (by omega)]
      simp [List.getD_eq_getElem?_getD]
    have h2 : ¬ x.length < i := by
      intro h2
      rw [hat i hi] at hc
      have e : (x ++ [c] ++ y).getD i default = y.getD (i - x.length - 1) default := by
        rw [List.getD_eq_getElem?_getD, List.getElem?_append_right (by simp; omega), List.getD_eq_getElem?_getD]
        congr 2
        simp
        omega
      rw [e, List.getD_eq_getElem?_getD, List.getElem?_eq_getElem (by omega)] at hc
      simp only [Option.getD_some] at hc
      apply hy
      have e2 : c = y[i - x.length - 1]'(by omega) := UInt8.toNat_inj.1 (by omega)
      rw [e2]
      exact List.getElem_mem _
    congr 1
    omega
theorem last_none (y : List UInt8) (c : UInt8) (hy : c ∉ y) : Lib.lastIndexByte (mkB y) (c.toNat : Int) = -1 := by
  rcases Lib.lastIndexByte_spec (mkB y) (c.toNat : Int) with ⟨h, _⟩ | ⟨i, hi, he, hc, hn⟩
  · exact h
  · exfalso
    have hl : i < y.length := by
      have := mkB_size y
      omega
    have hat : (mkB y).data[i]! = y[i] := by simp [mkB, hl]
    rw [hat] at hc
    apply hy
    have e2 : c = y[i] := UInt8.toNat_inj.1 (by omega)
    rw [e2]
    exact List.getElem_mem _
theorem ext_list (s : ByteArray) (a b : Nat) : (s.extract a b).data.toList = (s.data.toList.take b).drop a := by
  simp [List.take_drop]
  by_cases h : a ≤ b
  · rw [show a + (b - a) = b by omega]
  · rw [List.drop_eq_nil_of_le (by simp; omega), List.drop_eq_nil_of_le (by simp; omega)]
theorem mkB_ext {s : ByteArray} {l : List UInt8} (h : s.data.toList = l) : s = mkB l := by rw [← h, mkB_back]
theorem word_two (x y : List UInt8) (hy : (32 : UInt8) ∉ y) : wordB (mkB (x ++ [32] ++ y)) = (mkB x, mkB y) := by
  have h := last_mid x y 32 hy
  have h32 : (((32 : UInt8).toNat : Nat) : Int) = 32 := rfl
  rw [h32] at h
  unfold wordB
  rw [h, if_neg (by omega), Int.toNat_natCast]
  have e1 : (mkB (x ++ [32] ++ y)).extract 0 x.length = mkB x := by
    apply mkB_ext
    rw [ext_list, mkB_list]
    simp
  have e2 : (mkB (x ++ [32] ++ y)).extract (x.length + 1) (mkB (x ++ [32] ++ y)).size = mkB y := by
    apply mkB_ext
    rw [ext_list, mkB_list, mkB_size, List.take_of_length_le (Nat.le_refl _)]
    simp [List.drop_append]
  rw [e1, e2]
theorem word_one (y : List UInt8) (hy : (32 : UInt8) ∉ y) : wordB (mkB y) = (bE, mkB y) := by
  have h := last_none y 32 hy
  have h32 : (((32 : UInt8).toNat : Nat) : Int) = 32 := rfl
  rw [h32] at h
  unfold wordB
  rw [h, if_pos (by omega)]
end Go.El

/- Layer 16: the walks of atoi, word, unreg. -/
namespace Go.Proofs.YtlkpiigdmmhkpaaGreatDoor
open Go.RowKit Go.El

theorem atoi_calls (s : ByteArray) (hs : s.size ≤ 10000) (w : World) (he : Env w) :
    Calls Tryz.prog 49 #[.string s] w fun e w' => ∃ x, e = .returned (.tuple #[.int .i64 (atoiF s.data.toList), x]) ∧ Ext w w' := by
  rcases h : Lib.atoiAll s.data.toList with v | _ | _
  · refine (Tryz.strconv_Atoi_ok s (by omega) v h w).mono ?_
    rintro e w' ⟨rfl, hw⟩
    refine ⟨_, by unfold atoiF; rw [h], ?_⟩
    rcases hw with rfl | ⟨t, rfl⟩
    · exact Ext.refl _
    · exact ext_bytes w _ t
  · obtain ⟨te, pe, hv⟩ := he.syn
    refine (Tryz.strconv_Atoi_syntax s (by omega) (h.trans rfl) _ w hv (.inr ⟨te, pe, rfl⟩)).mono ?_
    rintro e w' ⟨N, rfl, _, _, x⟩
    exact ⟨_, by unfold atoiF; rw [h], x⟩
  · obtain ⟨te, pe, hv⟩ := he.glob.err
    refine (Tryz.strconv_Atoi_range s (by omega) h _ w hv (.inr ⟨te, pe, rfl⟩)).mono ?_
    rintro e w' ⟨N, rfl, _, _, x⟩
    exact ⟨_, by unfold atoiF; rw [h], x⟩

set_option maxRecDepth 100000 in
theorem atoiF_any (s : ByteArray) (hs : s.size ≤ 10000) (w : World) (he : Env w) :
    Calls Tryz.prog 34 #[.string s] w fun e w' => e = .returned (.int .i64 (atoiF s.data.toList)) ∧ Ext w w' := by
  have HA := Lib.hid (atoi_calls s hs w he)
  generalize atoiF s.data.toList = n at *
  clear he
  go_enter Tryz.func34, Tryz.ntmps34
  go_wp2_with (go_at_call 49; refine HA.out.mono ?_; rintro e W1 ⟨x, rfl, hx⟩; have HX := Lib.hid hx; clear hx)
  go_ret
  exact ⟨rfl, HX.out⟩

theorem last_in (s : ByteArray) (c : Int) : Lib.lastIndexByte s c = -1 ∨ ∃ i : Nat, i < s.size ∧ Lib.lastIndexByte s c = i := by
  rcases Lib.lastIndexByte_spec s c with ⟨h, _⟩ | ⟨i, h1, h2, _⟩
  · exact .inl h
  · exact .inr ⟨i, h1, h2⟩
set_option maxRecDepth 100000 in
theorem word_any (s : ByteArray) (hs : s.size ≤ 10000) (w : World) :
    Calls Tryz.prog 33 #[.string s] w fun e w' => e = .returned (.tuple #[.string (wordB s).1, .string (wordB s).2]) ∧ Ext w w' := by
  have HL := Lib.hid (Tryz.strings_LastIndexByte s 32 (by omega) w)
  rcases last_in s 32 with h | ⟨i, hi, h⟩
  · rw [show wordB s = (bE, s) by unfold wordB; rw [h]; rfl]
    rw [h] at HL
    clear h
    go_enter Tryz.func33, Tryz.ntmps33
    go_wp2_with (go_at_call 48; refine HL.out.mono ?_; rintro e W1 ⟨rfl, rfl⟩)
    go_ret2
    exact ⟨rfl, Ext.refl _⟩
  · rw [show wordB s = (s.extract 0 i, s.extract (i + 1) s.size) by unfold wordB; rw [h, if_neg (by omega), Int.toNat_natCast]]
    rw [h] at HL
    have h1 : i + 1 ≤ s.size := hi
    clear h
    go_enter Tryz.func33, Tryz.ntmps33
    go_wp2_with (go_at_call 48; refine HL.out.mono ?_; rintro e W1 ⟨rfl, rfl⟩)
    go_quiet (fail)
    go_wp2_with fail
    go_ret2
    exact ⟨rfl, (Ext.refl _).drewN _⟩

theorem pre_size {s : ByteArray} {c : UInt8} (h : Lib.hasPrefix s.data.toList [c] = true) : 1 ≤ s.size := by
  have e : s.data.toList.length = s.size := by simp
  cases hl : s.data.toList with
  | nil => rw [hl] at h; simp [Lib.hasPrefix, List.isPrefixOf] at h
  | cons d r => rw [hl] at e; simp at e; omega
set_option maxRecDepth 100000 in
theorem unreg_any (s : ByteArray) (hs : s.size ≤ 10000) (w : World) (he : Env w) :
    Calls Tryz.prog 51 #[.string s] w fun e w' => e = .returned (.int .i64 (unregB s)) ∧ Ext w w' := by
  have H1 := Lib.hid (Tryz.strings_HasPrefix s ⟨#[88]⟩ w)
  have H2 := Lib.hid (Tryz.strings_HasPrefix s ⟨#[89]⟩ w)
  have hz : (s.extract 1 s.size).size ≤ 10000 := by simp; omega
  have HA := Lib.hid (atoiF_any (s.extract 1 s.size) hz w he)
  cases h1 : Lib.hasPrefix s.data.toList [88]
  · cases h2 : Lib.hasPrefix s.data.toList [89]
    · have HR : Hid (unregB s = 0) := Lib.hid (by unfold unregB; rw [h1, h2]; rfl)
      rw [show Lib.hasPrefix s.data.toList (⟨#[88]⟩ : ByteArray).data.toList = false from h1] at H1
      rw [show Lib.hasPrefix s.data.toList (⟨#[89]⟩ : ByteArray).data.toList = false from h2] at H2
      clear h1 h2 he
      go_enter Tryz.func51, Tryz.ntmps51
      go_wp2_with (go_at_call 62; first | (refine H1.out.mono ?_; rintro e W1 ⟨rfl, rfl⟩) | (refine H2.out.mono ?_; rintro e W1 ⟨rfl, rfl⟩))
      go_ret
      exact ⟨by rw [HR.out]; rfl, Ext.refl _⟩
    · have hp := pre_size h2
      have HR : Hid (unregB s = RowKit.wrap64 (-(atoiF (s.extract 1 s.size).data.toList))) := Lib.hid (by unfold unregB; rw [h1, h2]; rfl)
      rw [show Lib.hasPrefix s.data.toList (⟨#[88]⟩ : ByteArray).data.toList = false from h1] at H1
      rw [show Lib.hasPrefix s.data.toList (⟨#[89]⟩ : ByteArray).data.toList = true from h2] at H2
      generalize atoiF (s.extract 1 s.size).data.toList = n at *
      clear h1 h2 he hz
      go_enter Tryz.func51, Tryz.ntmps51
      go_wp2_with (first | (go_at_call 62; first | (refine H1.out.mono ?_; rintro e W1 ⟨rfl, rfl⟩) | (refine H2.out.mono ?_; rintro e W1 ⟨rfl, rfl⟩)) | (go_at_call 34; refine HA.out.mono ?_; rintro e W2 ⟨rfl, hx⟩))
      go_ret
      exact ⟨by rw [HR.out]; rfl, hx⟩
  · have hp := pre_size h1
    have HR : Hid (unregB s = atoiF (s.extract 1 s.size).data.toList) := Lib.hid (by unfold unregB; rw [h1]; rfl)
    rw [show Lib.hasPrefix s.data.toList (⟨#[88]⟩ : ByteArray).data.toList = true from h1] at H1
    generalize atoiF (s.extract 1 s.size).data.toList = n at *
    clear h1 he hz H2
    go_enter Tryz.func51, Tryz.ntmps51
    go_wp2_with (first | (go_at_call 62; (refine H1.out.mono ?_; rintro e W1 ⟨rfl, rfl⟩)) | (go_at_call 34; refine HA.out.mono ?_; rintro e W2 ⟨rfl, hx⟩))
    go_ret
    exact ⟨by rw [HR.out]; rfl, hx⟩

end Go.Proofs.YtlkpiigdmmhkpaaGreatDoor
