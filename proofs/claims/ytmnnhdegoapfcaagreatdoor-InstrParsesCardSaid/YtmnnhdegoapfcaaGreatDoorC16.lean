/- Layer 16, plain: words, numerals: what was written is read. -/
import Derived.Test.YtmnnhdegoapfcaaGreatDoorC05
import Derived.IntWalk
namespace Go.El

theorem dig_nat (d : Nat) (h : d < 10) : (UInt8.ofNat (48 + d)).toNat = 48 + d := by
  rw [UInt8.toNat_ofNat']
  exact Nat.mod_eq_of_lt (by omega)
theorem dec_small {u : Nat} (h : u < 10) : Lib.decDigits u = [UInt8.ofNat (48 + u)] := by rw [Lib.decDigits, dif_pos h]
theorem dec_big {u : Nat} (h : ¬ u < 10) : Lib.decDigits u = Lib.decDigits (u / 10) ++ [UInt8.ofNat (48 + u % 10)] := by rw [Lib.decDigits, dif_neg h]
theorem dec_mem (u : Nat) : ∀ c ∈ Lib.decDigits u, 48 ≤ c.toNat ∧ c.toNat ≤ 57 := by
  induction u using Nat.strongRecOn with
  | _ u ih =>
    intro c hc
    by_cases h : u < 10
    · rw [dec_small h] at hc
      simp only [List.mem_singleton] at hc
      subst hc
      rw [dig_nat u h]
      omega
    · rw [dec_big h] at hc
      simp only [List.mem_append, List.mem_singleton] at hc
      rcases hc with hc | rfl
      · exact ih (u / 10) (by omega) c hc
      · rw [dig_nat _ (by omega)]
        omega
theorem dec_ne (u : Nat) : Lib.decDigits u ≠ [] := by
  by_cases h : u < 10
  · rw [dec_small h]; simp
  · rw [dec_big h]; simp
theorem parse_snoc : ∀ (l : List UInt8) (acc v : Nat) (c : UInt8), Lib.parseUint10 acc l = .ok v → 48 ≤ c.toNat ∧ c.toNat ≤ 57 → v < 1844674407370955162 → v * 10 + (c.toNat - 48) < 18446744073709551616 → Lib.parseUint10 acc (l ++ [c]) = .ok (v * 10 + (c.toNat - 48))
  | [], acc, v, c, h, hc, hv, hv2 => by
    simp only [Lib.parseUint10] at h
    injection h with h
    subst h
    simp only [List.nil_append, Lib.parseUint10]
    rw [if_pos hc, if_neg (by omega), if_neg (by omega)]
  | d :: l, acc, v, c, h, hc, hv, hv2 => by
    simp only [Lib.parseUint10, List.cons_append] at h ⊢
    split at h
    · rename_i hd
      rw [if_pos hd]
      split at h
      · cases h
      · rename_i h1
        rw [if_neg h1]
        split at h
        · cases h
        · rename_i h2
          rw [if_neg h2]
          exact parse_snoc l _ v c h hc hv hv2
    · cases h
theorem parse_dec (u : Nat) (hu : u ≤ 9007199254740991) : Lib.parseUint10 0 (Lib.decDigits u) = .ok u := by
  induction u using Nat.strongRecOn with
  | _ u ih =>
    by_cases h : u < 10
    · rw [dec_small h]
      have := parse_snoc [] 0 0 (UInt8.ofNat (48 + u)) rfl (by rw [dig_nat u h]; omega) (by omega) (by rw [dig_nat u h]; omega)
      rw [List.nil_append] at this
      rw [this, dig_nat u h]
      congr 1
      omega
    · rw [dec_big h]
      have hd := dig_nat (u % 10) (by omega)
      have := parse_snoc _ 0 (u / 10) (UInt8.ofNat (48 + u % 10)) (ih (u / 10) (by omega) (by omega)) (by rw [hd]; omega) (by omega) (by rw [hd]; omega)
      rw [this, hd]
      congr 1
      omega
theorem mag_dec (u : Nat) (hu : u ≤ 9007199254740991) : Lib.parseMag (Lib.decDigits u) = .ok u := by
  unfold Lib.parseMag
  rw [if_neg (dec_ne u), parse_dec u hu]
theorem atoi_itoa {n : Int} (h0 : -9007199254740991 ≤ n) (h1 : n ≤ 9007199254740991) : atoiF (Lib.itoa n) = n := by
  unfold Lib.itoa
  split
  · rename_i h
    have e : Lib.atoiAll (45 :: Lib.decDigits n.natAbs) = .ok n := by
      unfold Lib.atoiAll
      simp only [show (45 : UInt8).toNat = 45 from rfl, or_true, if_true, mag_dec n.natAbs (by omega)]
      rw [if_neg (by simp), if_neg (by omega)]
      congr 1
      omega
    unfold atoiF
    rw [e]
  · rename_i h
    have hm := dec_mem n.toNat
    have hp := mag_dec n.toNat (by omega)
    cases hd : Lib.decDigits n.toNat with
    | nil => exact absurd hd (dec_ne _)
    | cons c r =>
      rw [hd] at hm hp
      have hc := hm c (by simp)
      have e : Lib.atoiAll (c :: r) = .ok n := by
        unfold Lib.atoiAll
        simp only
        rw [if_neg (by omega : ¬ (c.toNat = 43 ∨ c.toNat = 45)), hp]
        simp only
        rw [if_neg (by omega), if_neg (by omega), if_neg (by omega)]
        congr 1
        omega
      unfold atoiF
      rw [e]
theorem itoa_mem {n : Int} (c : UInt8) (h : c ∈ Lib.itoa n) : c = 45 ∨ 48 ≤ c.toNat ∧ c.toNat ≤ 57 := by
  unfold Lib.itoa at h
  split at h
  · simp only [List.mem_cons] at h
    rcases h with h | h
    · exact .inl h
    · exact .inr (dec_mem _ c h)
  · exact .inr (dec_mem _ c h)
theorem itoa_not {n : Int} {x : UInt8} (hx : x ≠ 45) (h : ¬ (48 ≤ x.toNat ∧ x.toNat ≤ 57)) : x ∉ Lib.itoa n := fun hm => (itoa_mem x hm).elim hx h
theorem itoa_nonneg_mem {n : Int} (hn : 0 ≤ n) (c : UInt8) (h : c ∈ Lib.itoa n) : 48 ≤ c.toNat ∧ c.toNat ≤ 57 := by
  unfold Lib.itoa at h
  rw [if_neg (by omega)] at h
  exact dec_mem _ c h
theorem itoa_ne_nil (n : Int) : Lib.itoa n ≠ [] := by
  unfold Lib.itoa
  split
  · simp
  · exact dec_ne _

/-! ## The last place of a byte, the first one -/
def mkB (l : List UInt8) : ByteArray := ⟨l.toArray⟩
theorem mkB_size (l : List UInt8) : (mkB l).size = l.length := by simp [mkB, ByteArray.size]
theorem mkB_list (l : List UInt8) : (mkB l).data.toList = l := by simp [mkB]
theorem mkB_back (s : ByteArray) : mkB s.data.toList = s := by simp [mkB]
theorem last_mid (x y : List UInt8) (c : UInt8) (hy : c ∉ y) : Lib.lastIndexByte (mkB (x ++ [c] ++ y)) (c.toNat : Int) = (x.length : Int) := by
  have hsz : (mkB (x ++ [c] ++ y)).size = x.length + 1 + y.length := by
    rw [mkB_size]
    simp
    omega
  have hat : ∀ j, j < (mkB (x ++ [c] ++ y)).size → (mkB (x ++ [c] ++ y)).data[j]! = (x ++ [c] ++ y).getD j default := by
    intro j hj
    simp [mkB, List.getD_eq_getElem?_getD, getElem!_def]
    split <;> simp_all
  rcases Lib.lastIndexByte_spec (mkB (x ++ [c] ++ y)) (c.toNat : Int) with ⟨_, h⟩ | ⟨i, hi, he, hc, hn⟩
  · exfalso
    apply h x.length (by omega)
    rw [hat _ (by omega)]
    simp [List.getD_eq_getElem?_getD]
  · rw [he]
    have h1 : ¬ i < x.length := by
      intro h1
      apply hn x.length h1 (by omega)
      rw [hat _ (by omega)]
      simp [List.getD_eq_getElem?_getD]
    have h2 : ¬ x.length < i := by
      intro h2
      rw [hat i hi] at hc
      have e : (x ++ [c] ++ y).getD i default = y.getD (i - x.length - 1) default := by
        rw [List.getD_eq_getElem?_getD, List.getElem?_append_right (by simp; omega), List.getD_eq_getElem?_getD]
        congr 2
        simp
        omega
      rw [e, List.getD_eq_getElem?_getD, List.getElem?_eq_getElem (by omega)] at hc
      simp only [Option.getD_some] at hc
      apply hy
      have e2 : c = y[i - x.length - 1]'(by omega) := UInt8.toNat_inj.1 (by omega)
      rw [e2]
      exact List.getElem_mem _
    congr 1
    omega
theorem last_none (y : List UInt8) (c : UInt8) (hy : c ∉ y) : Lib.lastIndexByte (mkB y) (c.toNat : Int) = -1 := by
  rcases Lib.lastIndexByte_spec (mkB y) (c.toNat : Int) with ⟨h, _⟩ | ⟨i, hi, he, hc, hn⟩
  · exact h
  · exfalso
    have hl : i < y.length := by
      have := mkB_size y
      omega
    have hat : (mkB y).data[i]! = y[i] := by simp [mkB, hl]
    rw [hat] at hc
    apply hy
    have e2 : c = y[i] := UInt8.toNat_inj.1 (by omega)
    rw [e2]
    exact List.getElem_mem _
theorem ext_list (s : ByteArray) (a b : Nat) : (s.extract a b).data.toList = (s.data.toList.take b).drop a := by
  simp [List.take_drop]
  by_cases h : a ≤ b
  · rw [show a + (b - a) = b by omega]
  · rw [List.drop_eq_nil_of_le (by simp; omega), List.drop_eq_nil_of_le (by simp; omega)]
theorem mkB_ext {s : ByteArray} {l : List UInt8} (h : s.data.toList = l) : s = mkB l := by rw [← h, mkB_back]
theorem word_two (x y : List UInt8) (hy : (32 : UInt8) ∉ y) : wordB (mkB (x ++ [32] ++ y)) = (mkB x, mkB y) := by
  have h := last_mid x y 32 hy
  have h32 : (((32 : UInt8).toNat : Nat) : Int) = 32 := rfl
  rw [h32] at h
  unfold wordB
  rw [h, if_neg (by omega), Int.toNat_natCast]
  have e1 : (mkB (x ++ [32] ++ y)).extract 0 x.length = mkB x := by
    apply mkB_ext
    rw [ext_list, mkB_list]
    simp
  have e2 : (mkB (x ++ [32] ++ y)).extract (x.length + 1) (mkB (x ++ [32] ++ y)).size = mkB y := by
    apply mkB_ext
    rw [ext_list, mkB_list, mkB_size, List.take_of_length_le (Nat.le_refl _)]
    simp [List.drop_append]
  rw [e1, e2]
theorem word_one (y : List UInt8) (hy : (32 : UInt8) ∉ y) : wordB (mkB y) = (bE, mkB y) := by
  have h := last_none y 32 hy
  have h32 : (((32 : UInt8).toNat : Nat) : Int) = 32 := rfl
  rw [h32] at h
  unfold wordB
  rw [h, if_pos (by omega)]
end Go.El

/- Layer 16, plain: an instruction that may be is read back from its text. -/
namespace Go.El

theorem cut_sp (x y : List UInt8) (hx : (32 : UInt8) ∉ x) : Lib.cut (x ++ 32 :: y) [32] = (x, y, true) := by
  have h : Lib.index (x ++ 32 :: y) [32] = (x.length : Int) := by
    apply Lib.index_first
    · simp
    · simp [Lib.occAt]
    · intro j hj
      unfold Lib.occAt
      rw [List.drop_append_of_le_length (by omega), List.drop_eq_getElem_cons hj]
      simp only [List.cons_append, List.isPrefixOf, Bool.and_true]
      rw [beq_eq_false_iff_ne]
      intro e
      exact hx (e ▸ List.getElem_mem hj)
  unfold Lib.cut
  rw [h, if_pos (by omega), Int.toNat_natCast]
  simp [List.drop_append]
theorem cut_no (x : List UInt8) (hx : (32 : UInt8) ∉ x) : Lib.cut x [32] = (x, [], false) := by
  have h : Lib.index x [32] = -1 := by
    rcases Lib.index_spec x [32] with ⟨h, _⟩ | ⟨i, h1, h2, h3, _⟩
    · exact h
    · exfalso
      unfold Lib.occAt at h3
      by_cases hi : i < x.length
      · rw [List.drop_eq_getElem_cons hi] at h3
        simp only [List.isPrefixOf, Bool.and_true, beq_iff_eq] at h3
        exact hx (h3 ▸ List.getElem_mem hi)
      · rw [List.drop_eq_nil_of_le (by omega)] at h3
        simp [List.isPrefixOf] at h3
  unfold Lib.cut
  rw [h, if_neg (by omega)]

theorem join_cons (n : List UInt8) (fs : List (List UInt8)) : Lib.join (n :: fs) [32] = if fs = [] then n else n ++ 32 :: Lib.join fs [32] := by
  cases fs with
  | nil => simp [Lib.join, List.intercalate]
  | cons f fs => simp [Lib.join, List.intercalate]
theorem join_one (f : List UInt8) : Lib.join [f] [32] = f := by simp [Lib.join, List.intercalate]
theorem join_two (f g : List UInt8) : Lib.join [f, g] [32] = f ++ [32] ++ g := by simp [Lib.join, List.intercalate]
theorem join_none : Lib.join [] [32] = [] := rfl

theorem unq_back {s : ByteArray} (hs : s.size ≤ 64) : unqB (mkB (quoF s.data.toList)) = s := by
  have hl : s.data.toList.length = s.size := by simp
  by_cases h1 : s.data.toList = [91, 93]
  · rw [mkB_ext h1]
    decide +kernel
  by_cases h2 : s.data.toList = [123, 125]
  · rw [mkB_ext h2]
    decide +kernel
  have h := scan_quo s.data.toList h1 h2
  unfold unqB
  have e : backS (if plainL s.data.toList = true then 1 else 2) s.data.toList (quoF s.data.toList).length = (⟨if plainL s.data.toList = true then 1 else 2, ⟨s.data.toList.toArray⟩, 0, 0, false⟩, (quoF s.data.toList).length, 0) := if_neg (by omega)
  rw [mkB_list, h, mkB_size, e, if_pos ⟨rfl, rfl⟩]
theorem unreg_back {v : Int} (h0 : -64 ≤ v) (h1 : v ≤ 255) : unregB (mkB (regT v)) = v := by
  unfold regT
  split
  · unfold unregB
    have e : ((mkB (89 :: Lib.itoa (-v))).extract 1 (mkB (89 :: Lib.itoa (-v))).size).data.toList = Lib.itoa (-v) := by
      rw [ext_list, mkB_list, mkB_size, List.take_of_length_le (Nat.le_refl _)]
      rfl
    rw [e, mkB_list, if_neg (by simp [Lib.hasPrefix, List.isPrefixOf]), if_pos (by simp [Lib.hasPrefix, List.isPrefixOf]), atoi_itoa (by omega) (by omega)]
    rw [IntWalk.wrap64_in _ (by omega)]
    omega
  · unfold unregB
    have e : ((mkB (88 :: Lib.itoa v)).extract 1 (mkB (88 :: Lib.itoa v)).size).data.toList = Lib.itoa v := by
      rw [ext_list, mkB_list, mkB_size, List.take_of_length_le (Nat.le_refl _)]
      rfl
    rw [e, mkB_list, if_pos (by simp [Lib.hasPrefix, List.isPrefixOf]), atoi_itoa (by omega) (by omega)]
theorem trim_hit (c : UInt8) (l : List UInt8) : trimB (mkB (c :: l)) c = l := by
  unfold trimB Lib.trimPrefix
  rw [mkB_list, if_pos (by simp [Lib.hasPrefix, List.isPrefixOf])]
  rfl
theorem trim_miss {c : UInt8} {l : List UInt8} (h : c ∉ l) : trimB (mkB l) c = l := by
  unfold trimB Lib.trimPrefix
  rw [mkB_list, if_neg]
  cases l with
  | nil => simp [Lib.hasPrefix, List.isPrefixOf]
  | cons d l =>
    simp only [Lib.hasPrefix, List.isPrefixOf, Bool.and_true, beq_iff_eq]
    intro e
    exact h (by simp [e])
theorem slash_at (x y : List UInt8) (hy : (47 : UInt8) ∉ y) : slashB (mkB (x ++ [47] ++ y)) = x.length := by
  have h := last_mid x y 47 hy
  have h47 : (((47 : UInt8).toNat : Nat) : Int) = 47 := rfl
  rw [h47] at h
  unfold slashB
  rw [h]
  omega
theorem ext_to (x y : List UInt8) : (mkB (x ++ y)).extract 0 x.length = mkB x := by
  apply mkB_ext
  rw [ext_list, mkB_list]
  simp
theorem ext_from (x y : List UInt8) : (mkB (x ++ y)).extract x.length (mkB (x ++ y)).size = mkB y := by
  apply mkB_ext
  rw [ext_list, mkB_list, mkB_size, List.take_of_length_le (Nat.le_refl _)]
  simp
/-- The texts of an instruction's fields. -/
def fldL (i : Ins) : List (List UInt8) := (ordF.filter (hasF i.op)).map (fldT i)
theorem insTs_eq (i : Ins) : insTs i 8 = nameF i.op :: fldL i := rfl

/-- Which fields an operation has. -/
def flagL (o : Int) : List Bool := [1, 2, 4, 8, 16, 32, 64, 128, 6, 144, 96].map (hasF o)
def flagAll : List (List Bool) := [
  [true, true, false, false, false, false, false, false, true, false, false],
  [false, true, false, true, false, false, false, false, true, false, false],
  [false, true, false, false, true, false, false, false, true, true, false],
  [false, true, false, false, false, true, false, false, true, false, true],
  [true, false, false, false, false, false, false, false, false, false, false],
  [false, false, false, true, false, false, false, false, false, false, false],
  [false, false, false, false, true, false, false, false, false, true, false],
  [false, false, false, false, false, false, false, true, false, true, false],
  [false, false, false, false, false, false, false, false, false, false, false],
  [false, false, true, false, false, false, true, false, true, false, true],
  [false, false, false, false, false, false, true, false, false, false, true],
  [false, false, true, false, false, false, false, false, true, false, false]]
theorem flag_in : ∀ o ∈ List.range 31, flagL o ∈ flagAll := by decide +kernel
theorem name_ok : ∀ o ∈ List.range 31, (32 : UInt8) ∉ nameF o ∧ opIdx (nameF o) = o ∧ (nameF o).length ≤ 8 := by decide +kernel

theorem itoa_blank (n : Int) : (32 : UInt8) ∉ Lib.itoa n := itoa_not (by decide) (by decide)
theorem aitoa_blank (n : Int) : (32 : UInt8) ∉ 65 :: Lib.itoa n := by
  intro h
  simp only [List.mem_cons] at h
  rcases h with h | h
  · exact absurd h (by decide)
  · exact itoa_blank n h
theorem itoa_A (n : Int) : (65 : UInt8) ∉ Lib.itoa n := itoa_not (by decide) (by decide)
theorem itoa_slash (n : Int) : (47 : UInt8) ∉ Lib.itoa n := itoa_not (by decide) (by decide)

theorem f1T (i : Ins) : fldT i 1 = regT i.v := rfl
theorem f8T (i : Ins) : fldT i 8 = quoF i.s.data.toList := rfl
theorem f16T (i : Ins) : fldT i 16 = Lib.itoa i.n := rfl
theorem f128T (i : Ins) : fldT i 128 = Lib.itoa i.n := rfl
theorem f2T (i : Ins) : fldT i 2 = 65 :: Lib.itoa i.a := rfl
theorem f4T (i : Ins) : fldT i 4 = Lib.itoa i.a := rfl
theorem f32T (i : Ins) : fldT i 32 = quoF i.s.data.toList ++ [47] ++ Lib.itoa i.n := rfl
theorem f64T (i : Ins) : fldT i 64 = quoF i.s.data.toList ++ [47] ++ Lib.itoa i.n := rfl
theorem wA2 (x : List UInt8) (a : Int) : wordB (mkB (Lib.join [x, 65 :: Lib.itoa a] [32])) = (mkB x, mkB (65 :: Lib.itoa a)) := by
  rw [join_two]
  exact word_two x _ (aitoa_blank a)
theorem wA4 (x : List UInt8) (a : Int) : wordB (mkB (Lib.join [x, Lib.itoa a] [32])) = (mkB x, mkB (Lib.itoa a)) := by
  rw [join_two]
  exact word_two x _ (itoa_blank a)
theorem wA1 (a : Int) : wordB (mkB (Lib.join [Lib.itoa a] [32])) = (bE, mkB (Lib.itoa a)) := by
  rw [join_one]
  exact word_one _ (itoa_blank a)
theorem slQ (x : List UInt8) (n : Int) : (mkB (x ++ [47] ++ Lib.itoa n)).extract 0 (slashB (mkB (x ++ [47] ++ Lib.itoa n))) = mkB x ∧ trimB ((mkB (x ++ [47] ++ Lib.itoa n)).extract (slashB (mkB (x ++ [47] ++ Lib.itoa n))) (mkB (x ++ [47] ++ Lib.itoa n)).size) 47 = Lib.itoa n := by
  rw [slash_at x _ (itoa_slash n), List.append_assoc]
  refine ⟨ext_to x _, ?_⟩
  rw [ext_from x]
  exact trim_hit 47 _
theorem emptyB {s : ByteArray} (h : s.size = 0) : bE = s := by
  have h1 : s.data.toList = [] := List.eq_nil_of_length_eq_zero (by simpa using h)
  exact (mkB_ext h1).symm
theorem read_back {i : Ins} (h : insMay i = true) : readB i.op (mkB (Lib.join (fldL i) [32])) = i := by
  unfold insMay at h
  split at h
  · cases h
  · rename_i hn
    obtain ⟨op, s, n, v, a⟩ := i
    dsimp only at h hn ⊢
    have hs : s.size ≤ 64 := by omega
    have ho : 0 ≤ op ∧ op < 31 := by
      apply Decidable.byContradiction
      intro hc
      apply hn
      exact .inl (if_pos (by omega))
    obtain ⟨k, rfl⟩ : ∃ k : Nat, op = k := ⟨op.toNat, by omega⟩
    have hf := flag_in k (by simp; omega)
    have h104 : hasF k 104 = (hasF k 8 || hasF k 32 || hasF k 64) := by
      have : ∀ o ∈ List.range 31, hasF o 104 = (hasF o 8 || hasF o 32 || hasF o 64) := by decide +kernel
      exact this k (by simp; omega)
    simp only [Bool.and_eq_true] at h
    obtain ⟨⟨⟨⟨hv, _⟩, ha⟩, hn2⟩, hse⟩ := h
    unfold numberF at hn2
    dsimp only at hn2
    rw [h104] at hse
    clear hn ho h104
    unfold flagAll at hf
    simp only [flagL, List.map_cons, List.map_nil, List.mem_cons, List.cons.injEq, and_true, List.not_mem_nil, or_false] at hf
    rcases hf with hf | hf | hf | hf | hf | hf | hf | hf | hf | hf | hf | hf
    all_goals
      obtain ⟨f1, f2, f4, f8, f16, f32, f64, f128, f6, f144, f96⟩ := hf
      simp only [f1, f2, f4, f8, f16, f32, f64, f128, withinF, Bool.and_eq_true, decide_eq_true_eq, if_true, if_false, Bool.false_eq_true, Bool.or_false, Bool.or_true] at hv ha hn2 hse
      simp only [fldL, ordF, List.filter, f1, f2, f4, f8, f16, f32, f64, f128, List.map_cons, List.map_nil, readB, firstB, f6, f144, f96, if_true, if_false, Bool.false_eq_true]
    · rw [f1T, f2T, wA2]
      simp only [Ins.mk.injEq, true_and]
      exact ⟨emptyB hse, hn2.symm, unreg_back hv.1 hv.2, by rw [trim_hit]; exact atoi_itoa (by omega) (by omega)⟩
    · rw [f8T, f2T, wA2]
      simp only [Ins.mk.injEq, true_and]
      exact ⟨unq_back hs, hn2.symm, hv.symm, by rw [trim_hit]; exact atoi_itoa (by omega) (by omega)⟩
    · rw [f16T, f2T, wA2]
      simp only [Ins.mk.injEq, true_and]
      exact ⟨emptyB hse, by rw [mkB_list]; exact atoi_itoa hn2.1 hn2.2, hv.symm, by rw [trim_hit]; exact atoi_itoa (by omega) (by omega)⟩
    · rw [f32T, f2T, wA2]
      simp only [Ins.mk.injEq, true_and]
      exact ⟨by rw [(slQ _ n).1]; exact unq_back hs, by rw [(slQ _ n).2]; exact atoi_itoa (by omega) (by omega), hv.symm, by rw [trim_hit]; exact atoi_itoa (by omega) (by omega)⟩
    · rw [f1T, join_one]
      simp only [Ins.mk.injEq, true_and]
      exact ⟨emptyB hse, hn2.symm, unreg_back hv.1 hv.2, ha.symm⟩
    · rw [f8T, join_one]
      simp only [Ins.mk.injEq, true_and]
      exact ⟨unq_back hs, hn2.symm, hv.symm, ha.symm⟩
    · rw [f16T, join_one]
      simp only [Ins.mk.injEq, true_and]
      exact ⟨emptyB hse, by rw [mkB_list]; exact atoi_itoa hn2.1 hn2.2, hv.symm, ha.symm⟩
    · rw [f128T, join_one]
      simp only [Ins.mk.injEq, true_and]
      exact ⟨emptyB hse, by rw [mkB_list]; exact atoi_itoa (by omega) (by omega), hv.symm, ha.symm⟩
    · simp only [Ins.mk.injEq, true_and]
      exact ⟨emptyB hse, hn2.symm, hv.symm, ha.symm⟩
    · rw [f64T, f4T, wA4]
      simp only [Ins.mk.injEq, true_and]
      exact ⟨by rw [(slQ _ n).1]; exact unq_back hs, by rw [(slQ _ n).2]; exact atoi_itoa (by omega) (by omega), hv.symm, by rw [trim_miss (itoa_A a)]; exact atoi_itoa (by omega) (by omega)⟩
    · rw [f64T, join_one]
      simp only [Ins.mk.injEq, true_and]
      exact ⟨by rw [(slQ _ n).1]; exact unq_back hs, by rw [(slQ _ n).2]; exact atoi_itoa (by omega) (by omega), hv.symm, ha.symm⟩
    · rw [f4T, wA1]
      simp only [Ins.mk.injEq, true_and]
      exact ⟨emptyB hse, hn2.symm, hv.symm, by rw [trim_miss (itoa_A a)]; exact atoi_itoa (by omega) (by omega)⟩

theorem may_op {i : Ins} (h : insMay i = true) : ∃ k : Nat, i.op = k ∧ 1 ≤ k ∧ k < 31 := by
  unfold insMay at h
  split at h
  · cases h
  · rename_i hn
    by_cases c : i.op < 0 ∨ 31 ≤ i.op
    · exact absurd (.inl (if_pos c)) hn
    · have h0 : i.op ≠ 0 := by
        intro e
        apply hn
        rw [e]
        exact .inl rfl
      exact ⟨i.op.toNat, by omega, by omega, by omega⟩
/-- What was written is read. -/
theorem parse_text {i : Ins} (h : insMay i = true) : parseB (mkB (insT i)) = some i := by
  obtain ⟨k, hk, h1, h3⟩ := may_op h
  obtain ⟨n1, n2, _⟩ := name_ok k (by simp; omega)
  rw [← hk] at n1 n2
  have hT : insT i = if fldL i = [] then nameF i.op else nameF i.op ++ 32 :: Lib.join (fldL i) [32] := by
    unfold insT
    rw [if_pos h, insTs_eq, join_cons]
  have hc : Lib.cut (insT i) [32] = (nameF i.op, Lib.join (fldL i) [32], !(fldL i).isEmpty) := by
    rw [hT]
    split
    · rename_i e
      rw [cut_no _ n1, e]
      rfl
    · rename_i e
      rw [cut_sp _ _ n1]
      simp [e]
  have hh : headB (mkB (insT i)) = nameF i.op := by
    unfold headB
    rw [mkB_list, hc]
  have hr : restB (mkB (insT i)) = mkB (Lib.join (fldL i) [32]) := by
    unfold restB
    rw [mkB_list, hc]
    rfl
  unfold parseB
  rw [hh, hr, n2, if_neg (by omega), read_back h, if_pos (mkB_list _).symm]
theorem text_ne {i : Ins} (h : insMay i = true) : insT i ≠ [] := by
  obtain ⟨k, hk, h1, h3⟩ := may_op h
  have : ∀ o ∈ List.range 31, 1 ≤ o → nameF o ≠ [] := by decide +kernel
  have hn := this k (by simp; omega) h1
  rw [← hk] at hn
  unfold insT
  rw [if_pos h, insTs_eq, join_cons]
  split
  · exact hn
  · simp
theorem opIdx_nil : opIdx [] = 0 := by decide +kernel
/-- What is read has been written. -/
theorem parse_some {s : ByteArray} {i : Ins} (h : parseB s = some i) : insMay i = true ∧ s = mkB (insT i) := by
  unfold parseB at h
  split at h
  · cases h
  · rename_i h1
    split at h
    · rename_i h2
      injection h with h
      rw [h] at h2
      have hs : s = mkB (insT i) := mkB_ext h2.symm
      refine ⟨?_, hs⟩
      cases hm : insMay i
      · exfalso
        have e : insT i = [] := by unfold insT; rw [hm]; rfl
        rw [e] at h2
        apply h1
        have hh : headB s = [] := by
          unfold headB
          rw [← h2]
          rfl
        rw [hh, opIdx_nil]
        omega
      · rfl
    · cases h
theorem text_inj {i j : Ins} (hi : insMay i = true) (hj : insMay j = true) (h : insT i = insT j) : i = j := by
  have h1 := parse_text hi
  have h2 := parse_text hj
  rw [h, h2] at h1
  injection h1 with h1
  exact h1.symm
end Go.El
