/- Layer 11, plain: two terms that may be have one canonical text just if they are the same. No program in sight. -/
import Derived.Test.YtnedihbffiddpaaGreatDoorW13
namespace Go.El

/-! ## Names -/
/-- What stands behind a term's text. -/
def Stp (r : List UInt8) : Prop := ∀ c ∈ r.head?, c = 44 ∨ c = 41 ∨ c = 93 ∨ c = 124
/-- .. behind a name's. -/
def Stq (r : List UInt8) : Prop := ∀ c ∈ r.head?, c = 40 ∨ c = 44 ∨ c = 41 ∨ c = 93 ∨ c = 124
theorem Stp.q {r : List UInt8} (h : Stp r) : Stq r := fun c hc => .inr (h c hc)
theorem stq_par (r : List UInt8) : Stq (40 :: r) := fun c hc => .inl (by simpa using hc.symm)
theorem stp_cons {c : UInt8} (r : List UInt8) (h : c = 44 ∨ c = 41 ∨ c = 93 ∨ c = 124) : Stp (c :: r) := fun d hd => by
  have : c = d := by simpa using hd
  exact this ▸ h
theorem stp_nil : Stp [] := fun c hc => by simp at hc

theorem span_app {p : UInt8 → Bool} : ∀ {s s' r r' : List UInt8}, s.all p = true → s'.all p = true → (∀ c ∈ r.head?, p c = false) → (∀ c ∈ r'.head?, p c = false) → s ++ r = s' ++ r' → s = s' ∧ r = r'
  | [], [], r, r', _, _, _, _, h => ⟨rfl, by simpa using h⟩
  | [], c :: s', r, r', _, hs', hr, _, h => by
    rw [List.all_cons, Bool.and_eq_true] at hs'
    have hc := hr c (by rw [List.nil_append] at h; rw [h]; rfl)
    rw [hc] at hs'
    cases hs'.1
  | c :: s, [], r, r', hs, _, _, hr', h => by
    rw [List.all_cons, Bool.and_eq_true] at hs
    have hc := hr' c (by rw [List.nil_append] at h; rw [← h]; rfl)
    rw [hc] at hs
    cases hs.1
  | c :: s, d :: s', r, r', hs, hs', hr, hr', h => by
    rw [List.all_cons, Bool.and_eq_true] at hs hs'
    injection h with h1 h2
    obtain ⟨h3, h4⟩ := span_app hs.2 hs'.2 hr hr' h2
    exact ⟨by rw [h1, h3], h4⟩

theorem sgn_pre : ∀ c d : UInt8, (sgnF c).isPrefixOf (sgnF d) = true → c = d := by
  have key : ∀ n m : Fin 256, (sgnF (UInt8.ofNat n.val)).isPrefixOf (sgnF (UInt8.ofNat m.val)) = true → n = m := by decide +kernel
  intro c d h
  have := key ⟨c.toNat, c.toNat_lt⟩ ⟨d.toNat, d.toNat_lt⟩ (by simpa using h)
  have e : c.toNat = d.toNat := congrArg Fin.val this
  exact UInt8.toNat_inj.1 e
theorem sgn_ne (c : UInt8) : sgnF c ≠ [] ∧ (sgnF c).head? ≠ some 39 :=
  all_bytes (p := fun c => sgnF c ≠ [] ∧ (sgnF c).head? ≠ some 39) (by decide +kernel) c
theorem pre_app {a b x y : List UInt8} (h : a ++ x = b ++ y) : a.isPrefixOf b = true ∨ b.isPrefixOf a = true := by
  have h1 : a <+: b ++ y := ⟨x, h⟩
  have h2 : b <+: b ++ y := ⟨y, rfl⟩
  rcases List.prefix_or_prefix_of_prefix h1 h2 with h | h
  · exact .inl (List.isPrefixOf_iff_prefix.2 h)
  · exact .inr (List.isPrefixOf_iff_prefix.2 h)
theorem head_app {a x : List UInt8} (h : a ≠ []) : (a ++ x).head? = a.head? := by
  cases a with
  | nil => exact absurd rfl h
  | cons => rfl
theorem sgnW_inj : ∀ {s s' r r' : List UInt8}, sgnW s ++ 39 :: r = sgnW s' ++ 39 :: r' → s = s' ∧ r = r'
  | [], [], r, r', h => ⟨rfl, by simpa [sgnW] using h⟩
  | [], c :: s', r, r', h => by
    have h' : 39 :: r = sgnF c ++ (sgnW s' ++ 39 :: r') := by simpa [sgnW] using h
    have := congrArg List.head? h'
    rw [head_app (sgn_ne c).1] at this
    exact absurd this.symm (sgn_ne c).2
  | c :: s, [], r, r', h => by
    have h' : sgnF c ++ (sgnW s ++ 39 :: r) = 39 :: r' := by simpa [sgnW] using h
    have := congrArg List.head? h'
    rw [head_app (sgn_ne c).1] at this
    exact absurd this (sgn_ne c).2
  | c :: s, d :: s', r, r', h => by
    have h' : sgnF c ++ (sgnW s ++ 39 :: r) = sgnF d ++ (sgnW s' ++ 39 :: r') := by simpa [sgnW] using h
    have e : c = d := by
      rcases pre_app h' with h | h
      · exact sgn_pre c d h
      · exact (sgn_pre d c h).symm
    subst e
    obtain ⟨h1, h2⟩ := sgnW_inj (List.append_cancel_left h')
    exact ⟨by rw [h1], h2⟩

/-- What kind of name stands as it is. -/
theorem plain_kinds {s : List UInt8} (h : plainL s = true) : s = [33] ∨ s = [59] ∨ s = [91, 93] ∨ s = [123, 125] ∨ (∃ c r, s = c :: r ∧ isSmall c = true ∧ s.all isWord = true) ∨ (∃ c r, s = c :: r ∧ s.all isSign = true) := by
  unfold plainL at h
  split at h
  · rename_i hh
    rcases hh with h | h | h | h
    · exact .inl h
    · exact .inr (.inl h)
    · exact .inr (.inr (.inl h))
    · exact .inr (.inr (.inr (.inl h)))
  · split at h
    · cases h
    · rename_i hn
      split at h
      · cases h
      · cases s with
        | nil => exact absurd (Or.inl rfl) hn
        | cons c r =>
          rw [Bool.or_eq_true, Bool.and_eq_true] at h
          rcases h with h | h
          · exact .inr (.inr (.inr (.inr (.inl ⟨c, r, rfl, h.1, h.2⟩))))
          · exact .inr (.inr (.inr (.inr (.inr ⟨c, r, rfl, h⟩))))
/-- The first bytes of names' texts. -/
def cls (c : UInt8) : Nat := if c = 33 then 0 else if c = 59 then 1 else if c = 91 then 2 else if c = 123 then 3 else if isSmall c then 4 else if isSign c then 5 else if c = 39 then 6 else if isDigit c then 7 else if c = 95 then 8 else 9
theorem cls_small {c : UInt8} (h : isSmall c = true) : cls c = 4 := by
  have := all_bytes (p := fun c => (!isSmall c || cls c == 4) = true) (by decide +kernel) c
  rw [h] at this
  simpa using this
theorem cls_sign {c : UInt8} (h : isSign c = true) : cls c = 5 := by
  have := all_bytes (p := fun c => (!isSign c || cls c == 5) = true) (by decide +kernel) c
  rw [h] at this
  simpa using this
theorem cls_digit {c : UInt8} (h : isDigit c = true) : cls c = 7 := by
  have := all_bytes (p := fun c => (!isDigit c || cls c == 7) = true) (by decide +kernel) c
  rw [h] at this
  simpa using this
/-- A name's text by its first byte. -/
theorem quo_cases (s : List UInt8) : ∃ c r, quoF s = c :: r ∧ ((c = 33 ∧ s = [33] ∧ r = []) ∨ (c = 59 ∧ s = [59] ∧ r = []) ∨ (c = 91 ∧ s = [91, 93] ∧ r = [93]) ∨ (c = 123 ∧ s = [123, 125] ∧ r = [125]) ∨ (isSmall c = true ∧ s = c :: r ∧ s.all isWord = true) ∨ (isSign c = true ∧ s = c :: r ∧ s.all isSign = true) ∨ (c = 39 ∧ r = sgnW s ++ [39])) := by
  unfold quoF
  by_cases h : plainL s = true
  · rw [if_pos h]
    rcases plain_kinds h with e | e | e | e | ⟨c, r, e, h1, h2⟩ | ⟨c, r, e, h1⟩
    · subst e; exact ⟨_, _, rfl, .inl ⟨rfl, rfl, rfl⟩⟩
    · subst e; exact ⟨_, _, rfl, .inr (.inl ⟨rfl, rfl, rfl⟩)⟩
    · subst e; exact ⟨_, _, rfl, .inr (.inr (.inl ⟨rfl, rfl, rfl⟩))⟩
    · subst e; exact ⟨_, _, rfl, .inr (.inr (.inr (.inl ⟨rfl, rfl, rfl⟩)))⟩
    · subst e; exact ⟨_, _, rfl, .inr (.inr (.inr (.inr (.inl ⟨h1, rfl, h2⟩))))⟩
    · subst e
      have hc : isSign c = true := by
        rw [List.all_cons, Bool.and_eq_true] at h1
        exact h1.1
      exact ⟨_, _, rfl, .inr (.inr (.inr (.inr (.inr (.inl ⟨hc, rfl, h1⟩)))))⟩
  · rw [if_neg h]
    exact ⟨39, sgnW s ++ [39], rfl, .inr (.inr (.inr (.inr (.inr (.inr ⟨rfl, rfl⟩)))))⟩
theorem stq_word {r : List UInt8} (h : Stq r) : ∀ c ∈ r.head?, isWord c = false := by
  intro c hc
  rcases h c hc with e | e | e | e | e <;> subst e <;> decide
theorem stq_sign {r : List UInt8} (h : Stq r) : ∀ c ∈ r.head?, isSign c = false := by
  intro c hc
  rcases h c hc with e | e | e | e | e <;> subst e <;> decide
theorem stp_digit {r : List UInt8} (h : Stp r) : ∀ c ∈ r.head?, isDigit c = false := by
  intro c hc
  rcases h c hc with e | e | e | e <;> subst e <;> decide
theorem cls_of {c : UInt8} {s r : List UInt8} (h : (c = 33 ∧ s = [33] ∧ r = []) ∨ (c = 59 ∧ s = [59] ∧ r = []) ∨ (c = 91 ∧ s = [91, 93] ∧ r = [93]) ∨ (c = 123 ∧ s = [123, 125] ∧ r = [125]) ∨ (isSmall c = true ∧ s = c :: r ∧ s.all isWord = true) ∨ (isSign c = true ∧ s = c :: r ∧ s.all isSign = true) ∨ (c = 39 ∧ r = sgnW s ++ [39])) :
    (cls c = 0 ∧ s = [33] ∧ r = []) ∨ (cls c = 1 ∧ s = [59] ∧ r = []) ∨ (cls c = 2 ∧ s = [91, 93] ∧ r = [93]) ∨ (cls c = 3 ∧ s = [123, 125] ∧ r = [125]) ∨ (cls c = 4 ∧ s = c :: r ∧ s.all isWord = true) ∨ (cls c = 5 ∧ s = c :: r ∧ s.all isSign = true) ∨ (cls c = 6 ∧ r = sgnW s ++ [39]) := by
  rcases h with ⟨e, h⟩ | ⟨e, h⟩ | ⟨e, h⟩ | ⟨e, h⟩ | ⟨e, h⟩ | ⟨e, h⟩ | ⟨e, h⟩
  · exact .inl ⟨by rw [e]; decide, h⟩
  · exact .inr (.inl ⟨by rw [e]; decide, h⟩)
  · exact .inr (.inr (.inl ⟨by rw [e]; decide, h⟩))
  · exact .inr (.inr (.inr (.inl ⟨by rw [e]; decide, h⟩)))
  · exact .inr (.inr (.inr (.inr (.inl ⟨cls_small e, h⟩))))
  · exact .inr (.inr (.inr (.inr (.inr (.inl ⟨cls_sign e, h⟩)))))
  · exact .inr (.inr (.inr (.inr (.inr (.inr ⟨by rw [e]; decide, h⟩)))))

theorem quo_inj {s s' r r' : List UInt8} (hr : Stq r) (hr' : Stq r') (h : quoF s ++ r = quoF s' ++ r') : s = s' ∧ r = r' := by
  obtain ⟨c, q, e, hc⟩ := quo_cases s
  obtain ⟨c', q', e', hc'⟩ := quo_cases s'
  have h0 := h
  rw [e, e', List.cons_append, List.cons_append] at h
  injection h with h1 h2
  subst h1
  have k := cls_of hc
  have k' := cls_of hc'
  rcases k with ⟨n, k⟩ | ⟨n, k⟩ | ⟨n, k⟩ | ⟨n, k⟩ | ⟨n, k⟩ | ⟨n, k⟩ | ⟨n, k⟩ <;> rcases k' with ⟨n', k'⟩ | ⟨n', k'⟩ | ⟨n', k'⟩ | ⟨n', k'⟩ | ⟨n', k'⟩ | ⟨n', k'⟩ | ⟨n', k'⟩ <;> first | (exfalso; omega) | skip
  · obtain ⟨k1, k2⟩ := k
    obtain ⟨k3, k4⟩ := k'
    rw [k2, k4] at h2
    exact ⟨by rw [k1, k3], by simpa using h2⟩
  · obtain ⟨k1, k2⟩ := k
    obtain ⟨k3, k4⟩ := k'
    rw [k2, k4] at h2
    exact ⟨by rw [k1, k3], by simpa using h2⟩
  · obtain ⟨k1, k2⟩ := k
    obtain ⟨k3, k4⟩ := k'
    rw [k2, k4] at h2
    exact ⟨by rw [k1, k3], by simpa using h2⟩
  · obtain ⟨k1, k2⟩ := k
    obtain ⟨k3, k4⟩ := k'
    rw [k2, k4] at h2
    exact ⟨by rw [k1, k3], by simpa using h2⟩
  · refine span_app k.2 k'.2 (stq_word hr) (stq_word hr') ?_
    rw [k.1, k'.1, List.cons_append, List.cons_append, h2]
  · refine span_app k.2 k'.2 (stq_sign hr) (stq_sign hr') ?_
    rw [k.1, k'.1, List.cons_append, List.cons_append, h2]
  · rw [k, k', List.append_assoc, List.append_assoc] at h2
    exact sgnW_inj h2

/-! ## Numbers -/
theorem dig_all (u : Nat) : (Lib.decDigits u).all isDigit = true ∧ Lib.decDigits u ≠ [] := by
  induction u using Nat.strongRecOn with
  | _ u ih =>
    have hd : ∀ k : Fin 10, isDigit (UInt8.ofNat (48 + k.val)) = true := by decide
    rw [Lib.decDigits]
    split
    · rename_i h
      exact ⟨by simpa using hd ⟨u, h⟩, by simp⟩
    · have := ih (u / 10) (by omega)
      refine ⟨?_, by simp⟩
      rw [List.all_append, this.1]
      simpa using hd ⟨u % 10, Nat.mod_lt _ (by omega)⟩
theorem dig_num (u : Nat) : numV (Lib.decDigits u) = u := by
  induction u using Nat.strongRecOn with
  | _ u ih =>
    have hd : ∀ k : Fin 10, (UInt8.ofNat (48 + k.val)).toNat - 48 = k.val := by decide
    rw [Lib.decDigits]
    split
    · rename_i h
      have := hd ⟨u, h⟩
      simp only [numV, List.foldl_cons, List.foldl_nil] at *
      omega
    · have h1 := ih (u / 10) (by omega)
      have h2 : (UInt8.ofNat (48 + u % 10)).toNat - 48 = u % 10 := hd ⟨u % 10, Nat.mod_lt _ (by omega)⟩
      have h3 : 48 ≤ (UInt8.ofNat (48 + u % 10)).toNat := by
        have : ∀ k : Fin 10, 48 ≤ (UInt8.ofNat (48 + k.val)).toNat := by decide
        exact this ⟨u % 10, Nat.mod_lt _ (by omega)⟩
      unfold numV at *
      rw [List.foldl_append, h1]
      simp only [List.foldl_cons, List.foldl_nil]
      omega
theorem dig_inj {u v : Nat} {r r' : List UInt8} (hr : Stp r) (hr' : Stp r') (h : Lib.decDigits u ++ r = Lib.decDigits v ++ r') : u = v ∧ r = r' := by
  obtain ⟨h1, h2⟩ := span_app (dig_all u).1 (dig_all v).1 (stp_digit hr) (stp_digit hr') h
  exact ⟨by rw [← dig_num u, h1, dig_num v], h2⟩
theorem dig_head (u : Nat) : ∃ c r, Lib.decDigits u = c :: r ∧ isDigit c = true := by
  have := dig_all u
  cases h : Lib.decDigits u with
  | nil => exact absurd h this.2
  | cons c r =>
    rw [h, List.all_cons, Bool.and_eq_true] at this
    exact ⟨c, r, rfl, this.1.1⟩
theorem itoa_inj {m n : Int} {r r' : List UInt8} (hr : Stp r) (hr' : Stp r') (h : Lib.itoa m ++ r = Lib.itoa n ++ r') : m = n ∧ r = r' := by
  have h45 : isDigit 45 = false := by decide
  unfold Lib.itoa at h
  split at h <;> split at h
  · injection h with _ h
    obtain ⟨h1, h2⟩ := dig_inj hr hr' h
    exact ⟨by omega, h2⟩
  · obtain ⟨c, q, e, hc⟩ := dig_head n.toNat
    rw [e] at h
    injection h with h _
    rw [← h, h45] at hc
    cases hc
  · obtain ⟨c, q, e, hc⟩ := dig_head m.toNat
    rw [e] at h
    injection h with h _
    rw [h, h45] at hc
    cases hc
  · obtain ⟨h1, h2⟩ := dig_inj hr hr' h
    exact ⟨by omega, h2⟩
/-- An integer's text is no name's. -/
theorem itoa_quo {n : Int} {s r r' : List UInt8} (hr' : Stq r') (h : Lib.itoa n ++ r = quoF s ++ r') : False := by
  obtain ⟨c, q, e, hc⟩ := quo_cases s
  have k := cls_of hc
  rw [e] at h
  unfold Lib.itoa at h
  split at h
  · injection h with h1 h2
    have h5 : cls c = 5 := by rw [← h1]; decide
    obtain ⟨d, t, e2, hd⟩ := dig_head n.natAbs
    rw [e2] at h2
    rcases k with ⟨n', k⟩ | ⟨n', k⟩ | ⟨n', k⟩ | ⟨n', k⟩ | ⟨n', k⟩ | ⟨n', k⟩ | ⟨n', k⟩ <;> first | (exfalso; omega) | skip
    obtain ⟨k1, k2⟩ := k
    rw [k1, List.all_cons, Bool.and_eq_true] at k2
    cases q with
    | nil =>
      have h3 : d :: (t ++ r) = r' := h2
      have := hr' d (by rw [← h3]; rfl)
      rcases this with e | e | e | e | e <;> rw [e] at hd <;> exact absurd hd (by decide)
    | cons x q =>
      injection h2 with h2 _
      have hx := k2.2
      rw [List.all_cons, Bool.and_eq_true] at hx
      have a := cls_sign hx.1
      rw [← h2, cls_digit hd] at a
      omega
  · obtain ⟨d, t, e2, hd⟩ := dig_head n.toNat
    rw [e2] at h
    injection h with h1 _
    have a := cls_digit hd
    rw [h1] at a
    rcases k with ⟨n', _⟩ | ⟨n', _⟩ | ⟨n', _⟩ | ⟨n', _⟩ | ⟨n', _⟩ | ⟨n', _⟩ | ⟨n', _⟩ <;> omega
theorem itoa_cls (n : Int) : ∃ c r, Lib.itoa n = c :: r ∧ (cls c = 7 ∨ cls c = 5) := by
  unfold Lib.itoa
  split
  · exact ⟨45, _, rfl, .inr (by decide)⟩
  · obtain ⟨d, t, e, hd⟩ := dig_head n.toNat
    exact ⟨d, t, e, .inl (cls_digit hd)⟩

end Go.El

/- Layer 11, plain: two terms that may be have one canonical text just if they are the same. No program in sight. -/
namespace Go.El

theorem bytes_ext {s s' : ByteArray} (h : s.data.toList = s'.data.toList) : s = s' := by
  rw [← Lib.mk_data s, ← Lib.mk_data s', h]

/-- The shapes of canonical texts. -/
inductive Shp : Tm → List UInt8 → Prop
  | var (n : Int) : 0 ≤ n → Shp (.mk 1 n ⟨#[]⟩ []) (95 :: Lib.decDigits n.toNat)
  | int (n : Int) : Shp (.mk 2 n ⟨#[]⟩ []) (Lib.itoa n)
  | atom (s : ByteArray) : Shp (.mk 3 0 s []) (quoF s.data.toList)
  | list (s : ByteArray) (p q : Tm) : s.data.toList = [46] → okT p = true → okT q = true → Shp (.mk 4 0 s [p, q]) (91 :: (txT none p 999 ++ endT none q))
  | comp (s : ByteArray) (a : Tm) (l : List Tm) : isLs 4 s (l.length + 1) = false → okT a = true → okL l = true → Shp (.mk 4 0 s (a :: l)) (quoF s.data.toList ++ 40 :: (txT none a 999 ++ (rrT none l ++ [41])))

theorem tx_var1 (n : Int) (s : ByteArray) (l : List Tm) (m : Int) : txT none (.mk 1 n s l) m = 95 :: Lib.itoa n := by
  have : isLs 1 s l.length = false := decide_eq_false (by simp)
  simp only [txT, this, hdF]
  simp
theorem tx_int1 (n : Int) (s : ByteArray) (l : List Tm) (m : Int) : txT none (.mk 2 n s l) m = Lib.itoa n := by
  have : isLs 2 s l.length = false := decide_eq_false (by simp)
  simp only [txT, this, hdF]
  simp
theorem tx_atom1 (n : Int) (s : ByteArray) (l : List Tm) (m : Int) : txT none (.mk 3 n s l) m = quoF s.data.toList := by
  have : isLs 3 s l.length = false := decide_eq_false (by simp)
  simp only [txT, this, hdF]
  simp
theorem tx_comp1 {n : Int} {s : ByteArray} {a : Tm} {l : List Tm} {m : Int} (h : isLs 4 s (a :: l).length = false) : txT none (.mk 4 n s (a :: l)) m = quoF s.data.toList ++ 40 :: (txT none a 999 ++ (rrT none l ++ [41])) := by
  simp only [txT, h, hdF, Bool.false_eq_true, if_false, rwT]
  rw [if_neg (by decide), if_neg (by decide), if_neg (by decide)]
  simp
theorem tx_list1 {n : Int} {s : ByteArray} {p q : Tm} {m : Int} (h : isLs 4 s [p, q].length = true) : txT none (.mk 4 n s [p, q]) m = 91 :: (txT none p 999 ++ endT none q) := by
  simp only [txT, h, if_true, lsT, lrT]
  rfl

theorem len0 {s : ByteArray} (h : s.size = 0) : s = ⟨#[]⟩ := by
  refine bytes_ext ?_
  have : s.data.toList.length = 0 := by simpa using h
  simpa using List.eq_nil_of_length_eq_zero this
theorem shp_of {t : Tm} (m : Int) (h : okT t = true) : Shp t (txT none t m) := by
  cases t with
  | mk k n s l =>
    simp only [okT, Bool.and_eq_true] at h
    obtain ⟨hp, hl⟩ := h
    unfold partK at hp
    by_cases h1 : k = 1
    · subst h1
      have := of_decide_eq_true hp
      obtain ⟨a, b, c, d⟩ := this
      have e1 := len0 c
      have e2 := List.eq_nil_of_length_eq_zero d
      subst e1 e2
      have := Shp.var n a
      rw [tx_var1]
      unfold Lib.itoa
      rw [if_neg (by omega)]
      exact this
    · rw [if_neg h1] at hp
      by_cases h2 : k = 2
      · subst h2
        rw [if_pos rfl] at hp
        obtain ⟨a, b, c, d⟩ := of_decide_eq_true hp
        have e1 := len0 c
        have e2 := List.eq_nil_of_length_eq_zero d
        subst e1 e2
        have := Shp.int n
        rw [tx_int1]
        exact this
      · rw [if_neg h2] at hp
        by_cases h3 : k = 3
        · subst h3
          rw [if_pos rfl] at hp
          obtain ⟨a, b, d⟩ := of_decide_eq_true hp
          have e2 := List.eq_nil_of_length_eq_zero d
          subst a e2
          have := Shp.atom s
          rw [tx_atom1]
          exact this
        · rw [if_neg h3] at hp
          by_cases h4 : k = 4
          · subst h4
            rw [if_pos rfl] at hp
            obtain ⟨a, b, c, d⟩ := of_decide_eq_true hp
            subst a
            cases hi : isLs 4 s l.length
            · cases l with
              | nil => simp at c
              | cons x l =>
                simp only [okL, Bool.and_eq_true] at hl
                have := Shp.comp s x l (by simpa using hi) hl.1 hl.2
                rw [tx_comp1 hi]
                exact this
            · have hd := of_decide_eq_true hi
              match l, hd.2.2, hl with
              | [p, q], _, hl =>
                simp only [okL, Bool.and_eq_true] at hl
                have := Shp.list s p q hd.2.1 hl.1 hl.2.1
                rw [tx_list1 hi]
                exact this
          · rw [if_neg h4] at hp
            cases hp
theorem end_of {t : Tm} (h : okT t = true) : (∃ s p q, t = .mk 4 0 s [p, q] ∧ s.data.toList = [46] ∧ okT p = true ∧ okT q = true ∧ endT none t = 44 :: (txT none p 999 ++ endT none q)) ∨ (t = .mk 3 0 ⟨#[91, 93]⟩ [] ∧ endT none t = [93]) ∨ (endT none t = 124 :: (txT none t 999 ++ [93])) := by
  cases t with
  | mk k n s l =>
    cases hi : isLs k s l.length
    · by_cases h3 : k = 3 ∧ s.data.toList = [91, 93]
      · refine .inr (.inl ⟨?_, ?_⟩)
        · obtain ⟨e, hs⟩ := h3
          subst e
          have hs : s = ⟨#[91, 93]⟩ := bytes_ext hs
          subst hs
          simp only [okT, Bool.and_eq_true] at h
          have hp := h.1
          unfold partK at hp
          rw [if_neg (by decide), if_neg (by decide), if_pos rfl] at hp
          obtain ⟨a, b, d⟩ := of_decide_eq_true hp
          have e2 := List.eq_nil_of_length_eq_zero d
          subst a e2
          rfl
        · simp only [endT]
          rw [hi, if_neg (by decide), if_pos h3]
      · refine .inr (.inr ?_)
        simp only [endT, txT]
        rw [hi, if_neg (by decide), if_neg h3, if_neg (by decide)]
        simp
    · have hd := of_decide_eq_true hi
      obtain ⟨e, hs, hl⟩ := hd
      subst e
      match l, hl, h, hi with
      | [p, q], _, h, hi =>
        simp only [okT, okL, Bool.and_eq_true] at h
        have hp := h.1
        unfold partK at hp
        rw [if_neg (by decide), if_neg (by decide), if_neg (by decide), if_pos rfl] at hp
        obtain ⟨a, _⟩ := of_decide_eq_true hp
        subst a
        refine .inl ⟨s, p, q, rfl, hs, h.2.1, h.2.2.1, ?_⟩
        simp only [endT]
        rw [hi, if_pos rfl]
        simp only [lsT, lrT]
        rfl

theorem quo_cls (s : List UInt8) : ∃ c r, quoF s = c :: r ∧ cls c ≤ 6 := by
  obtain ⟨c, q, e, hc⟩ := quo_cases s
  have k := cls_of hc
  refine ⟨c, q, e, ?_⟩
  rcases k with ⟨n, _⟩ | ⟨n, _⟩ | ⟨n, _⟩ | ⟨n, _⟩ | ⟨n, _⟩ | ⟨n, _⟩ | ⟨n, _⟩ <;> omega
theorem tx_cls {t : Tm} {x : List UInt8} (h : Shp t x) : ∃ c r, x = c :: r ∧ cls c ≤ 8 := by
  cases h with
  | var n _ => exact ⟨95, _, rfl, by decide⟩
  | int n =>
    obtain ⟨c, r, e, h⟩ := itoa_cls n
    exact ⟨c, r, e, by omega⟩
  | atom s =>
    obtain ⟨c, r, e, h⟩ := quo_cls s.data.toList
    exact ⟨c, r, e, by omega⟩
  | list s p q => exact ⟨91, _, rfl, by decide⟩
  | comp s a l =>
    obtain ⟨c, r, e, h⟩ := quo_cls s.data.toList
    exact ⟨c, _, by rw [e]; rfl, by omega⟩
theorem no_open {s r y : List UInt8} {t : Tm} {x : List UInt8} (hx : Shp t x) (h : quoF s ++ r = 91 :: (x ++ y)) : False := by
  obtain ⟨c, q, e, hc⟩ := quo_cases s
  have k := cls_of hc
  obtain ⟨d, z, e2, hd⟩ := tx_cls hx
  rw [e, e2] at h
  injection h with h1 h2
  have h5 : cls c = 2 := by rw [h1]; decide
  rcases k with ⟨n, k⟩ | ⟨n, k⟩ | ⟨n, k⟩ | ⟨n, k⟩ | ⟨n, k⟩ | ⟨n, k⟩ | ⟨n, k⟩ <;> first | (exfalso; omega) | skip
  rw [k.2] at h2
  injection h2 with h2 _
  rw [← h2] at hd
  exact absurd hd (by decide)
theorem no_var {s r y : List UInt8} (h : quoF s ++ r = 95 :: y) : False := by
  obtain ⟨c, q, e, hc⟩ := quo_cls s
  rw [e] at h
  injection h with h1 _
  rw [h1] at hc
  exact absurd hc (by decide)
theorem no_int {n : Int} {c : UInt8} {r y : List UInt8} (hc : c = 95 ∨ c = 91) (h : Lib.itoa n ++ r = c :: y) : False := by
  obtain ⟨d, q, e, hd⟩ := itoa_cls n
  rw [e] at h
  injection h with h1 _
  have a : cls 95 = 8 := by decide
  have b : cls 91 = 2 := by decide
  rcases hc with hc | hc <;> subst hc <;> rw [h1] at hd <;> omega
theorem no_par {r y : List UInt8} (hr : Stp r) (h : r = 40 :: y) : False := by
  have := hr 40 (by rw [h]; rfl)
  revert this
  decide
theorem end_stp {t : Tm} (h : okT t = true) (r : List UInt8) : Stp (endT none t ++ r) := by
  rcases end_of h with ⟨s, p, q, _, _, _, _, e⟩ | ⟨_, e⟩ | e
  · rw [e]; exact stp_cons _ (.inl rfl)
  · rw [e]; exact stp_cons _ (.inr (.inr (.inl rfl)))
  · rw [e]; exact stp_cons _ (.inr (.inr (.inr rfl)))
theorem row_stp (l : List Tm) (r : List UInt8) : Stp (rrT none l ++ 41 :: r) := by
  cases l with
  | nil => exact stp_cons _ (.inr (.inl rfl))
  | cons a l =>
    simp only [rrT]
    exact stp_cons _ (.inl rfl)

def DecT (N : Nat) : Prop := ∀ (a b : Tm) (m m' : Int) (r r' : List UInt8), szT a ≤ N → okT a = true → okT b = true → Stp r → Stp r' → txT none a m ++ r = txT none b m' ++ r' → a = b ∧ r = r'
def DecE (N : Nat) : Prop := ∀ (a b : Tm) (r r' : List UInt8), szT a ≤ N → okT a = true → okT b = true → endT none a ++ r = endT none b ++ r' → a = b ∧ r = r'
theorem dec_row {N : Nat} (H : DecT N) : ∀ (l l' : List Tm) (r r' : List UInt8), szL l ≤ N → okL l = true → okL l' = true → rrT none l ++ 41 :: r = rrT none l' ++ 41 :: r' → l = l' ∧ r = r'
  | [], [], r, r', _, _, _, h => ⟨rfl, by simpa [rrT] using h⟩
  | [], b :: l', r, r', _, _, _, h => by
    simp only [rrT] at h
    injection h with h _
    exact absurd h (by decide)
  | a :: l, [], r, r', _, _, _, h => by
    simp only [rrT] at h
    injection h with h _
    exact absurd h (by decide)
  | a :: l, b :: l', r, r', hs, ho, ho', h => by
    simp only [okL, Bool.and_eq_true] at ho ho'
    simp only [szL] at hs
    simp only [rrT, List.append_assoc, List.cons_append, List.nil_append] at h
    injection h with _ h
    obtain ⟨h1, h2⟩ := H a b 999 999 _ _ (by omega) ho.1 ho'.1 (row_stp l r) (row_stp l' r') h
    obtain ⟨h3, h4⟩ := dec_row H l l' r r' (by omega) ho.2 ho'.2 h2
    exact ⟨by rw [h1, h3], h4⟩
theorem dec_t {N : Nat} (H : DecT N) (HE : DecE N) : DecT (N + 1) := by
  intro a b m m' r r' hs ho ho' hr hr' h
  have ka := shp_of m ho
  have kb := shp_of m' ho'
  generalize txT none a m = x at *
  generalize txT none b m' = y at *
  cases ka with
  | var n hn =>
    cases kb with
    | var n' hn' =>
      injection h with _ h
      obtain ⟨h1, h2⟩ := dig_inj hr hr' h
      have : n = n' := by omega
      exact ⟨by rw [this], h2⟩
    | int n' => exact (no_int (.inl rfl) h.symm).elim
    | atom s => exact (no_var h.symm).elim
    | list s p q => injection h with h _; exact absurd h (by decide)
    | comp s a l =>
      rw [List.append_assoc (quoF s.data.toList)] at h
      exact (no_var h.symm).elim
  | int n =>
    cases kb with
    | var n' hn' => exact (no_int (.inl rfl) h).elim
    | int n' =>
      obtain ⟨h1, h2⟩ := itoa_inj hr hr' h
      exact ⟨by rw [h1], h2⟩
    | atom s => exact (itoa_quo hr'.q h).elim
    | list s p q => exact (no_int (.inr rfl) h).elim
    | comp s a l =>
      rw [List.append_assoc (quoF s.data.toList)] at h
      exact (itoa_quo (stq_par _) h).elim
  | atom s =>
    cases kb with
    | var n' hn' => exact (no_var h).elim
    | int n' => exact (itoa_quo hr.q h.symm).elim
    | atom s' =>
      obtain ⟨h1, h2⟩ := quo_inj hr.q hr'.q h
      exact ⟨by rw [bytes_ext h1], h2⟩
    | list s' p q _ hp =>
      rw [List.cons_append, List.append_assoc] at h
      exact (no_open (shp_of 999 hp) h).elim
    | comp s' a l =>
      rw [List.append_assoc (quoF s'.data.toList)] at h
      obtain ⟨h1, h2⟩ := quo_inj hr.q (stq_par _) h
      exact (no_par hr h2).elim
  | list s p q hs1 hp hq =>
    cases kb with
    | var n' hn' => injection h with h _; exact absurd h (by decide)
    | int n' => exact (no_int (.inr rfl) h.symm).elim
    | atom s' =>
      rw [List.cons_append, List.append_assoc] at h
      exact (no_open (shp_of 999 hp) h.symm).elim
    | list s' p' q' hs2 hp' hq' =>
      simp only [szT, szL] at hs
      rw [List.cons_append, List.append_assoc, List.cons_append, List.append_assoc] at h
      injection h with _ h
      obtain ⟨h1, h2⟩ := H p p' 999 999 _ _ (by omega) hp hp' (end_stp hq _) (end_stp hq' _) h
      obtain ⟨h3, h4⟩ := HE q q' _ _ (by omega) hq hq' h2
      have h5 : s = s' := bytes_ext (by rw [hs1, hs2])
      exact ⟨by rw [h1, h3, h5], h4⟩
    | comp s' a l =>
      rw [List.cons_append, List.append_assoc, List.append_assoc (quoF s'.data.toList)] at h
      exact (no_open (shp_of 999 hp) h.symm).elim
  | comp s a l hn ha hl =>
    rw [List.append_assoc (quoF s.data.toList)] at h
    cases kb with
    | var n' hn' => exact (no_var h).elim
    | int n' => exact (itoa_quo (stq_par _) h.symm).elim
    | atom s' =>
      obtain ⟨h1, h2⟩ := quo_inj (stq_par _) hr'.q h
      exact (no_par hr' h2.symm).elim
    | list s' p q _ hp =>
      rw [List.cons_append, List.cons_append, List.append_assoc (txT none p 999)] at h
      exact (no_open (shp_of 999 hp) h).elim
    | comp s' a' l' hn' ha' hl' =>
      simp only [szT, szL] at hs
      rw [List.append_assoc (quoF s'.data.toList)] at h
      rw [List.cons_append, List.cons_append] at h
      obtain ⟨h1, h2⟩ := quo_inj (stq_par _) (stq_par _) h
      simp only [List.append_assoc, List.cons_append, List.nil_append] at h2
      injection h2 with _ h2
      obtain ⟨h3, h4⟩ := H a a' 999 999 _ _ (by omega) ha ha' (row_stp l r) (row_stp l' r') h2
      obtain ⟨h5, h6⟩ := dec_row H l l' r r' (by omega) hl hl' h4
      exact ⟨by rw [bytes_ext h1, h3, h5], h6⟩
theorem dec_e {N : Nat} (H : DecT (N + 1)) (HE : DecE N) : DecE (N + 1) := by
  intro a b r r' hs ho ho' h
  rcases end_of ho with ⟨s, p, q, e, hs1, hp, hq, ea⟩ | ⟨e, ea⟩ | ea <;> rcases end_of ho' with ⟨s', p', q', e', hs2, hp', hq', eb⟩ | ⟨e', eb⟩ | eb <;> rw [ea, eb] at h
  · rw [e] at hs
    simp only [szT, szL] at hs
    rw [List.cons_append, List.append_assoc, List.cons_append, List.append_assoc] at h
    injection h with _ h
    obtain ⟨h1, h2⟩ := H p p' 999 999 _ _ (by omega) hp hp' (end_stp hq _) (end_stp hq' _) h
    obtain ⟨h3, h4⟩ := HE q q' _ _ (by omega) hq hq' h2
    have h5 : s = s' := bytes_ext (by rw [hs1, hs2])
    exact ⟨by rw [e, e', h1, h3, h5], h4⟩
  · injection h with h _; exact absurd h (by decide)
  · injection h with h _; exact absurd h (by decide)
  · injection h with h _; exact absurd h (by decide)
  · exact ⟨by rw [e, e'], by simpa using h⟩
  · injection h with h _; exact absurd h (by decide)
  · injection h with h _; exact absurd h (by decide)
  · injection h with h _; exact absurd h (by decide)
  · simp only [List.cons_append, List.append_assoc, List.nil_append] at h
    injection h with _ h
    obtain ⟨h1, h2⟩ := H a b 999 999 _ _ hs ho ho' (stp_cons _ (.inr (.inr (.inl rfl)))) (stp_cons _ (.inr (.inr (.inl rfl)))) h
    exact ⟨h1, by simpa using h2⟩
theorem dec_all : ∀ N, DecT N ∧ DecE N
  | 0 => ⟨fun a _ _ _ _ _ h => absurd h (by have := szT_pos a; omega), fun a _ _ _ h => absurd h (by have := szT_pos a; omega)⟩
  | N + 1 => by
    obtain ⟨h1, h2⟩ := dec_all N
    have h3 := dec_t h1 h2
    exact ⟨h3, dec_e h3 h2⟩
/-- One canonical text, one term. -/
theorem tx_inj {a b : Tm} {m m' : Int} (ha : okT a = true) (hb : okT b = true) (h : txT none a m = txT none b m') : a = b :=
  ((dec_all (szT a)).1 a b m m' [] [] (Nat.le_refl _) ha hb stp_nil stp_nil (by rw [h])).1

/-! ## The document's comparison -/
mutual
def exT : Tm → Tm → Bool
  | .mk k n s l, .mk k' n' s' l' => decide (k = k' ∧ n = n' ∧ s = s' ∧ l.length = l'.length) && exL l l'
def exL : List Tm → List Tm → Bool
  | a :: l, b :: l' => exT a b && exL l l'
  | _, _ => true
end
mutual
theorem exT_refl : ∀ t, exT t t = true
  | .mk k n s l => by simp only [exT, and_self, decide_true, Bool.true_and]; exact exL_refl l
theorem exL_refl : ∀ l, exL l l = true
  | [] => rfl
  | a :: l => by simp only [exL, exT_refl a, exL_refl l, Bool.and_self]
end
mutual
theorem exT_eq : ∀ a b, exT a b = true → a = b
  | .mk k n s l, .mk k' n' s' l', h => by
    simp only [exT, Bool.and_eq_true, decide_eq_true_eq] at h
    obtain ⟨⟨h1, h2, h3, h4⟩, h5⟩ := h
    rw [h1, h2, h3, exL_eq l l' h4 h5]
theorem exL_eq : ∀ l l', l.length = l'.length → exL l l' = true → l = l'
  | [], [], _, _ => rfl
  | [], b :: l', h, _ => by simp at h
  | a :: l, [], h, _ => by simp at h
  | a :: l, b :: l', h, h2 => by
    simp only [exL, Bool.and_eq_true] at h2
    rw [exT_eq a b h2.1, exL_eq l l' (by simpa using h) h2.2]
end
/-- P11.1. -/
theorem apart {a b : Tm} {m m' : Int} (hm : m = m') (ha : okT a = true) (hb : okT b = true) : (txT none a m == txT none b m') = exT a b := by
  subst hm
  cases h : exT a b
  · rw [beq_eq_false_iff_ne]
    intro e
    have := tx_inj ha hb e
    subst this
    rw [exT_refl] at h
    cases h
  · have := exT_eq a b h
    subst this
    simp

end Go.El
