/- Taken out of other seats' texts by extract.py: sgnW_inj, plain_kinds, span_app, pre_app. -/
import Derived.Test.YtmnnhdegoapfcaaGreatDoorC05
import Derived.Test.YtmnnhdegoapfcaaGreatDoorC16
namespace Go.El
theorem span_app {p : UInt8 → Bool} : ∀ {s s' r r' : List UInt8}, s.all p = true → s'.all p = true → (∀ c ∈ r.head?, p c = false) → (∀ c ∈ r'.head?, p c = false) → s ++ r = s' ++ r' → s = s' ∧ r = r'
  | [], [], r, r', _, _, _, _, h => ⟨rfl, by simpa using h⟩
  | [], c :: s', r, r', _, hs', hr, _, h => by
    rw [List.all_cons, Bool.and_eq_true] at hs'
    have hc := hr c (by rw [List.nil_append] at h; rw [h]; rfl)
    rw [hc] at hs'
    cases hs'.1
  | c :: s, [], r, r', hs, _, _, hr', h => by
    rw [List.all_cons, Bool.and_eq_true] at hs
    have hc := hr' c (by rw [List.nil_append] at h; rw [← h]; rfl)
    rw [hc] at hs
    cases hs.1
  | c :: s, d :: s', r, r', hs, hs', hr, hr', h => by
    rw [List.all_cons, Bool.and_eq_true] at hs hs'
    injection h with h1 h2
    obtain ⟨h3, h4⟩ := span_app hs.2 hs'.2 hr hr' h2
    exact ⟨by rw [h1, h3], h4⟩
theorem sgn_pre : ∀ c d : UInt8, (sgnF c).isPrefixOf (sgnF d) = true → c = d := by
  have key : ∀ n m : Fin 256, (sgnF (UInt8.ofNat n.val)).isPrefixOf (sgnF (UInt8.ofNat m.val)) = true → n = m := by decide +kernel
  intro c d h
  have := key ⟨c.toNat, c.toNat_lt⟩ ⟨d.toNat, d.toNat_lt⟩ (by simpa using h)
  have e : c.toNat = d.toNat := congrArg Fin.val this
  exact UInt8.toNat_inj.1 e
theorem sgn_ne (c : UInt8) : sgnF c ≠ [] ∧ (sgnF c).head? ≠ some 39 :=
  all_bytes (p := fun c => sgnF c ≠ [] ∧ (sgnF c).head? ≠ some 39) (by decide +kernel) c
theorem pre_app {a b x y : List UInt8} (h : a ++ x = b ++ y) : a.isPrefixOf b = true ∨ b.isPrefixOf a = true := by
  have h1 : a <+: b ++ y := ⟨x, h⟩
  have h2 : b <+: b ++ y := ⟨y, rfl⟩
  rcases List.prefix_or_prefix_of_prefix h1 h2 with h | h
  · exact .inl (List.isPrefixOf_iff_prefix.2 h)
  · exact .inr (List.isPrefixOf_iff_prefix.2 h)
theorem head_app {a x : List UInt8} (h : a ≠ []) : (a ++ x).head? = a.head? := by
  cases a with
  | nil => exact absurd rfl h
  | cons => rfl
theorem sgnW_inj : ∀ {s s' r r' : List UInt8}, sgnW s ++ 39 :: r = sgnW s' ++ 39 :: r' → s = s' ∧ r = r'
  | [], [], r, r', h => ⟨rfl, by simpa [sgnW] using h⟩
  | [], c :: s', r, r', h => by
    have h' : 39 :: r = sgnF c ++ (sgnW s' ++ 39 :: r') := by simpa [sgnW] using h
    have := congrArg List.head? h'
    rw [head_app (sgn_ne c).1] at this
    exact absurd this.symm (sgn_ne c).2
  | c :: s, [], r, r', h => by
    have h' : sgnF c ++ (sgnW s ++ 39 :: r) = 39 :: r' := by simpa [sgnW] using h
    have := congrArg List.head? h'
    rw [head_app (sgn_ne c).1] at this
    exact absurd this (sgn_ne c).2
  | c :: s, d :: s', r, r', h => by
    have h' : sgnF c ++ (sgnW s ++ 39 :: r) = sgnF d ++ (sgnW s' ++ 39 :: r') := by simpa [sgnW] using h
    have e : c = d := by
      rcases pre_app h' with h | h
      · exact sgn_pre c d h
      · exact (sgn_pre d c h).symm
    subst e
    obtain ⟨h1, h2⟩ := sgnW_inj (List.append_cancel_left h')
    exact ⟨by rw [h1], h2⟩
/-- What kind of name stands as it is. -/
theorem plain_kinds {s : List UInt8} (h : plainL s = true) : s = [33] ∨ s = [59] ∨ s = [91, 93] ∨ s = [123, 125] ∨ (∃ c r, s = c :: r ∧ isSmall c = true ∧ s.all isWord = true) ∨ (∃ c r, s = c :: r ∧ s.all isSign = true) := by
  unfold plainL at h
  split at h
  · rename_i hh
    rcases hh with h | h | h | h
    · exact .inl h
    · exact .inr (.inl h)
    · exact .inr (.inr (.inl h))
    · exact .inr (.inr (.inr (.inl h)))
  · split at h
    · cases h
    · rename_i hn
      split at h
      · cases h
      · cases s with
        | nil => exact absurd (Or.inl rfl) hn
        | cons c r =>
          rw [Bool.or_eq_true, Bool.and_eq_true] at h
          rcases h with h | h
          · exact .inr (.inr (.inr (.inr (.inl ⟨c, r, rfl, h.1, h.2⟩))))
          · exact .inr (.inr (.inr (.inr (.inr ⟨c, r, rfl, h⟩))))
end Go.El

/- Layer 16, plain: the reference's reading of names and numbers. -/
namespace Go.El

def quotL (s : List UInt8) : Option (List UInt8) :=
  if s = [91, 93] ∨ s = [123, 125] then some s
  else if (scanS s 0).2.2 ≠ 0 ∨ (scanS s 0).2.1 ≠ s.length ∨ ((scanS s 0).1.kind ≠ 1 ∧ (scanS s 0).1.kind ≠ 2) ∨ quoF (scanS s 0).1.s.data.toList ≠ s then none
  else some (scanS s 0).1.s.data.toList
theorem quo_br1 : quoF [91, 93] = [91, 93] := by decide +kernel
theorem quo_br2 : quoF [123, 125] = [123, 125] := by decide +kernel
theorem quot_text {s m : List UInt8} (h : quotL s = some m) : s = quoF m := by
  unfold quotL at h
  split at h
  · rename_i hc
    injection h with h
    subst h
    rcases hc with rfl | rfl
    · exact quo_br1.symm
    · exact quo_br2.symm
  · split at h
    · cases h
    · rename_i hc
      injection h with h
      rw [← h]
      exact (Decidable.byContradiction fun hne => hc (.inr (.inr (.inr hne)))).symm
theorem quot_back {m : List UInt8} (hm : m.length ≤ 64) : quotL (quoF m) = some m := by
  by_cases h1 : m = [91, 93]
  · subst h1
    rw [quo_br1]
    exact if_pos (.inl rfl)
  by_cases h2 : m = [123, 125]
  · subst h2
    rw [quo_br2]
    exact if_pos (.inr rfl)
  have hs := scan_quo m h1 h2
  have e : backS (if plainL m = true then 1 else 2) m (quoF m).length = (⟨if plainL m = true then 1 else 2, ⟨m.toArray⟩, 0, 0, false⟩, (quoF m).length, 0) := if_neg (by omega)
  rw [e] at hs
  have hml : (⟨m.toArray⟩ : ByteArray).data.toList = m := mkB_list m
  unfold quotL
  rw [hs]
  split
  · rename_i hc
    exfalso
    rcases hc with hc | hc
    · have k1 : (scanS [91, 93] 0).2.1 = 1 := by decide +kernel
      rw [hc] at hs
      rw [hs] at k1
      simp at k1
    · have k1 : (scanS [123, 125] 0).2.1 = 1 := by decide +kernel
      rw [hc] at hs
      rw [hs] at k1
      simp at k1
  · rw [if_neg]
    rintro (h | h | h | h)
    · exact h rfl
    · exact h rfl
    · cases hp : plainL m <;> simp [hp] at h
    · exact h (congrArg quoF hml)
theorem quo_ne (s : List UInt8) : quoF s ≠ [] := by
  unfold quoF
  split
  · rename_i h
    rintro rfl
    revert h
    decide
  · simp

/-- What stands behind a name's text: a slash and a digit, or a blank, or nothing. -/
def SlashT (T : List UInt8) : Prop := ∃ d t, T = 47 :: d :: t ∧ isDigit d = true
def BlankT (T : List UInt8) : Prop := T = [] ∨ ∃ t, T = 32 :: t
theorem small_not_sign : ∀ c : UInt8, isSmall c = true → isSign c = false := fun c => all_bytes (p := fun c => isSmall c = true → isSign c = false) (by decide +kernel) c
theorem digit_not_sign : ∀ c : UInt8, isDigit c = true → isSign c = false := fun c => all_bytes (p := fun c => isDigit c = true → isSign c = false) (by decide +kernel) c
theorem sign_slash {a b T T' : List UInt8} (ha : a.all isSign = true) (hb : b.all isSign = true) (hT : SlashT T) (hT' : SlashT T') (h : a ++ T = b ++ T') : a = b := by
  obtain ⟨d, t, rfl, hd⟩ := hT
  obtain ⟨d', t', rfl, hd'⟩ := hT'
  have e : (a ++ [47]) ++ d :: t = (b ++ [47]) ++ d' :: t' := by simpa using h
  have h1 := span_app (p := isSign) (s := a ++ [47]) (s' := b ++ [47]) (by rw [List.all_append, ha]; decide) (by rw [List.all_append, hb]; decide) (fun c hc => by simp at hc; subst hc; exact digit_not_sign _ hd) (fun c hc => by simp at hc; subst hc; exact digit_not_sign _ hd') e
  exact List.append_cancel_right h1.1
theorem sign_blank {a b T T' : List UInt8} (ha : a.all isSign = true) (hb : b.all isSign = true) (hT : BlankT T) (hT' : BlankT T') (h : a ++ T = b ++ T') : a = b :=
  (span_app (p := isSign) ha hb (fun c hc => by
    rcases hT with rfl | ⟨t, rfl⟩
    · simp at hc
    · simp at hc; subst hc; decide) (fun c hc => by
    rcases hT' with rfl | ⟨t, rfl⟩
    · simp at hc
    · simp at hc; subst hc; decide) h).1
theorem word_slash {T : List UInt8} (hT : SlashT T) : ∀ c ∈ T.head?, isWord c = false := fun c hc => by
  obtain ⟨d, t, rfl, hd⟩ := hT
  simp at hc
  subst hc
  decide
theorem word_blank {T : List UInt8} (hT : BlankT T) : ∀ c ∈ T.head?, isWord c = false := fun c hc => by
  rcases hT with rfl | ⟨t, rfl⟩
  · simp at hc
  · simp at hc; subst hc; decide
/-- The first byte of a plain name. -/
theorem plain_head {m : List UInt8} (h : plainL m = true) : ∃ c r, m = c :: r ∧ c ≠ 39 := by
  rcases plain_kinds h with rfl | rfl | rfl | rfl | ⟨c, r, rfl, hc, _⟩ | ⟨c, r, rfl, hc⟩
  · exact ⟨_, _, rfl, by decide⟩
  · exact ⟨_, _, rfl, by decide⟩
  · exact ⟨_, _, rfl, by decide⟩
  · exact ⟨_, _, rfl, by decide⟩
  · exact ⟨c, r, rfl, fun e => by rw [e] at hc; revert hc; decide⟩
  · rw [List.all_cons, Bool.and_eq_true] at hc
    exact ⟨c, r, rfl, fun e => by rw [e] at hc; exact absurd hc.1 (by decide)⟩
theorem plain_dec {m m' T T' : List UInt8} (hm : plainL m = true) (hm' : plainL m' = true) (hw : ∀ c ∈ T.head?, isWord c = false) (hw' : ∀ c ∈ T'.head?, isWord c = false)
    (hs : ∀ a b : List UInt8, a.all isSign = true → b.all isSign = true → a ++ T = b ++ T' → a = b) (h : m ++ T = m' ++ T') : m = m' := by
  have S : ∀ x : UInt8, (x = 33 ∨ x = 59 ∨ x = 91 ∨ x = 123) → isSmall x = false ∧ isSign x = false := by
    rintro x (rfl | rfl | rfl | rfl) <;> decide
  have one : ∀ (x : UInt8) (q : List UInt8), (x = 33 ∨ x = 59 ∨ x = 91 ∨ x = 123) → ∀ n : List UInt8, plainL n = true → ∀ U V : List UInt8, x :: q ++ U = n ++ V → n = [33] ∧ x = 33 ∨ n = [59] ∧ x = 59 ∨ n = [91, 93] ∧ x = 91 ∨ n = [123, 125] ∧ x = 123 := by
    intro x q hx n hn U V e
    rcases plain_kinds hn with rfl | rfl | rfl | rfl | ⟨c, r, rfl, hc, _⟩ | ⟨c, r, rfl, hc⟩
    · injection e with e1 _; exact .inl ⟨rfl, e1⟩
    · injection e with e1 _; exact .inr (.inl ⟨rfl, e1⟩)
    · injection e with e1 _; exact .inr (.inr (.inl ⟨rfl, e1⟩))
    · injection e with e1 _; exact .inr (.inr (.inr ⟨rfl, e1⟩))
    · injection e with e1 _
      rw [← e1, (S x hx).1] at hc
      cases hc
    · injection e with e1 _
      rw [List.all_cons, Bool.and_eq_true, ← e1, (S x hx).2] at hc
      cases hc.1
  have spec : ∀ n n' U V : List UInt8, plainL n = true → plainL n' = true → (n = [33] ∨ n = [59] ∨ n = [91, 93] ∨ n = [123, 125]) → n ++ U = n' ++ V → n = n' := by
    rintro n n' U V hn hn' (rfl | rfl | rfl | rfl) e
    · rcases one 33 [] (.inl rfl) n' hn' U V e with h | h | h | h
      · exact h.1.symm
      · exact absurd h.2 (by decide)
      · exact absurd h.2 (by decide)
      · exact absurd h.2 (by decide)
    · rcases one 59 [] (.inr (.inl rfl)) n' hn' U V e with h | h | h | h
      · exact absurd h.2 (by decide)
      · exact h.1.symm
      · exact absurd h.2 (by decide)
      · exact absurd h.2 (by decide)
    · rcases one 91 [93] (.inr (.inr (.inl rfl))) n' hn' U V e with h | h | h | h
      · exact absurd h.2 (by decide)
      · exact absurd h.2 (by decide)
      · exact h.1.symm
      · exact absurd h.2 (by decide)
    · rcases one 123 [125] (.inr (.inr (.inr rfl))) n' hn' U V e with h | h | h | h
      · exact absurd h.2 (by decide)
      · exact absurd h.2 (by decide)
      · exact absurd h.2 (by decide)
      · exact h.1.symm
  rcases plain_kinds hm with k | k | k | k | ⟨c, r, rfl, hc, hr⟩ | ⟨c, r, rfl, hc⟩
  · exact spec m m' T T' hm hm' (.inl k) h
  · exact spec m m' T T' hm hm' (.inr (.inl k)) h
  · exact spec m m' T T' hm hm' (.inr (.inr (.inl k))) h
  · exact spec m m' T T' hm hm' (.inr (.inr (.inr k))) h
  · rcases plain_kinds hm' with k | k | k | k | ⟨c', r', rfl, hc', hr'⟩ | ⟨c', r', rfl, hc'⟩
    · exact (spec m' _ T' T hm' hm (.inl k) h.symm).symm
    · exact (spec m' _ T' T hm' hm (.inr (.inl k)) h.symm).symm
    · exact (spec m' _ T' T hm' hm (.inr (.inr (.inl k))) h.symm).symm
    · exact (spec m' _ T' T hm' hm (.inr (.inr (.inr k))) h.symm).symm
    · exact (span_app (p := isWord) hr hr' hw hw' h).1
    · exfalso
      injection h with h1 _
      rw [List.all_cons, Bool.and_eq_true, ← h1, small_not_sign c hc] at hc'
      cases hc'.1
  · rcases plain_kinds hm' with k | k | k | k | ⟨c', r', rfl, hc', hr'⟩ | ⟨c', r', rfl, hc'⟩
    · exact (spec m' _ T' T hm' hm (.inl k) h.symm).symm
    · exact (spec m' _ T' T hm' hm (.inr (.inl k)) h.symm).symm
    · exact (spec m' _ T' T hm' hm (.inr (.inr (.inl k))) h.symm).symm
    · exact (spec m' _ T' T hm' hm (.inr (.inr (.inr k))) h.symm).symm
    · exfalso
      injection h with h1 _
      rw [List.all_cons, Bool.and_eq_true, h1, small_not_sign c' hc'] at hc
      cases hc.1
    · exact hs _ _ hc hc' h
theorem quo_dec {m m' T T' : List UInt8} (hw : ∀ c ∈ T.head?, isWord c = false) (hw' : ∀ c ∈ T'.head?, isWord c = false)
    (hs : ∀ a b : List UInt8, a.all isSign = true → b.all isSign = true → a ++ T = b ++ T' → a = b) (h : quoF m ++ T = quoF m' ++ T') : m = m' := by
  cases p : plainL m <;> cases p' : plainL m'
  · have e : quoF m = [39] ++ sgnW m ++ [39] := by unfold quoF; rw [p]; rfl
    have e' : quoF m' = [39] ++ sgnW m' ++ [39] := by unfold quoF; rw [p']; rfl
    rw [e, e'] at h
    simp only [List.append_assoc, List.cons_append, List.nil_append, List.cons.injEq, true_and] at h
    exact (sgnW_inj h).1
  · exfalso
    have e : quoF m = [39] ++ sgnW m ++ [39] := by unfold quoF; rw [p]; rfl
    have e' : quoF m' = m' := by unfold quoF; rw [p']; rfl
    obtain ⟨c, r, hc, hn⟩ := plain_head p'
    rw [e, e', hc] at h
    injection h with h1 _
    exact hn h1.symm
  · exfalso
    have e : quoF m' = [39] ++ sgnW m' ++ [39] := by unfold quoF; rw [p']; rfl
    have e' : quoF m = m := by unfold quoF; rw [p]; rfl
    obtain ⟨c, r, hc, hn⟩ := plain_head p
    rw [e, e', hc] at h
    injection h with h1 _
    exact hn h1
  · have e : quoF m = m := by unfold quoF; rw [p]; rfl
    have e' : quoF m' = m' := by unfold quoF; rw [p']; rfl
    rw [e, e'] at h
    exact plain_dec p p' hw hw' hs h

/-- May a name of so many bytes stand there? -/
def namedOk (s : List UInt8) (ar : Bool) (e : Nat) : Bool :=
  if ar then decide (e < s.length) && (s.getD e 0 == 47) && decide (e + 1 < s.length) && decide (48 ≤ (s.getD (e + 1) 0).toNat) && decide ((s.getD (e + 1) 0).toNat ≤ 57)
  else decide (e = s.length) || (s.getD e 0 == 32)
def namedFrom (s : List UInt8) (ar : Bool) : Nat → Option (List UInt8 × List UInt8)
  | 0 => none
  | e + 1 => match quotL (s.take (e + 1)) with
    | some m => if namedOk s ar (e + 1) then some (m, s.drop (e + 1)) else namedFrom s ar e
    | none => namedFrom s ar e
theorem named_find {s m T : List UInt8} {ar : Bool} (hm : m.length ≤ 64) (hs : s = quoF m ++ T) (h0 : quoF m ≠ []) (hok : namedOk s ar (quoF m).length = true)
    (huniq : ∀ (m' : List UInt8) (e : Nat), (quoF m).length < e → e ≤ s.length → s.take e = quoF m' → namedOk s ar e = true → m' = m) :
    ∀ e, (quoF m).length ≤ e → e ≤ s.length → namedFrom s ar e = some (m, T) := by
  intro e he
  obtain ⟨d, rfl⟩ : ∃ d, e = (quoF m).length + d := ⟨e - (quoF m).length, by omega⟩
  clear he
  have hl : 0 < (quoF m).length := List.length_pos_iff.2 h0
  induction d with
  | zero =>
    intro hle
    obtain ⟨k, hk⟩ : ∃ k, (quoF m).length = k + 1 := ⟨(quoF m).length - 1, by omega⟩
    rw [Nat.add_zero, hk]
    unfold namedFrom
    have ht : s.take (k + 1) = quoF m := by rw [hs, ← hk, List.take_left']; rfl
    have hd : s.drop (k + 1) = T := by rw [hs, ← hk, List.drop_left']; rfl
    rw [ht, quot_back hm]
    rw [hk] at hok
    simp only [hok, if_true, hd]
  | succ d ih =>
    intro hle
    rw [show (quoF m).length + (d + 1) = ((quoF m).length + d) + 1 by omega]
    unfold namedFrom
    have ih' := ih (by omega)
    cases hq : quotL (s.take ((quoF m).length + d + 1)) with
    | none => exact ih'
    | some m' =>
      simp only
      split
      · rename_i hb
        exfalso
        have htx := quot_text hq
        have := huniq m' _ (by omega) (by omega) htx hb
        subst this
        have hlen := congrArg List.length htx
        rw [List.length_take] at hlen
        omega
      · exact ih'
theorem named_slash {m D R : List UInt8} (hm : m.length ≤ 64) (hD : ∃ d t, D = d :: t ∧ isDigit d = true) : namedFrom (quoF m ++ 47 :: (D ++ R)) true (quoF m ++ 47 :: (D ++ R)).length = some (m, 47 :: (D ++ R)) := by
  obtain ⟨d, t, rfl, hd⟩ := hD
  have hdd := (show ∀ c : UInt8, isDigit c = true → 48 ≤ c.toNat ∧ c.toNat ≤ 57 from fun c => all_bytes (p := fun c => isDigit c = true → 48 ≤ c.toNat ∧ c.toNat ≤ 57) (by decide +kernel) c) d hd
  refine named_find hm rfl (quo_ne m) ?_ ?_ _ (by simp) (Nat.le_refl _)
  · unfold namedOk
    simp [List.getD_eq_getElem?_getD, hdd]
  · intro m' e hlt hle ht hok
    have hok2 := hok
    unfold namedOk at hok2
    simp only [if_true, Bool.and_eq_true, decide_eq_true_eq, beq_iff_eq] at hok2
    obtain ⟨⟨⟨⟨h1, h2⟩, h3⟩, h4⟩, h5⟩ := hok2
    generalize hS : quoF m ++ 47 :: (d :: t ++ R) = S at *
    have hsp : S = S.take e ++ S.drop e := (List.take_append_drop e S).symm
    have hdr : S.drop e = 47 :: S.getD (e + 1) 0 :: S.drop (e + 2) := by
      rw [List.drop_eq_getElem_cons h1, List.drop_eq_getElem_cons h3]
      rw [List.getD_eq_getElem?_getD, List.getElem?_eq_getElem h1] at h2
      simp only [Option.getD_some] at h2
      rw [h2, List.getD_eq_getElem?_getD, List.getElem?_eq_getElem h3]
      rfl
    rw [ht, hdr] at hsp
    have hdig : isDigit (S.getD (e + 1) 0) = true := (show ∀ c : UInt8, 48 ≤ c.toNat ∧ c.toNat ≤ 57 → isDigit c = true from fun c => all_bytes (p := fun c => 48 ≤ c.toNat ∧ c.toNat ≤ 57 → isDigit c = true) (by decide +kernel) c) _ ⟨h4, h5⟩
    have T1 : SlashT (47 :: S.getD (e + 1) 0 :: S.drop (e + 2)) := ⟨_, _, rfl, hdig⟩
    have T2 : SlashT (47 :: (d :: t ++ R)) := ⟨d, t ++ R, rfl, hd⟩
    exact quo_dec (word_slash T1) (word_slash T2) (fun a b ha hb h => sign_slash ha hb T1 T2 h) (hsp.symm.trans hS.symm)
theorem named_blank {m T : List UInt8} (hm : m.length ≤ 64) (hT : BlankT T) : namedFrom (quoF m ++ T) false (quoF m ++ T).length = some (m, T) := by
  refine named_find hm rfl (quo_ne m) ?_ ?_ _ (by simp) (Nat.le_refl _)
  · unfold namedOk
    rcases hT with rfl | ⟨t, rfl⟩
    · simp
    · simp [List.getD_eq_getElem?_getD]
  · intro m' e hlt hle ht hok
    unfold namedOk at hok
    simp only [Bool.false_eq_true, if_false, Bool.or_eq_true, decide_eq_true_eq, beq_iff_eq] at hok
    generalize hS : quoF m ++ T = S at *
    have hsp : S = S.take e ++ S.drop e := (List.take_append_drop e S).symm
    have T1 : BlankT (S.drop e) := by
      by_cases h1 : e < S.length
      · rcases hok with h | h
        · omega
        · rw [List.drop_eq_getElem_cons h1]
          rw [List.getD_eq_getElem?_getD, List.getElem?_eq_getElem h1] at h
          simp only [Option.getD_some] at h
          rw [h]
          exact .inr ⟨_, rfl⟩
      · exact .inl (List.drop_eq_nil_of_le (by omega))
    rw [ht] at hsp
    exact quo_dec (word_blank T1) (word_blank hT) (fun a b ha hb h => sign_blank ha hb T1 hT h) (hsp.symm.trans hS.symm)

/-! ## Numbers -/
def digOk (c : UInt8) : Bool := decide (48 ≤ c.toNat) && decide (c.toNat ≤ 57)
def foldD (l : List UInt8) : Nat := l.foldl (fun a c => 10 * a + (c.toNat - 48)) 0
def tailM (s : List UInt8) : List UInt8 := if s.head? = some 45 then s.tail else s
def numL (s : List UInt8) : Option Int :=
  if ((tailM s).take 18).all digOk then
    (let n : Int := if (tailM s).length < s.length then -(foldD ((tailM s).take 18) : Int) else foldD ((tailM s).take 18); if Lib.itoa n = s then some n else none)
  else none
theorem fold_snoc (l : List UInt8) (c : UInt8) : foldD (l ++ [c]) = 10 * foldD l + (c.toNat - 48) := by simp [foldD]
theorem fold_dec (u : Nat) : foldD (Lib.decDigits u) = u := by
  induction u using Nat.strongRecOn with
  | _ u ih =>
    by_cases h : u < 10
    · rw [dec_small h]
      show 10 * 0 + ((UInt8.ofNat (48 + u)).toNat - 48) = u
      rw [dig_nat u h]
      omega
    · rw [dec_big h, fold_snoc, ih (u / 10) (by omega), dig_nat _ (by omega)]
      omega
theorem dec_ok (u : Nat) : (Lib.decDigits u).all digOk = true := by
  rw [List.all_eq_true]
  intro c hc
  have := dec_mem u c hc
  simp [digOk, this]
theorem dec_len10 : ∀ (k u : Nat), u < 10 ^ (k + 1) → (Lib.decDigits u).length ≤ k + 1
  | 0, u, h => by rw [dec_small (by simpa using h)]; simp
  | k + 1, u, h => by
    by_cases h1 : u < 10
    · rw [dec_small h1]; simp
    · rw [dec_big h1]
      have := dec_len10 k (u / 10) (by rw [Nat.pow_succ] at h; omega)
      simp
      omega
theorem num_back {n : Int} (h0 : -9007199254740991 ≤ n) (h1 : n ≤ 9007199254740991) : numL (Lib.itoa n) = some n := by
  have hl := dec_len10 15 n.natAbs (by omega)
  have hT : tailM (Lib.itoa n) = Lib.decDigits n.natAbs ∧ ((tailM (Lib.itoa n)).length < (Lib.itoa n).length ↔ n < 0) := by
    unfold Lib.itoa
    by_cases h : n < 0
    · rw [if_pos h]
      have : tailM (45 :: Lib.decDigits n.natAbs) = Lib.decDigits n.natAbs := rfl
      rw [this]
      exact ⟨rfl, by simp; omega⟩
    · rw [if_neg h]
      have e : n.toNat = n.natAbs := by omega
      rw [e]
      have ht : tailM (Lib.decDigits n.natAbs) = Lib.decDigits n.natAbs := by
        unfold tailM
        rw [if_neg]
        intro hh
        cases hd : Lib.decDigits n.natAbs with
        | nil => rw [hd] at hh; cases hh
        | cons c r =>
          rw [hd] at hh
          have := dec_mem n.natAbs c (by rw [hd]; simp)
          simp at hh
          subst hh
          exact absurd this.1 (by decide)
      rw [ht]
      exact ⟨rfl, by simp; omega⟩
  unfold numL
  have htk : (tailM (Lib.itoa n)).take 18 = Lib.decDigits n.natAbs := by rw [hT.1]; exact List.take_of_length_le (by omega)
  rw [htk, if_pos (dec_ok _), fold_dec]
  dsimp only
  have hn : (if (tailM (Lib.itoa n)).length < (Lib.itoa n).length then -((n.natAbs : Nat) : Int) else ((n.natAbs : Nat) : Int)) = n := by
    by_cases h : n < 0
    · rw [if_pos (hT.2.2 h)]; omega
    · rw [if_neg (fun q => h (hT.2.1 q))]; omega
  rw [hn, if_pos rfl]
end Go.El
