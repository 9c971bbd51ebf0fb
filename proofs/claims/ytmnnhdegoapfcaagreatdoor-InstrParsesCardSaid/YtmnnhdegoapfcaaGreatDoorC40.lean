/- Layer 16, plain: the reference's reading of an instruction. -/
import Derived.Test.YtmnnhdegoapfcaaGreatDoorC33
import Derived.Test.YtmnnhdegoapfcaaGreatDoorC39
namespace Go.El
open Go.Proofs.YtmnnhdegoapfcaaGreatDoor

def notSp (c : UInt8) : Bool := c != 32
def wordF (s : List UInt8) : List UInt8 := s.takeWhile notSp
/-- A number where a form has it. -/
def setN (c lead : UInt8) (n : Int) (i : Ins) : Option Ins :=
  if c = 118 then (if lead = 89 then some { i with v := -n } else if lead = 88 then some { i with v := n } else none)
  else if c = 97 then (if lead = 65 then some { i with a := n } else none)
  else if c = 108 then some { i with a := n }
  else some { i with n := n }
def leadF (c : UInt8) (w : List UInt8) : Option (UInt8 × List UInt8) :=
  if c = 118 ∨ c = 97 then (match w with | [] => none | x :: r => some (x, r)) else some (0, w)
def restF (c : UInt8) (s : List UInt8) (i : Ins) : Option (List UInt8 × Ins) :=
  match leadF c (wordF s) with
  | none => none
  | some (x, w) => match numL w with
    | none => none
    | some n => match setN c x n i with
      | none => none
      | some j => some (s.drop (wordF s).length, j)
def stepF (c : UInt8) (s : List UInt8) (i : Ins) : Option (List UInt8 × Ins) :=
  if s.head? = some 32 then
    (if c = 115 then (match namedFrom s.tail false s.tail.length with
      | none => none
      | some (m, r) => some (r, { i with s := mkB m }))
    else if c = 102 ∨ c = 112 then (match namedFrom s.tail true s.tail.length with
      | none => none
      | some (m, r) => restF c r.tail { i with s := mkB m })
    else restF c s.tail i)
  else none
def runF : List UInt8 → List UInt8 → Ins → Option (List UInt8 × Ins)
  | [], s, i => some (s, i)
  | c :: f, s, i => match stepF c s i with
    | none => none
    | some (t, j) => runF f t j
def fieldsF (o : Int) (s : List UInt8) : Option Ins :=
  if (nameF o).isPrefixOf s then
    (match runF (formL o) (s.drop (nameF o).length) ⟨o, bE, 0, 0, 0⟩ with
    | some ([], i) => some i
    | _ => none)
  else none

/-! ## What was written is read -/
theorem word_cut {x R : List UInt8} (hx : (32 : UInt8) ∉ x) (hR : BlankT R) : wordF (x ++ R) = x := by
  unfold wordF
  induction x with
  | nil =>
    rcases hR with rfl | ⟨t, rfl⟩
    · rfl
    · rfl
  | cons c x ih =>
    have hc : c ≠ 32 := fun e => hx (by simp [e])
    rw [List.cons_append, List.takeWhile_cons, if_pos (by simpa [notSp] using hc), ih (fun h => hx (List.mem_cons_of_mem _ h))]
theorem named_head {s : List UInt8} {m r : List UInt8} : ∀ {e : Nat}, namedFrom s true e = some (m, r) → ∃ t, r = 47 :: t
  | 0, h => by cases h
  | e + 1, h => by
    unfold namedFrom at h
    split at h
    · split at h
      · rename_i hk
        injection h with h
        injection h with h1 h2
        subst h2
        unfold namedOk at hk
        simp only [if_true, Bool.and_eq_true, decide_eq_true_eq, beq_iff_eq] at hk
        obtain ⟨⟨⟨⟨k1, k2⟩, _⟩, _⟩, _⟩ := hk
        rw [List.drop_eq_getElem_cons k1]
        rw [List.getD_eq_getElem?_getD, List.getElem?_eq_getElem k1] at k2
        simp only [Option.getD_some] at k2
        rw [k2]
        exact ⟨_, rfl⟩
      · exact named_head h
    · exact named_head h
/-- Bounds of an instruction that may be. -/
theorem may_all {i : Ins} (h : insMay i = true) : i.s.size ≤ 64 ∧ (-64 ≤ i.v ∧ i.v ≤ 255) ∧ (0 ≤ i.a ∧ i.a ≤ 255) ∧ -9007199254740991 ≤ i.n ∧ i.n ≤ 9007199254740991 := by
  unfold insMay at h
  split at h
  · cases h
  · rename_i hn
    simp only [Bool.and_eq_true] at h
    obtain ⟨⟨⟨⟨hv, _⟩, ha⟩, hn2⟩, _⟩ := h
    have W : ∀ {b : Bool} {n l m : Int}, l ≤ 0 → 0 ≤ m → withinF b n l m = true → l ≤ n ∧ n ≤ m := by
      intro b n l m h1 h2 h
      unfold withinF at h
      cases b <;> simp at h <;> omega
    have W2 : ∀ {b : Bool} {n l m : Int}, withinF b n l m = true → n = 0 ∨ (l ≤ n ∧ n ≤ m) := by
      intro b n l m h
      unfold withinF at h
      cases b
      · simp at h
        exact .inl h
      · simp at h
        exact .inr h
    refine ⟨by omega, W (by omega) (by omega) hv, ?_, ?_⟩
    · split at ha
      · have := W2 ha; omega
      · have := W2 ha; omega
    · unfold numberF at hn2
      split at hn2
      · have := W2 hn2; omega
      · split at hn2
        · have := W2 hn2; omega
        · split at hn2
          · have := W2 hn2; omega
          · have := W2 hn2; omega
def updF (c : UInt8) (i j : Ins) : Ins :=
  if c = 118 then { j with v := i.v } else if c = 97 ∨ c = 108 then { j with a := i.a } else if c = 115 then { j with s := i.s }
  else if c = 102 ∨ c = 112 then { j with s := i.s, n := i.n } else { j with n := i.n }
theorem head_blank (x R : List UInt8) : (32 :: (x ++ R)).head? = some 32 ∧ (32 :: (x ++ R)).tail = x ++ R := ⟨rfl, rfl⟩
theorem rest_num {c : UInt8} {x : UInt8} {n : Int} {w R : List UInt8} {j j' : Ins} (hR : BlankT R) (hw : (32 : UInt8) ∉ w) (hl : leadF c w = some (x, Lib.itoa n)) (h0 : -9007199254740991 ≤ n) (h1 : n ≤ 9007199254740991) (hs : setN c x n j = some j') : restF c (w ++ R) j = some (R, j') := by
  unfold restF
  rw [word_cut hw hR, hl]
  dsimp only
  rw [num_back h0 h1]
  dsimp only
  rw [hs]
  simp
theorem digs_head (n : Int) (h : 0 ≤ n) : ∃ d t, Lib.itoa n = d :: t ∧ isDigit d = true := by
  have hne : Lib.decDigits n.toNat ≠ [] := by
    rw [Lib.decDigits]
    split
    · simp
    · simp
  have e : Lib.itoa n = Lib.decDigits n.toNat := by
    unfold Lib.itoa
    rw [if_neg (by omega)]
  cases hd : Lib.decDigits n.toNat with
  | nil => exact absurd hd hne
  | cons d t =>
    refine ⟨d, t, by rw [e, hd], ?_⟩
    have := dec_mem n.toNat d (by rw [hd]; simp)
    exact (show ∀ c : UInt8, 48 ≤ c.toNat ∧ c.toNat ≤ 57 → isDigit c = true from fun c => all_bytes (p := fun c => 48 ≤ c.toNat ∧ c.toNat ≤ 57 → isDigit c = true) (by decide +kernel) c) d this
theorem reg_blank (v : Int) : (32 : UInt8) ∉ regT v := by
  unfold regT
  split
  · intro h
    simp only [List.mem_cons] at h
    rcases h with h | h
    · exact absurd h (by decide)
    · exact itoa_blank _ h
  · intro h
    simp only [List.mem_cons] at h
    rcases h with h | h
    · exact absurd h (by decide)
    · exact itoa_blank _ h
theorem step_back {i : Ins} (h : insMay i = true) {c : UInt8} (hc : c ∈ formL i.op) {R : List UInt8} (hR : BlankT R) (j : Ins) : stepF c (32 :: (fldT i (cOf c) ++ R)) j = some (R, updF c i j) := by
  obtain ⟨hs, ⟨v0, v1⟩, ⟨a0, a1⟩, n0, n1⟩ := may_all h
  obtain ⟨k, hk, h1, h3⟩ := may_op h
  obtain ⟨_, _, hm⟩ := form_fields k (by simp; omega)
  rw [← hk] at hm
  have hml : i.s.data.toList.length ≤ 64 := by simpa using hs
  have hb : mkB i.s.data.toList = i.s := mkB_back i.s
  have ho : ∀ o ∈ List.range 31, (102 ∈ formL o → hasF o 32 = true) ∧ (112 ∈ formL o → hasF o 64 = true) := by decide +kernel
  have hn : c = 102 ∨ c = 112 → 0 ≤ i.n := by
    intro hcc
    have hoo := ho k (by simp; omega)
    rw [← hk] at hoo
    unfold insMay at h
    split at h
    · cases h
    · simp only [Bool.and_eq_true] at h
      have hn2 := h.1.2
      unfold numberF at hn2
      rcases hcc with rfl | rfl
      · rw [hoo.1 hc] at hn2
        simp [withinF] at hn2
        omega
      · rw [hoo.2 hc] at hn2
        split at hn2
        · simp [withinF] at hn2
          omega
        · simp [withinF] at hn2
          omega
  unfold stepF
  rw [if_pos (show (32 :: (fldT i (cOf c) ++ R)).head? = some 32 from rfl)]
  have htl : (32 :: (fldT i (cOf c) ++ R)).tail = fldT i (cOf c) ++ R := rfl
  rw [htl]
  rcases hm c hc with rfl | rfl | rfl | rfl | rfl | rfl | rfl | rfl
  · have e : fldT i (cOf 118) = regT i.v := rfl
    rw [e, if_neg (by decide), if_neg (by decide)]
    by_cases hv : i.v < 0
    · have e2 : regT i.v = 89 :: Lib.itoa (-i.v) := if_pos hv
      refine rest_num (x := 89) (n := -i.v) hR (reg_blank _) (by rw [e2]; rfl) (by omega) (by omega) ?_
      show some ({ j with v := -(-i.v) } : Ins) = some { j with v := i.v }
      rw [Int.neg_neg]
    · have e2 : regT i.v = 88 :: Lib.itoa i.v := if_neg hv
      exact rest_num (x := 88) (n := i.v) hR (reg_blank _) (by rw [e2]; rfl) (by omega) (by omega) rfl
  · have e : fldT i (cOf 97) = 65 :: Lib.itoa i.a := rfl
    rw [e, if_neg (by decide), if_neg (by decide)]
    exact rest_num (x := 65) (n := i.a) hR (aitoa_blank _) rfl (by omega) (by omega) rfl
  · have e : fldT i (cOf 115) = quoF i.s.data.toList := rfl
    rw [e, if_pos rfl, named_blank hml hR]
    show some (R, ({ j with s := mkB i.s.data.toList } : Ins)) = some (R, { j with s := i.s })
    rw [hb]
  · have e : fldT i (cOf 110) = Lib.itoa i.n := rfl
    rw [e, if_neg (by decide), if_neg (by decide)]
    exact rest_num (x := 0) (n := i.n) hR (itoa_blank _) rfl (by omega) (by omega) rfl
  · have e : fldT i (cOf 101) = Lib.itoa i.n := rfl
    rw [e, if_neg (by decide), if_neg (by decide)]
    exact rest_num (x := 0) (n := i.n) hR (itoa_blank _) rfl (by omega) (by omega) rfl
  · have e : fldT i (cOf 108) = Lib.itoa i.a := rfl
    rw [e, if_neg (by decide), if_neg (by decide)]
    exact rest_num (x := 0) (n := i.a) hR (itoa_blank _) rfl (by omega) (by omega) rfl
  · have e : fldT i (cOf 102) ++ R = quoF i.s.data.toList ++ 47 :: (Lib.itoa i.n ++ R) := by
      show (quoF i.s.data.toList ++ [47] ++ Lib.itoa i.n) ++ R = _
      simp
    rw [e, if_neg (by decide), if_pos (.inl rfl), named_slash hml (digs_head _ (hn (.inl rfl)))]
    show restF 102 (Lib.itoa i.n ++ R) _ = _
    rw [hb]
    exact rest_num (x := 0) (n := i.n) hR (itoa_blank _) rfl (by omega) (by omega) rfl
  · have e : fldT i (cOf 112) ++ R = quoF i.s.data.toList ++ 47 :: (Lib.itoa i.n ++ R) := by
      show (quoF i.s.data.toList ++ [47] ++ Lib.itoa i.n) ++ R = _
      simp
    rw [e, if_neg (by decide), if_pos (.inr rfl), named_slash hml (digs_head _ (hn (.inr rfl)))]
    show restF 112 (Lib.itoa i.n ++ R) _ = _
    rw [hb]
    exact rest_num (x := 0) (n := i.n) hR (itoa_blank _) rfl (by omega) (by omega) rfl
theorem blank_flat (i : Ins) (f : List UInt8) : BlankT (f.flatMap (fun c => 32 :: fldT i (cOf c))) := by
  cases f with
  | nil => exact .inl rfl
  | cons c f => exact .inr ⟨_, rfl⟩
theorem run_back {i : Ins} (h : insMay i = true) : ∀ (f : List UInt8) (j : Ins), (∀ c ∈ f, c ∈ formL i.op) → runF f (f.flatMap (fun c => 32 :: fldT i (cOf c))) j = some ([], f.foldl (fun j c => updF c i j) j)
  | [], j, _ => rfl
  | c :: f, j, hf => by
    unfold runF
    rw [List.flatMap_cons, List.cons_append, step_back h (hf c (by simp)) (blank_flat i f)]
    exact run_back h f _ (fun d hd => hf d (by simp [hd]))
def formAll : List (List UInt8) := [[118, 97], [115, 97], [110, 97], [102, 97], [118], [115], [110], [101], [112, 108], [112], [108], []]
theorem form_in : ∀ o ∈ List.range 31, formL o ∈ formAll ∧ (118 ∈ formL o ↔ hasF o 1 = true) ∧ ((97 ∈ formL o ∨ 108 ∈ formL o) ↔ (hasF o 2 = true ∨ hasF o 4 = true)) ∧ ((115 ∈ formL o ∨ 102 ∈ formL o ∨ 112 ∈ formL o) ↔ hasF o 104 = true) ∧ ((110 ∈ formL o ∨ 101 ∈ formL o ∨ 102 ∈ formL o ∨ 112 ∈ formL o) ↔ (hasF o 16 = true ∨ hasF o 32 = true ∨ hasF o 64 = true ∨ hasF o 128 = true)) := by decide +kernel
theorem upd_all {i : Ins} (h : insMay i = true) : (formL i.op).foldl (fun j c => updF c i j) ⟨i.op, bE, 0, 0, 0⟩ = i := by
  obtain ⟨k, hk, h1, h3⟩ := may_op h
  obtain ⟨hf, g1, g2, g3, g4⟩ := form_in k (by simp; omega)
  rw [← hk] at hf g1 g2 g3 g4
  unfold insMay at h
  split at h
  · cases h
  · simp only [Bool.and_eq_true] at h
    obtain ⟨⟨⟨⟨hv, _⟩, ha⟩, hn2⟩, hse⟩ := h
    have W : ∀ {b : Bool} {n l m : Int}, withinF b n l m = true → b = false → n = 0 := by
      intro b n l m h hb
      subst hb
      simpa [withinF] using h
    have zv : 118 ∉ formL i.op → i.v = 0 := fun hh => W hv (by cases hb : hasF i.op 1 <;> simp_all)
    have za : 97 ∉ formL i.op → 108 ∉ formL i.op → i.a = 0 := fun hh hh2 => by
      have : ¬ (hasF i.op 2 = true ∨ hasF i.op 4 = true) := fun hc => by rcases g2.2 hc with hc | hc; exact hh hc; exact hh2 hc
      rw [if_neg (fun hc => this (.inr hc))] at ha
      exact W ha (by cases hb : hasF i.op 2 <;> simp_all)
    have zs : 115 ∉ formL i.op → 102 ∉ formL i.op → 112 ∉ formL i.op → i.s = bE := fun x1 x2 x3 => by
      have : ¬ hasF i.op 104 = true := fun hc => by rcases g3.2 hc with hc | hc | hc; exact x1 hc; exact x2 hc; exact x3 hc
      rw [Bool.or_eq_true, decide_eq_true_eq] at hse
      rcases hse with hse | hse
      · exact (emptyB hse).symm
      · exact absurd hse this
    have zn : 110 ∉ formL i.op → 101 ∉ formL i.op → 102 ∉ formL i.op → 112 ∉ formL i.op → i.n = 0 := fun x1 x2 x3 x4 => by
      have : ¬ (hasF i.op 16 = true ∨ hasF i.op 32 = true ∨ hasF i.op 64 = true ∨ hasF i.op 128 = true) := fun hc => by
        rcases g4.2 hc with hc | hc | hc | hc; exact x1 hc; exact x2 hc; exact x3 hc; exact x4 hc
      unfold numberF at hn2
      rw [if_neg (fun hc => this (.inr (.inl hc))), if_neg (fun hc => this (.inr (.inr (.inl hc)))), if_neg (fun hc => this (.inr (.inr (.inr hc))))] at hn2
      exact W hn2 (by cases hb : hasF i.op 16 <;> simp_all)
    obtain ⟨op, s, n, v, a⟩ := i
    dsimp only at *
    clear g1 g2 g3 g4 hv ha hn2 hse hk
    unfold formAll at hf
    simp only [List.mem_cons, List.not_mem_nil, or_false] at hf
    rcases hf with hf | hf | hf | hf | hf | hf | hf | hf | hf | hf | hf | hf
    all_goals
      rw [hf] at zv za zs zn ⊢
      simp at zv za zs zn
      simp [updF]
      simp [*]
/-- An instruction's fields are read back. -/
theorem fields_back {i : Ins} (h : insMay i = true) : fieldsF i.op (insT i) = some i := by
  rw [← out_all h]
  unfold outT fieldsF
  rw [if_pos (by simp), List.drop_left', List.take_length, run_back h _ _ (fun c hc => hc), upd_all h]
  rfl
end Go.El
