/- The evaluator's equality is the model's. -/
import Derived.Test.YtkenjhchfidpbaaGreatDoorC04
namespace Go.Ev
open Go.RowKit
section
variable {C : Ctx} {P : Program} {N : Kp} {φ : Pl} {h h' : H} {w : World}

theorem isAgg_eq (d : TypeDesc) : isAgg d = isAggK d := by cases d <;> rfl

theorem part_ok (K : CtxOk C P) {t : TypeId} {l : List AV} {cs : Array Value} (hl : VRs φ l cs.toList) {off : Nat} {v : AV} (e : part C t l off = some v) (w : World) :
    ∃ v', (Go.part t cs off).run P w = .ok v' w ∧ VR φ v v' := by
  unfold part at e
  split at e
  · rename_i d hd
    unfold Go.part
    simp only [Sem.run_bind, run_isAgg K hd, Result.andThen_ok, Sem.run_ite]
    cases ha : isAggK d with
    | true =>
      rw [isAgg_eq, ha] at e
      simp only [cond_true] at e
      split at e
      · rename_i n hn
        cases hb : Nat.ble (Nat.add off n) l.length with
        | false => rw [hb] at e; exact absurd e (by simp)
        | true =>
          rw [hb] at e
          simp only [cond_true] at e
          injection e with e; subst e
          simp only [if_true, run_siz K hn, Result.andThen_ok, Sem.run_pure]
          refine ⟨_, rfl, .agg _ _ ?_⟩
          have : (cs.extract off (off + n)).toList = (cs.toList.drop off).take n := by simp [Array.toList_extract, List.extract_eq_take_drop]
          rw [this]
          exact (hl.drop off).take n
      · exact absurd e (by simp)
    | false =>
      rw [isAgg_eq, ha] at e
      simp only [cond_false] at e
      have hg : l[off]? = some v := by rw [← List.head?_drop]; exact e
      obtain ⟨v', h1, h2⟩ := hl.get hg
      have h3 : cs[off]? = some v' := by simpa using h1
      simp only [Bool.false_eq_true, if_false, h3, Sem.run_pure]
      exact ⟨v', rfl, h2⟩
  · exact absurd e (by simp)

theorem eqI_eq (a b : Int) : eqI a b = (a == b) := by
  cases a <;> cases b <;> simp only [eqI, bq] <;> (apply Bool.eq_iff_iff.2; simp) <;> omega
theorem ltI_eq (a b : Int) : ltI a b = decide (a < b) := by
  cases a <;> cases b <;> simp only [ltI] <;> (apply Bool.eq_iff_iff.2; simp [Nat.blt_eq]) <;> omega
theorem kEq_eq (a b : IntKind) : kEq a b = true ↔ a = b := by cases a <;> cases b <;> simp [kEq]

theorem live_row (s : Sim N φ h w) {i : Nat} (e : live h i = true) {b k : Nat} (hp : φ i = some (b, k)) : ∃ cs t, w.heap[b]? = some (.cells cs t (0, 0)) ∧ 0 < cs.size ∧ ∃ x, h.b.get i = some x := by
  unfold live at e
  split at e
  · rename_i t c n fl hb
    simp only [Bool.and_eq_true, Bool.not_eq_true'] at e
    obtain ⟨cs, fr, ho, hr, hx, hf, hn⟩ := s.row hb hp
    have h0 : 0 < n := by simpa [Nat.blt_eq] using e.1
    have hfl : fl ≠ 3 := by intro h3; subst h3; exact absurd e.2 (by simp)
    have := hr.len
    rw [hf hfl] at ho
    exact ⟨cs, t, ho, by omega, _, hb⟩
  · exact absurd e (by simp)
theorem sameAddr_ne {a b : Addr} {cs ds : Array Value} {t u : TypeId} (ha : w.heap[a.block]? = some (.cells cs t (0, 0))) (hb : w.heap[b.block]? = some (.cells ds u (0, 0))) (hne : a.block ≠ b.block) :
    (sameAddr a b).run P w = .ok false w := by
  have f1 : w.frozen? a = false := by simp [World.frozen?, ha]
  have f2 : w.frozen? b = false := by simp [World.frozen?, hb]
  have s1 : w.shape? a.block = some (t, cs.size) := by simp [World.shape?, ha]
  have s2 : w.shape? b.block = some (u, ds.size) := by simp [World.shape?, hb]
  have g1 : w.frozen? { block := a.block, off := cs.size } = false := by simp [World.frozen?, ha]
  have g2 : w.frozen? { block := b.block, off := ds.size } = false := by simp [World.frozen?, hb]
  have hbeq : (a.block == b.block) = false := by simpa using hne
  simp [sameAddr, hbeq, noView, viewAt, mayBeOne, stringish, f1, f2, s1, s2, g1, g2]
theorem sameAddr_self {b o p : Nat} : (sameAddr ⟨b, o, none⟩ ⟨b, p, none⟩).run P w = .ok (decide (o = p)) w := by
  simp only [sameAddr, beq_self_eq_true, if_true, Sem.run_pure]
  have : ((⟨b, o, none⟩ : Addr) == ⟨b, p, none⟩) = decide (o = p) := by
    apply Bool.eq_iff_iff.2; simp
  simp [this]
theorem eqPtr_ok (s : Sim N φ h w) {i o j p : Nat} {r : Bool} (e : eqPtr h i o j p = some r) {b k b' k' : Nat} (hi : φ i = some (b, k)) (hj : φ j = some (b', k')) :
    (sameAddr ⟨b, k + o, none⟩ ⟨b', k' + p, none⟩).run P w = .ok r w := by
  unfold eqPtr at e
  cases h1 : Nat.beq i j with
  | true =>
    rw [h1] at e; simp only [cond_true] at e
    injection e with e; subst e
    have := Nat.eq_of_beq_eq_true h1
    subst this
    rw [hi] at hj; injection hj with hj; injection hj with a c; subst a c
    rw [sameAddr_self, bq]
    have : decide (k + o = k + p) = decide (o = p) := by apply Bool.eq_iff_iff.2; simp
    rw [this]
  | false =>
    rw [h1] at e; simp only [cond_false] at e
    cases h2 : live h i && live h j with
    | false => rw [h2] at e; exact absurd e (by simp)
    | true =>
      rw [h2] at e; simp only [cond_true] at e
      injection e with e; subst e
      simp only [Bool.and_eq_true] at h2
      obtain ⟨cs, t, a1, _, x, hx⟩ := live_row s h2.1 hi
      obtain ⟨ds, u, a2, _, y, hy⟩ := live_row s h2.2 hj
      refine sameAddr_ne a1 a2 ?_
      intro hbb
      have hbb' : b = b' := hbb
      subst hbb'
      have := s.inj i j x y b k k' hx hy hi hj
      subst this
      exact absurd h1 (by simp)

theorem eqS_eq : ∀ (a b : List Nat), eqS a b = (a == b)
  | [], [] => rfl
  | [], _ :: _ => rfl
  | _ :: _, [] => rfl
  | a :: x, b :: y => by rw [eqS, eqS_eq x y, bq]; simp [List.cons_beq_cons]; rfl
theorem map_toNat_inj : ∀ {a b : List UInt8}, a.map UInt8.toNat = b.map UInt8.toNat → a = b
  | [], [], _ => rfl
  | [], _ :: _, h => by simp at h
  | _ :: _, [], h => by simp at h
  | x :: a, y :: b, h => by
    simp only [List.map_cons, List.cons.injEq] at h
    rw [UInt8.toNat_inj.1 h.1, map_toNat_inj h.2]
theorem eqS_bytes (a b : ByteArray) : eqS (a.data.toList.map UInt8.toNat) (b.data.toList.map UInt8.toNat) = (a.toList == b.toList) := by
  rw [eqS_eq, ByteArray.toList_eq, ByteArray.toList_eq]
  apply Bool.eq_iff_iff.2
  simp only [beq_iff_eq]
  exact ⟨map_toNat_inj, fun h => by rw [h]⟩

theorem eqFs_ok (K : CtxOk C P) {eq : TypeId → AV → AV → Option Bool} {D : Nat} (he : ∀ t a b r, eq t a b = some r → ∀ a' b', VR φ a a' → VR φ b b' → (Op.equalIn D t a' b').run P w = .ok r w)
    {xs ys : List AV} {xs' ys' : Array Value} (hx : VRs φ xs xs'.toList) (hy : VRs φ ys ys'.toList) : ∀ (fs : List Field) (r : Bool), eqFs C eq xs ys fs = some r → (Op.eqFields D xs' ys' fs).run P w = .ok r w
  | [], r, e => by injection e with e; subst e; rfl
  | f :: fs, r, e => by
    unfold eqFs at e
    unfold Op.eqFields
    by_cases hn : f.name = "_"
    · have : (f.name != "_") = false := by simp [hn]
      rw [this] at e
      simp only [cond_false] at e
      simp only [hn, ne_eq, not_true, if_false]
      exact eqFs_ok K he hx hy fs r e
    · have : (f.name != "_") = true := by simp [hn]
      rw [this] at e
      simp only [cond_true] at e
      simp only [ne_eq, hn, not_false_eq_true, if_true]
      split at e
      · rename_i a b ha hb
        obtain ⟨a', p1, p2⟩ := part_ok K hx ha w
        obtain ⟨b', q1, q2⟩ := part_ok K hy hb w
        split at e
        · rename_i hr
          simp only [Sem.run_bind, p1, q1, Result.andThen_ok, he _ _ _ _ hr a' b' p2 q2, Bool.not_true, Bool.false_eq_true, if_false]
          exact eqFs_ok K he hx hy fs r e
        · rename_i hr
          cases hq : eq f.type a b with
          | none => rw [hq] at e; exact absurd e (by simp)
          | some q =>
            rw [hq] at e; injection e with e; subst e
            cases q with
            | true => exact absurd hq hr
            | false => simp only [Sem.run_bind, p1, q1, Result.andThen_ok, he _ _ _ _ hq a' b' p2 q2, Bool.not_false, if_true, Sem.run_pure]
      · exact absurd e (by simp)
theorem eqIs_ok (K : CtxOk C P) {eq : AV → AV → Option Bool} {D : Nat} {el : TypeId} {sz : Nat} (he : ∀ a b r, eq a b = some r → ∀ a' b', VR φ a a' → VR φ b b' → (Op.equalIn D el a' b').run P w = .ok r w)
    {xs ys : List AV} {xs' ys' : Array Value} (hx : VRs φ xs xs'.toList) (hy : VRs φ ys ys'.toList) : ∀ (is : List Nat) (r : Bool), eqIs C eq el sz xs ys is = some r → (Op.eqItems D el sz xs' ys' is).run P w = .ok r w
  | [], r, e => by injection e with e; subst e; rfl
  | f :: fs, r, e => by
    unfold eqIs at e
    unfold Op.eqItems
    split at e
    · rename_i a b ha hb
      obtain ⟨a', p1, p2⟩ := part_ok K hx ha w
      obtain ⟨b', q1, q2⟩ := part_ok K hy hb w
      have p1' : (Go.part el xs' (f * sz)).run P w = .ok a' w := p1
      have q1' : (Go.part el ys' (f * sz)).run P w = .ok b' w := q1
      split at e
      · rename_i hr
        simp only [Sem.run_bind, p1', q1', Result.andThen_ok, he _ _ _ hr a' b' p2 q2, Bool.not_true, Bool.false_eq_true, if_false]
        exact eqIs_ok K he hx hy fs r e
      · rename_i hr
        cases hq : eq a b with
        | none => rw [hq] at e; exact absurd e (by simp)
        | some q =>
          rw [hq] at e; injection e with e; subst e
          cases q with
          | true => exact absurd hq hr
          | false => simp only [Sem.run_bind, p1', q1', Result.andThen_ok, he _ _ _ hq a' b' p2 q2, Bool.not_false, if_true, Sem.run_pure]
    · exact absurd e (by simp)

theorem eqT_ok (K : CtxOk C P) (s : Sim N φ h w) : ∀ (d : Nat) (t : TypeId) (x y : AV) (r : Bool), eqT C h d t x y = some r → ∀ (x' y' : Value), VR φ x x' → VR φ y y' → ∀ D, d ≤ D → (Op.equalIn D t x' y').run P w = .ok r w
  | 0, t, x, y, r, e => by exact absurd e (by simp [eqT])
  | d + 1, t, x, y, r, e => by
    intro x' y' hx hy D hD
    obtain ⟨D, rfl⟩ : ∃ D', D = D' + 1 := ⟨D - 1, by omega⟩
    have ih := eqT_ok K s d
    unfold eqT at e
    split at e
    · exact absurd e (by simp)
    · rename_i u hu
      have hU := run_und K hu w
      split at e
      · cases hx; cases hy; injection e with e; subst e
        rename_i a b
        simp only [Op.equalIn, Sem.run_bind, hU, Result.andThen_ok, Sem.run_pure]
        cases a <;> cases b <;> rfl
      · cases hx; cases hy
        rename_i k' k a q b
        simp only [Op.equalIn, Sem.run_bind, hU, Result.andThen_ok]
        cases hk : kEq k q with
        | false => rw [hk] at e; exact absurd e (by simp)
        | true =>
          rw [hk] at e; simp only [cond_true] at e; injection e with e; subst e
          rw [if_pos ((kEq_eq _ _).1 hk), eqI_eq]; rfl
      · cases hx; cases hy; injection e with e; subst e
        rename_i a b
        rw [run_equalIn_string w D t a b (und_ok K hu), eqS_bytes]
      · cases hx; cases hy; injection e with e; subst e
        simp [Op.equalIn, hU]
      · cases hx; cases hy; injection e with e; subst e
        simp [Op.equalIn, hU]
      · cases hx; cases hy; injection e with e; subst e
        simp [Op.equalIn, hU]
      · rename_i el i o j p
        cases hx with
        | ptr _ _ b k hb =>
          cases hy with
          | ptr _ _ b' k' hb' =>
            split at e
            · rename_i n hn
              cases h0 : Nat.beq n 0 with
              | true => rw [h0] at e; exact absurd e (by simp)
              | false =>
                rw [h0] at e; simp only [cond_false] at e
                have hn0 : n ≠ 0 := by intro h1; subst h1; exact absurd h0 (by simp)
                simp only [Op.equalIn, Sem.run_bind, hU, Result.andThen_ok, run_siz K hn, ne_eq, hn0, not_false_eq_true, if_true]
                exact eqPtr_ok s e hb hb'
            · exact absurd e (by simp)
      · rename_i fs xs ys
        cases hx with
        | agg _ xs' hx =>
          cases hy with
          | agg _ ys' hy =>
            cases hb : C.eqs.any (Nat.beq t) with
            | false => rw [hb] at e; exact absurd e (by simp)
            | true =>
              rw [hb] at e; simp only [cond_true] at e
              have hf : P.fieldsOf t = fs := by unfold Program.fieldsOf; rw [und_ok K hu]
              rw [run_equalIn_struct w D t xs' ys' (by rw [hf]; exact und_ok K hu) (K.eqs t hb).1, hf]
              exact eqFs_ok K (fun t a b r h1 a' b' h2 h3 => ih t a b r h1 a' b' h2 h3 D (by omega)) hx hy _ _ e
      · rename_i n el xs ys
        cases hx with
        | agg _ xs' hx =>
          cases hy with
          | agg _ ys' hy =>
            split at e
            · rename_i sz hs
              obtain ⟨i, hi, hsz⟩ := siz_ok K hs
              rw [run_equalIn_array w D xs' ys' (und_ok K hu) hi]
              have : P.cellsOf el = sz := by simp [Program.cellsOf, hi, hsz]
              rw [this]
              exact eqIs_ok K (fun a b r h1 a' b' h2 h3 => ih el a b r h1 a' b' h2 h3 D (by omega)) hx hy _ _ e
            · exact absurd e (by simp)
      all_goals first
        | (exfalso; simp at e; done)
        | (cases hx; cases hy; injection e with e; subst e; simp only [Op.equalIn, Sem.run_bind, hU, Result.andThen_ok]; rfl)
end
end Go.Ev

/- The evaluator's reckoning is the model's: numbers, strings, comparisons, places in rows. -/
namespace Go.Ev
open Go.RowKit
section
variable {C : Ctx} {P : Program} {N : Kp} {φ : Pl} {h h' : H} {w : World}

theorem lim_le (k : IntKind) : lim k ≤ 2 ^ k.bits := by cases k <;> simp only [lim, IntKind.bits] <;> decide
theorem lim_signed (k : IntKind) (hs : k.signed = true) : ((2 : Int) ^ (k.bits - 1)) = (lim k : Int) := by
  cases k <;> first | (simp only [IntKind.signed] at hs; exact absurd hs (by decide)) | (simp only [lim, IntKind.bits, Nat.reduceSub, Int.reducePow]; rfl)
theorem wrap_nat (k : IntKind) (n : Nat) (hn : n < lim k) : k.wrap (n : Int) = n := by
  have hb : (n : Int) < 2 ^ k.bits := by
    have : n < 2 ^ k.bits := Nat.lt_of_lt_of_le hn (lim_le k)
    exact_mod_cast this
  have e : (n : Int) % 2 ^ k.bits = n := Int.emod_eq_of_lt (by omega) hb
  unfold IntKind.wrap
  simp only [e]
  split
  · rename_i h
    simp only [Bool.and_eq_true, decide_eq_true_eq] at h
    have := lim_signed k h.1
    rw [this] at h
    have h2 := h.2
    exact absurd h2 (by simp; exact_mod_cast hn)
  · rfl
theorem blt_lt {a b : Nat} (h : Nat.blt a b = true) : a < b := by simpa [Nat.blt_eq] using h
theorem wrap_neg (a : Nat) (h : a < 9223372036854775807) : IntKind.i64.wrap (Int.negSucc a) = Int.negSucc a := by
  have hn : Int.negSucc a = -(a : Int) - 1 := by omega
  rw [hn]
  unfold IntKind.wrap
  simp only [IntKind.bits, IntKind.signed, Bool.true_and, Int.reducePow, Nat.reduceSub]
  have hm : (-(a : Int) - 1) % 18446744073709551616 = 18446744073709551615 - a := by omega
  simp only [hm]
  split <;> rename_i h <;> simp only [decide_eq_true_eq] at h <;> omega
theorem cond2 {c1 c2 : Bool} {n m : Int} (h1 : c1 = true → m = n) (h2 : c2 = true → m = n) : (bif c1 then n else bif c2 then n else m) = m := by
  cases c1
  · cases c2
    · rfl
    · exact (h2 rfl).symm
  · exact (h1 rfl).symm
theorem cond1 {c : Bool} {n m : Int} (h : c = true → m = n) : (bif c then n else m) = m := by
  cases c
  · rfl
  · exact (h rfl).symm
theorem lim127 (k : IntKind) : 127 < lim k := by cases k <;> simp only [lim] <;> omega
theorem i64lim {a : Nat} (h : a < 9223372036854775807) : a < lim .i64 := by simp only [lim]; omega
theorem u64lim {a : Nat} (h : a < 18446744073709551615) : a < lim .u64 := by simp only [lim]; omega
theorem wr_eq (k : IntKind) (n : Int) : wr k n = k.wrap n := by
  cases n with
  | ofNat a =>
    refine cond2 (fun h => wrap_nat k a (Nat.lt_trans (blt_lt h) (lim127 k))) ?_
    cases k with
    | i64 => intro h; exact wrap_nat _ a (i64lim (blt_lt h))
    | u64 => intro h; exact wrap_nat _ a (u64lim (blt_lt h))
    | _ => intro h; exact absurd h (by simp)
  | negSucc a =>
    refine cond1 ?_
    cases k with
    | i64 => intro h; exact wrap_neg a (blt_lt h)
    | _ => intro h; exact absurd h (by simp)
theorem nat?_some {n : Int} {m : Nat} (e : nat? n = some m) : n = (m : Int) := by
  cases n with
  | ofNat a => injection e with e; subst e; rfl
  | negSucc a => exact absurd e (by simp [nat?])

theorem natK_ok {f : Nat → Nat → Nat} {k : IntKind} {a b : Int} {v : AV} (e : natK f k a b = some v) : ∃ m n : Nat, a = m ∧ b = n ∧ m < lim k ∧ n < lim k ∧ v = .int k (f m n) := by
  obtain ⟨m, hm, e⟩ := ob_some e
  obtain ⟨n, hn, e⟩ := ob_some e
  obtain ⟨h1, e⟩ := iff_some e
  obtain ⟨h2, e⟩ := iff_some e
  injection e with e
  exact ⟨m, n, nat?_some hm, nat?_some hn, by simpa [Nat.blt_eq] using h1, by simpa [Nat.blt_eq] using h2, e.symm⟩
theorem bv_nat (k : IntKind) (n : Nat) (hn : n < lim k) : (BitVec.ofInt k.bits (n : Int)).toNat = n := by
  have : (BitVec.ofInt k.bits (n : Int)).toNat = n % 2 ^ k.bits := by simp
  rw [this]
  apply Nat.mod_eq_of_lt
  cases k <;> simp only [lim] at hn <;> simp only [IntKind.bits] <;> omega
theorem land_lt (a b c : Nat) (h : a < c) : a &&& b < c := Nat.lt_of_le_of_lt Nat.and_le_left h
theorem lor_lt (k : IntKind) (a b : Nat) (h : a < lim k) (h' : b < lim k) : a ||| b < lim k := by
  have key : ∀ n, lim k = 2 ^ n → a ||| b < lim k := by
    intro n hn
    rw [hn] at h h' ⊢
    exact Nat.or_lt_two_pow h h'
  cases k
  · exact key 7 rfl
  · exact key 15 rfl
  · exact key 31 rfl
  · exact key 63 rfl
  · exact key 8 rfl
  · exact key 16 rfl
  · exact key 32 rfl
  · exact key 64 rfl

theorem intA_ok {op : BinOp} {k : IntKind} {a b : Int} {v : AV} (hop : op ≠ .shl ∧ op ≠ .shr) (e : intA op k a b = some v) (t : TypeId) : ∃ v', (binOp op t (.int k a) (.int k b)).run P w = .ok v' w ∧ VR φ v v' := by
  cases op with
  | shl => exact absurd rfl hop.1
  | shr => exact absurd rfl hop.2
  | add => injection e with e; subst e; rw [wr_eq]; exact ⟨_, by simp [binOp, Op.intArith], .int _ _⟩
  | sub => injection e with e; subst e; rw [wr_eq]; exact ⟨.int k (k.wrap (a - b)), by simp [binOp, Op.intArith], .int _ _⟩
  | mul => injection e with e; subst e; rw [wr_eq]; exact ⟨_, by simp [binOp, Op.intArith], .int _ _⟩
  | quo =>
    obtain ⟨h0, e⟩ := iff_some' e
    injection e with e; subst e
    rw [eqI_eq] at h0
    have : b ≠ 0 := by simpa using h0
    exact ⟨_, by simp [binOp, Op.intDiv, this], .int _ _⟩
  | rem =>
    obtain ⟨h0, e⟩ := iff_some' e
    injection e with e; subst e
    rw [eqI_eq] at h0
    have : b ≠ 0 := by simpa using h0
    exact ⟨_, by simp [binOp, Op.intDiv, this], .int _ _⟩
  | and =>
    obtain ⟨m, n, rfl, rfl, h1, h2, rfl⟩ := natK_ok e
    refine ⟨.int k (k.wrap ((m &&& n : Nat) : Int)), ?_, ?_⟩
    · simp [binOp, Op.intBits, Nat.mod_eq_of_lt (Nat.lt_of_lt_of_le h1 (lim_le k)), Nat.mod_eq_of_lt (Nat.lt_of_lt_of_le h2 (lim_le k))]
    · rw [wrap_nat k _ (land_lt m n _ h1)]; exact .int _ _
  | or =>
    obtain ⟨m, n, rfl, rfl, h1, h2, rfl⟩ := natK_ok e
    refine ⟨.int k (k.wrap ((m ||| n : Nat) : Int)), ?_, ?_⟩
    · simp [binOp, Op.intBits, Nat.mod_eq_of_lt (Nat.lt_of_lt_of_le h1 (lim_le k)), Nat.mod_eq_of_lt (Nat.lt_of_lt_of_le h2 (lim_le k))]
    · rw [wrap_nat k _ (lor_lt k m n h1 h2)]; exact .int _ _
  | xor => exact absurd e (by simp [intA])
  | andNot => exact absurd e (by simp [intA])
  | eql => injection e with e; subst e; rw [eqI_eq]; exact ⟨_, by simp [binOp, Op.intCmp], .bool _⟩
  | neq => injection e with e; subst e; rw [eqI_eq]; exact ⟨_, by simp [binOp, Op.intCmp, bne], .bool _⟩
  | lss => injection e with e; subst e; rw [ltI_eq]; exact ⟨_, by simp [binOp, Op.intCmp], .bool _⟩
  | gtr => injection e with e; subst e; rw [ltI_eq]; exact ⟨_, by simp [binOp, Op.intCmp], .bool _⟩
  | leq =>
    injection e with e; subst e; rw [ltI_eq]
    have : (!decide (b < a)) = decide (a ≤ b) := by apply Bool.eq_iff_iff.2; simp
    rw [this]; exact ⟨_, by simp [binOp, Op.intCmp], .bool _⟩
  | geq =>
    injection e with e; subst e; rw [ltI_eq]
    have : (!decide (a < b)) = decide (a ≥ b) := by apply Bool.eq_iff_iff.2; simp
    rw [this]; exact ⟨_, by simp [binOp, Op.intCmp], .bool _⟩
theorem shA_ok {op : BinOp} {k k' : IntKind} {a b : Int} {v : AV} (hop : op = .shl ∨ op = .shr) (e : shA op k a b = some v) (t : TypeId) : ∃ v', (binOp op t (.int k a) (.int k' b)).run P w = .ok v' w ∧ VR φ v v' := by
  unfold shA at e
  split at e
  · rename_i n
    cases h1 : Nat.ble n k.bits with
    | false => rw [h1] at e; exact absurd e (by simp)
    | true =>
      rw [h1] at e; simp only [cond_true] at e
      have hle : n ≤ k.bits := Nat.le_of_ble_eq_true h1
      have hm : min n k.bits = n := by omega
      rcases hop with rfl | rfl
      · injection e with e; subst e
        have h0 : ¬ ((n : Int) < 0) := by omega
        exact ⟨_, by simp only [binOp, Op.shift, Int.ofNat_eq_natCast, h0, if_false, Int.toNat_natCast, hm]; rfl, .int _ _⟩
      · injection e with e; subst e
        have h0 : ¬ ((n : Int) < 0) := by omega
        exact ⟨_, by simp only [binOp, Op.shift, Int.ofNat_eq_natCast, h0, if_false, Int.toNat_natCast, hm]; rfl, .int _ _⟩
  · exact absurd e (by simp)
end
end Go.Ev
