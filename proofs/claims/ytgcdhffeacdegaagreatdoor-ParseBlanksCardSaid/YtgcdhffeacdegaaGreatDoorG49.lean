/- Layer 10, plain: a clause in brackets. -/
import Derived.Test.YtgcdhffeacdegaaGreatDoorG48
import Derived.Test.YtgcdhffeacdegaaGreatDoorG42
import Derived.Test.YtgcdhffeacdegaaGreatDoorG44
import Derived.Test.YtgcdhffeacdegaaGreatDoorG11
namespace Go.El
open Go.Proofs.YtgcdhffeacdegaaGreatDoor

theorem one_inv {O : Ops} {B : List UInt8} (hB : B.length ≤ 65536) {r : ReadV} (h : oneR O B = (r, 0)) : ∃ j : Nat, clauseS O B 0 = (r, (j : Int), 0) ∧ j ≤ B.length ∧ (scanS B j).2.2 = 4 := by
  obtain ⟨r0, k0, x0, hc⟩ : ∃ r k x, clauseS O B 0 = (r, k, x) := ⟨_, _, _, rfl⟩
  obtain ⟨b0, b4, bx⟩ := rtF_eq (acc := []) hB (Nat.zero_le _) hc
  unfold oneR oneX at h
  rw [show allR O B = rtF O B 0 [] from rfl] at h
  by_cases h0 : x0 = 0
  · subst h0
    obtain ⟨j, hj, h1, h2, h3⟩ := b0 rfl
    rw [h3] at h
    obtain ⟨r1, k1, x1, hc1⟩ : ∃ r k x, clauseS O B j = (r, k, x) := ⟨_, _, _, rfl⟩
    obtain ⟨c0, c4, cx⟩ := rtF_eq (acc := [] ++ [r0]) hB h2 hc1
    by_cases h01 : x1 = 0
    · subst h01
      exfalso
      obtain ⟨j', _, _, h2', h3'⟩ := c0 rfl
      rw [h3', rtF_pre hB _ j' _ (Nat.le_refl _) h2'] at h
      split at h
      · next g =>
        injection h with _ h
        exact g h
      · rw [if_pos (by simp)] at h
        injection h with _ h
        cases h
    · by_cases h41 : x1 = 4
      · subst h41
        obtain ⟨e, g4, _, _, _⟩ := clause_4 h2 hc1
        rw [c4 rfl, if_neg (by simp), if_neg (by simp)] at h
        injection h with h _
        have h5 : r0 = r := h
        subst h5
        exact ⟨j, by rw [hc, hj], h2, g4⟩
      · rw [cx h01 h41, if_pos h01] at h
        injection h with _ h
        exact absurd h h01
  · exfalso
    by_cases h4 : x0 = 4
    · rw [b4 h4, if_neg (by simp), if_pos (by simp)] at h
      injection h with _ h
      cases h
    · rw [bx h0 h4, if_pos h0] at h
      injection h with _ h
      exact h0 h
theorem one_of {O : Ops} {B : List UInt8} (hB : B.length ≤ 65536) {r : ReadV} (h : clauseS O B 0 = (r, (B.length : Int), 0)) : oneR O B = (r, 0) := by
  obtain ⟨b0, _, _⟩ := rtF_eq (acc := []) hB (Nat.zero_le _) h
  obtain ⟨j, hj, h1, h2, h3⟩ := b0 rfl
  obtain rfl : j = B.length := by omega
  have hn : scanS B B.length = (zeroT, B.length, 4) := scanS_none (skipTo_end (Nat.le_refl _)) (List.getElem?_eq_none (Nat.le_refl _))
  obtain ⟨_, c4, _⟩ := rtF_eq (acc := [] ++ [r]) hB (Nat.le_refl _) (clause_none (O := O) (Nat.le_refl _) hn)
  unfold oneR oneX
  rw [show allR O B = rtF O B 0 [] from rfl, h3, c4 rfl, if_neg (by simp), if_neg (by simp)]
  rfl

section
variable (A : List UInt8)
def brA : List UInt8 := [40, 32] ++ A
def brT : List UInt8 := joinT (brA A) [41, 32, 46]
def brQ : TokV := ⟨5, ⟨#[41]⟩, 0, ((A.length + 3 : Nat) : Int), true⟩
def brE : TokV := ⟨6, ⟨#[46]⟩, 0, ((A.length + 5 : Nat) : Int), true⟩
def brP : TokV := ⟨5, ⟨#[40]⟩, 0, 0, false⟩
theorem brA_len : (brA A).length = A.length + 2 := by simp [brA]
theorem brT_len : (brT A).length = A.length + 6 := by unfold brT; rw [jn_len, brA_len]; simp
theorem brT_eq : brT A = ((brA A) ++ [10]) ++ [41, 32, 46] := by simp [brT, joinT]
theorem br_scan {i : Nat} (hi : i ≤ A.length) {t : TokV} {e : Nat} (h : scanS A i = (t, e, 0)) : scanS (brT A) (2 + i) = (shT 2 t, 2 + e, 0) := by
  have h1 := sh_scan [40, 32] A i
  rw [h] at h1
  have h2 : scanS (brA A) (2 + i) = (shT 2 t, 2 + e, 0) := h1
  have h3 := jn_scan (brA A) [41, 32, 46] (i := 2 + i) (by rw [brA_len]; omega) (by rw [h2])
  rw [h2] at h3
  exact h3
theorem br_last {i : Nat} (hi : i ≤ A.length) (h : (scanS A i).2.2 = 4) (acc : List TokV) : ctF (brT A) (2 + i) acc = .ok (acc ++ [brQ A, brE A], A.length + 6) := by
  have h1 := sh_scan [40, 32] A i
  have h2 : (scanS (brA A) (2 + i)).2.2 = 4 := by
    have : scanS (brA A) (2 + i) = shScan 2 (scanS A i) := h1
    rw [this]
    exact h
  have h3 := (jn_last (brA A) [41, 32, 46] (i := 2 + i) (by rw [brA_len]; omega) h2).2
  have h4 := scan_lay (W := brT A) (i := 2 + i) (j := (brA A).length + 1) (by rw [brA_len]; omega) h3
  have hl : ((brA A) ++ [10]).length = A.length + 3 := by simp [brA]
  have h5 := sh_scan ((brA A) ++ [10]) [41, 32, 46] 0
  have h6 := sh_scan ((brA A) ++ [10]) [41, 32, 46] 1
  rw [← brT_eq, hl] at h5 h6
  have k0 : scanS [41, 32, 46] 0 = (⟨5, ⟨#[41]⟩, 0, 0, false⟩, 1, 0) := by rfl
  have k1 : scanS [41, 32, 46] 1 = (⟨6, ⟨#[46]⟩, 0, 2, true⟩, 3, 0) := by rfl
  rw [k0] at h5
  rw [k1] at h6
  rw [show (brA A).length + 1 = A.length + 3 + 0 from by rw [brA_len]] at h4
  rw [h5] at h4
  have h7 : scanS (brT A) (2 + i) = (brQ A, A.length + 4, 0) := by
    rw [h4]
    simp [shScan, shT, brQ]
  have h8 : scanS (brT A) (A.length + 4) = (brE A, A.length + 6, 0) := by
    have : scanS (brT A) (A.length + 4) = _ := h6
    rw [this]
    simp [shScan, shT, brE]
    omega
  rw [ctF_eq (by rw [brT_len]; omega) h7, if_neg (by simp), if_neg (by simp), if_neg (by simp [brQ]), ctF_eq (by rw [brT_len]; omega) h8, if_neg (by simp), if_neg (by simp), if_pos (by simp [brE])]
  simp
theorem br_ct : ∀ (n i : Nat) (acc T : List TokV) (k : Nat), A.length + 1 - i ≤ n → i ≤ A.length → toks A i = (T, k, 0) → (∀ t ∈ T, t.kind ≠ 6) → ctF (brT A) (2 + i) acc = .ok (acc ++ (T.map (shT 2) ++ [brQ A, brE A]), A.length + 6)
  | 0, i, _, _, _, h, hi, _, _ => by omega
  | n + 1, i, acc, T, k, h, hi, hT, hk => by
    rw [toks_eq hi] at hT
    split at hT
    · next h4 =>
      injection hT with hT _
      subst hT
      exact br_last A hi h4 acc
    · next h4 =>
      split at hT
      · next h0 =>
        injection hT with _ hT
        injection hT with _ hT
        exact absurd hT h0
      · next h0 =>
        have h0' : (scanS A i).2.2 = 0 := Decidable.byContradiction fun g => h0 g
        have hst := scanS_step h0'
        obtain ⟨t, j, x, hsc⟩ : ∃ t j x, scanS A i = (t, j, x) := ⟨_, _, _, rfl⟩
        rw [hsc] at hT h0' hst
        simp only at hT h0' hst
        subst h0'
        obtain ⟨T2, k2, x2, h2⟩ : ∃ T k x, toks A j = (T, k, x) := ⟨_, _, _, rfl⟩
        rw [h2] at hT
        simp only at hT
        split at hT
        · next hx2 =>
          subst hx2
          injection hT with hT _
          subst hT
          rw [ctF_eq (by rw [brT_len]; omega) (br_scan A hi hsc), if_neg (by simp), if_neg (by simp), if_neg (show ¬ (shT 2 t).kind = 6 from hk t (by simp))]
          rw [br_ct n j _ T2 k2 (by omega) hst.2 h2 (fun u hu => hk u (List.mem_cons_of_mem _ hu))]
          simp
        · next g =>
          injection hT with _ hT
          injection hT with _ hT
          exact absurd hT g
theorem br_first : scanS (brT A) 0 = (brP, 1, 0) := by
  have h0 : (brT A)[0]? = some 40 := by simp [brT, brA, joinT]
  have h1 : (brT A)[1]? = some 32 := by simp [brT, brA, joinT]
  have hs : skipTo (brT A) 0 = (0, true) := skip_none h0 (by decide) (by decide) (fun e => absurd e.1 (by decide))
  have ho : oneS (brT A) 0 40 = .ok (5, [40], 0, 1) := by
    unfold oneS
    rw [if_neg (by unfold endsS; simp), if_neg (by decide), if_neg (by decide), if_neg (by decide), if_neg (by decide), if_neg (by decide), if_pos (by decide)]
    rfl
  rw [scanS_ok hs h0 ho]
  rfl
theorem br_second : skipTo (brT A) 1 = skipTo (brT A) 2 := by
  have h1 : (brT A)[1]? = some 32 := by simp [brT, brA, joinT]
  rw [skipTo_eq h1, if_pos (by decide)]
end
/-- What was gathered ahead is no matter. -/
theorem ct_pre (B : List UInt8) : ∀ (n i : Nat) (acc l : List TokV) (k : Nat), ctoksN n B i acc = .ok (l, k) → ∃ l', l = acc ++ l' ∧ ∀ acc', ctoksN n B i acc' = .ok (acc' ++ l', k)
  | 0, _, _, _, _, h => by cases h
  | n + 1, i, acc, l, k, h => by
    obtain ⟨t, e, x, hs⟩ : ∃ t e x, scanS B i = (t, e, x) := ⟨_, _, _, rfl⟩
    simp only [ctoksN, hs] at h ⊢
    split at h
    · cases h
    · split at h
      · cases h
      · next h0 =>
        have hx0 : x = 0 := Decidable.byContradiction fun g => h0 g
        subst hx0
        split at h
        · next hk =>
          injection h with h
          injection h with h1 h2
          subst h1 h2
          refine ⟨[t], rfl, fun acc' => ?_⟩
          rw [if_neg (by simp), if_neg (by simp), if_pos hk]
        · next hk =>
          obtain ⟨l', rfl, h3⟩ := ct_pre B n e (acc ++ [t]) l k h
          refine ⟨t :: l', by simp, fun acc' => ?_⟩
          rw [if_neg (by simp), if_neg (by simp), if_neg hk, h3 (acc' ++ [t])]
          simp
theorem br_toks {A : List UInt8} {T : List TokV} {k : Nat} (hT : toks A 0 = (T, k, 0)) (hk : ∀ t ∈ T, t.kind ≠ 6) : ctF (brT A) 0 [] = .ok (brP :: layHead (T.map (shT 2) ++ [brQ A, brE A]), A.length + 6) := by
  have h1 := br_ct A _ 0 [] T k (Nat.le_refl _) (Nat.zero_le _) hT hk
  have h2 := lay_ctF (i := 1) (j := 2) (by omega) (by rw [brT_len]; omega) (br_second A) h1
  obtain ⟨l', h3, h4⟩ := ct_pre _ _ _ _ _ _ h2
  rw [ctF_eq (Nat.zero_le _) (br_first A), if_neg (by simp), if_neg (by simp), if_neg (by simp [brP])]
  have h5 := h4 [brP]
  rw [List.nil_append] at h3
  rw [List.nil_append] at h3
  rw [← h3] at h5
  exact h5

theorem br_read {O : Ops} {A : List UInt8} {T : List TokV} {E : TokV} (hE : E.kind = 6) (hk : ∀ t ∈ T, t.kind ≠ 6) {r : ReadV} {e : Nat} {k : Int} (h : readT O (T ++ [E]) e = (r, k, 0)) (e2 : Nat) :
    readT O (brP :: layHead (T.map (shT 2) ++ [brQ A, brE A])) e2 = (⟨r.t, r.ns, e2⟩, (e2 : Int), 0) := by
  obtain ⟨t, q, ns, ht, h6, hc, rfl, _⟩ := readT_inv h
  have hz := (zed_all (O := O) (z := shT 2) (fun _ => rfl) (fun _ => rfl) (fun _ => rfl) (fun _ => rfl) (5 * (T ++ [E]).length + 5)).term 1200 (T ++ [E]) []
  rw [ht] at hz
  rw [List.map_append, List.map_singleton] at hz
  simp only [PR.map] at hz
  have hE2 : (shT 2 E).kind = 6 := hE
  have hX : (brQ A).kind = 5 := rfl
  have hXs : (brQ A).s.data.toList = [41] := rfl
  obtain ⟨q1, hq1, hy1⟩ := (shut_all (O := O) hE2 hX hXs (R := []) _).term 1200 (T.map (shT 2)) [] t _ ns hz
  have hq0 : q1 = [] := by
    cases q1 with
    | nil => rfl
    | cons u q1 =>
      exfalso
      have hu := left_mem hy1 u (by simp)
      have hu6 : u.kind = 6 := by
        cases q with
        | nil => cases h6
        | cons v q =>
          injection hq1 with hq1 _
          rw [← hq1]
          have h7 : some v.kind = some 6 := h6
          exact Option.some.inj h7
      rw [List.mem_append, List.mem_map] at hu
      rcases hu with ⟨v, hv, rfl⟩ | hu
      · exact hk v hv hu6
      · rw [List.mem_singleton] at hu
        subst hu
        rw [hX] at hu6
        cases hu6
  subst hq0
  obtain ⟨q2, hq2, hy2⟩ := (shut_all (O := O) hE2 hX hXs (R := [brE A]) _).term 1200 (T.map (shT 2)) [] t _ ns hz
  obtain rfl : q2 = [] := by
    rw [hq1] at hq2
    have := congrArg List.length hq2
    simp at this
    exact this
  rw [List.nil_append] at hy2
  have hT : T ≠ [] := by
    rintro rfl
    simp only [List.nil_append, List.length_cons, List.length_nil] at ht
    rw [show 5 * (0 + 1) + 5 = 8 + 1 + 1 from rfl] at ht
    simp only [termN, operN, hE] at ht
    cases ht
  obtain ⟨a, T, rfl⟩ := List.exists_cons_of_ne_nil hT
  have hy3 : termN O (5 * (a :: T ++ [E]).length + 5) 1200 ({ shT 2 a with lay := true } :: (T.map (shT 2) ++ [brQ A, brE A])) [] = .ok t [brQ A, brE A] ns := term_lay O _ 1200 (shT 2 a) _ [] hy2
  have hlen : (brP :: layHead ((a :: T).map (shT 2) ++ [brQ A, brE A])).length = T.length + 4 := by simp [layHead]
  have hl2 : (a :: T ++ [E]).length = T.length + 2 := by simp
  rw [hl2] at hy3
  obtain ⟨m, hm⟩ : ∃ m, 5 * (T.length + 4) + 5 = m + 1 + 1 + 1 ∧ 5 * (T.length + 2) + 5 ≤ m := ⟨5 * (T.length + 4) + 2, by omega, by omega⟩
  have hy4 := (up_all O _ m hm.2).term 1200 _ [] t _ ns hy3
  refine readT_of (q := [brE A]) ?_ rfl hc
  rw [hlen, hm.1]
  have hb : operN O (m + 1 + 1) 1200 (brP :: layHead ((a :: T).map (shT 2) ++ [brQ A, brE A])) [] = .ok (t, 0) [brE A] ns := by
    have hl : layHead ((a :: T).map (shT 2) ++ [brQ A, brE A]) = { shT 2 a with lay := true } :: (T.map (shT 2) ++ [brQ A, brE A]) := rfl
    rw [hl]
    have hw : wantP 41 (t, (0 : Int)) [brQ A, brE A] ns = .ok (t, 0) [brE A] ns := rfl
    simp only [operN, bracN]
    rw [if_pos (show brP.kind = 5 from rfl), if_pos (show brP.s.data.toList = [40] from rfl), hy4]
    exact hw
  simp only [termN]
  rw [hb]
  simp only [loopN]
  rfl
/-- A clause in brackets is the same; or a point stands in the text. -/
theorem one_brackets {O : Ops} {A : List UInt8} (hA : A.length ≤ 60000) {r : ReadV} (h : oneR O (ptT A) = (r, 0)) :
    (∃ T k, allS A = (T, k, 0) ∧ ∃ t ∈ T, t.kind = 6) ∨ ∃ T k, allS A = (T, k, 0) ∧ (∀ t ∈ T, t.kind ≠ 6) ∧ ∃ r2, oneR O (brT A) = (r2, 0) ∧ r2.t = r.t := by
  obtain ⟨j, hc, hj, h4⟩ := one_inv (by rw [pt_len]; omega) h
  obtain ⟨l, e, t, ns, hct, hr, rfl, hke⟩ := clause_ct hc
  obtain rfl : j = e := by omega
  rw [allS_toks]
  rcases pt_ct A _ 0 [] l j (Nat.le_refl _) (Nat.zero_le _) hct with ⟨T, E, k, a1, a2, a3, a4, a5⟩ | ⟨a1, a2⟩
  · rw [List.nil_append] at a3
    subst a3
    refine .inr ⟨T, k, a1, a2, ⟨t, ns, ((A.length + 6 : Nat) : Int)⟩, ?_, rfl⟩
    refine one_of (by rw [brT_len]; omega) ?_
    rw [brT_len]
    exact clause_of (br_toks a1 a2) (br_read (A := A) a4 a2 hr _)
  · exact .inl (a2 (pt_four A a1 h4))
end Go.El

/- Law 10: the walk of ParseBrackets. -/
namespace Go.Proofs.YtgcdhffeacdegaaGreatDoor
open Go.RowKit Go.El

theorem tokN_len : ∀ (n : Nat) (B : List UInt8) (i : Nat), (tokN n B i).1.length ≤ n
  | 0, B, i => by simp [tokN]
  | n + 1, B, i => by
    simp only [tokN]
    split
    · simp
    · split
      · simp
      · split
        · simp only [List.length_cons]
          have := tokN_len n B (scanS B i).2.1
          omega
        · simp
theorem allS_len (B : List UInt8) : (allS B).1.length ≤ B.length + 1 := by
  rw [allS_toks]
  have := tokN_len (B.length + 1 - 0) B 0
  unfold toks
  omega
theorem tok_five {w : World} {A : Option Addr} {L : List TokV} (h : El.Src w A L.length 5 (flat tokCells L)) {k : Nat} {t : TokV} (hk : L[k]? = some t) : ∃ b off, A = some ⟨b, off, none⟩ ∧ w.cell? ⟨b, off + k * 5, none⟩ = some (.int .i64 t.kind) ∧ w.cell? ⟨b, off + k * 5 + 1, none⟩ = some (.string t.s) ∧ w.cell? ⟨b, off + k * 5 + 2, none⟩ = some (.int .i64 t.n) ∧ w.cell? ⟨b, off + k * 5 + 3, none⟩ = some (.int .i64 t.at_) ∧ w.cell? ⟨b, off + k * 5 + 4, none⟩ = some (.bool t.lay) := by
  have hlt : k < L.length := (List.getElem?_eq_some_iff.1 hk).1
  obtain ⟨b, off, rfl, hc⟩ := El.Src.form h (by omega) (by omega)
  refine ⟨b, off, rfl, ?_, ?_, ?_, ?_, ?_⟩
  · exact hc (k * 5) _ (flat_at tokCells_len L k 0 t hk (by omega))
  · exact hc (k * 5 + 1) _ (flat_at tokCells_len L k 1 t hk (by omega))
  · exact hc (k * 5 + 2) _ (flat_at tokCells_len L k 2 t hk (by omega))
  · exact hc (k * 5 + 3) _ (flat_at tokCells_len L k 3 t hk (by omega))
  · exact hc (k * 5 + 4) _ (flat_at tokCells_len L k 4 t hk (by omega))
set_option maxRecDepth 100000 in
set_option maxHeartbeats 8000000 in
theorem parseBrackets_any (L : List OpV) (A0 : Option Addr) (c0 : Nat) (s : ByteArray) (w : World) (hl : El.Src w A0 L.length 3 (flat opCells L)) (hL : L.length ≤ 9223372036854775807) (hg : ∀ o ∈ L, o.s.size ≤ 9223372036854775807)  (g : Glob w) (hT : TypesAt 0 w) :
    Calls Tryz.prog 6 #[.slice A0 L.length c0, .string s] w fun e w' => e = .returned (.bool true) ∧ Ext w w' := by
  have HG := Lib.hid g
  have HT := Lib.hid hT
  have HLV := fun W (x : Ext w W) => Lib.hid (lives10_any W (g.ext x) (hT.ext x))
  have HTB := fun W (x : Ext w W) => Lib.hid (tables_any A0 c0 L W (hT.ext x) (hl.ext x) hL hg)
  by_cases hlg : LgO L
  · have HLG := Lib.hid (ops10Large_any A0 c0 L w hl hL hg true (iff_of_true rfl hlg))
    clear g hT hl hg hlg
    go_enter Tryz.func6, Tryz.ntmps6
    go_wp2_with (first | (go_at_call 11; refine HLG.out.mono ?_; rintro e W1 ⟨rfl, x1⟩; have X1 := Lib.hid x1; clear x1) | (go_at_call 12; refine (HLV _ X1.out).out.mono ?_; rintro e W2 ⟨rfl, x⟩; have X2 := Lib.hid (X1.out.trans x); clear x))
    go_ret
    exact ⟨rfl, X2.out⟩
  · have HLG := Lib.hid (ops10Large_any A0 c0 L w hl hL hg false (by simp [hlg]))
    clear g hT hl hg hlg
    by_cases hz : 2000 < s.size
    · go_enter Tryz.func6, Tryz.ntmps6
      go_wp2_with (first | (go_at_call 11; refine HLG.out.mono ?_; rintro e W1 ⟨rfl, x1⟩; have X1 := Lib.hid x1; clear x1) | (go_at_call 12; refine (HLV _ X1.out).out.mono ?_; rintro e W2 ⟨rfl, x⟩; have X2 := Lib.hid (X1.out.trans x); clear x))
      go_ret
      exact ⟨rfl, X2.out⟩
    · go_enter Tryz.func6, Tryz.ntmps6
      go_upto_region 4 with (first | (go_at_call 11; refine HLG.out.mono ?_; rintro e W1 ⟨rfl, x1⟩; have X1 := Lib.hid x1; clear x1) | (go_at_call 13; refine (HTB _ X1.out).out.mono ?_; rintro e W2 ⟨tb, rb, I, Q, rfl, hop, hrf, x2⟩; have X2 := Lib.hid (X1.out.trans x2); have HOP := Lib.hid hop; have HRF := Lib.hid hrf; clear hop hrf x2))
      obtain ⟨tb', m1, m2, etb, htab, hbd⟩ := HOP.out
      injection etb with etb
      injection etb with etb
      injection etb with etb _
      subst etb
      have HOK : Hid (OpsOk W2 tb I Q) := Lib.hid ⟨⟨m1, m2, htab⟩, hbd, HT.out.ext X2.out⟩
      obtain ⟨rb', tv, T, erb, hre, hfn, hbd2⟩ := HRF.out
      injection erb with erb
      injection erb with erb _
      subst erb
      have HRE := Lib.hid hre
      have HFN := Lib.hid hfn
      have HBD := Lib.hid hbd2
      clear htab hbd hre hfn hbd2 HOP HRF
      obtain ⟨P, hP⟩ : ∃ P, (⟨fun s => findO s I, fun s => findO s Q⟩ : Ops) = P := ⟨_, rfl⟩
      have HP := Lib.hid hP
      clear hP
      have HQA := fun (s' : ByteArray) (hs' : s'.size ≤ 60000) V (x : Ext W2 V) => Lib.hid (parseOne_any (s := s') (w := V) hs' (HG.out.ext (X2.out.trans x)) (HOK.out.ext x))
      rw [HP.out] at HQA
      have hpl : oneR P (s.data.toList ++ [32, 46]) = oneR P (ptT s.data.toList) := rfl
      have hsl : s.data.toList.length = s.size := by rw [Array.length_toList]; rfl
      have hsm := oneR_small (O := P) (B := s.data.toList ++ [32, 46]) (by simp; omega)
      obtain ⟨Y, hY⟩ : ∃ Y, oneR P (s.data.toList ++ [32, 46]) = Y := ⟨_, rfl⟩
      have HPA := HQA s (by omega) W2 (Ext.refl _)
      rw [hY] at HPA hsm hpl
      have HSM := Lib.hid hsm
      have HPL := Lib.hid hpl.symm
      clear hY hsm hpl
      obtain ⟨r, y⟩ := Y
      have HP1 := Lib.hid (HPA.out.mono (fun e w' h => h.two))
      clear HPA
      dsimp only at HP1 HSM HPL
      go_upto_region 5 with (go_at_call 19; refine HP1.out.mono ?_; rintro e W3 ⟨a1, d1, n1, m1', rfl, hr, hx⟩; have HR1 := Lib.hid hr; have X3 := Lib.hid (X2.out.trans hx); have XR := Lib.hid hx; clear hr hx)
      have hxa := ext_box4 W3 (.cells #[.int .i64 (Tm.k r.t), .int .i64 (Tm.n r.t), .string (Tm.s r.t), .slice a1 (Tm.l r.t).length d1, .slice n1 r.ns.length m1', .int .i64 r.nx] 35)
      have B1 := Lib.hid (Blk.new W3 35 #[.int .i64 (Tm.k r.t), .int .i64 (Tm.n r.t), .string (Tm.s r.t), .slice a1 (Tm.l r.t).length d1, .slice n1 r.ns.length m1', .int .i64 r.nx])
      have R1 := Lib.hid (HR1.out.ext hxa)
      have X4 := Lib.hid (X3.out.trans hxa)
      have XB := Lib.hid (XR.out.trans hxa)
      clear hxa
      generalize W3.alloc (.cells #[.int .i64 (Tm.k r.t), .int .i64 (Tm.n r.t), .string (Tm.s r.t), .slice a1 (Tm.l r.t).length d1, .slice n1 r.ns.length m1', .int .i64 r.nx] 35) = W4 at *
      generalize W3.heap.size = g7 at *
      by_cases hy : y = 0
      · subst hy
        clear HP1
        go_wp2_with (first | (go_at_call 12; refine (HLV _ X4.out).out.mono ?_; rintro e W5 ⟨rfl, x⟩; have X5 := Lib.hid (X4.out.trans x); have XL := Lib.hid x; clear x))
        have hcv1 := Lib.run_convert_string_bytes (P := Tryz.prog) W5 9 23 5 s Tryz.underlying9 Tryz.underlying23 Tryz.underlying5
        have HB := Lib.hid (bytes_new W5 s)
        have HE := Lib.hid (ext_bytes W5 5 s)
        generalize Lib.bytesWorld W5 5 s = W6 at hcv1 HB HE
        have HRA := fun (cap : Nat) (hc : s.size ≤ cap) => Lib.hid (show Calls Tryz.prog 21 #[.slice (some ⟨W5.heap.size, 0, none⟩) s.size cap] W6 (AllOut W6 (allS s.data.toList)) from by
          have := rAll_any (some ⟨W5.heap.size, 0, none⟩) cap s.data.toList W6 HB.out (by omega) (by omega)
          rw [hsl] at this
          exact this)
        have hbr := one_brackets (O := P) (A := s.data.toList) (by omega) HPL.out
        have HBR := Lib.hid hbr
        clear hbr
        have hal := allS_len s.data.toList
        obtain ⟨Z, hZ⟩ : ∃ Z, allS s.data.toList = Z := ⟨_, rfl⟩
        rw [hZ] at HBR HRA hal
        clear hZ
        rw [hcv1]
        go_simp
        go_upto_region 8 with (go_at_call 21; refine (HRA _ (grownCap_ge _ _ _ _)).out.mono ?_; rintro e W7 ⟨v, rfl, ht, hx⟩; have HTA := Lib.hid ht; have X7 := Lib.hid (X5.out.trans (HE.out.trans hx)); have XM := Lib.hid (XL.out.trans (HE.out.trans hx)); clear ht hx)
        obtain ⟨T, kz, xz⟩ := Z
        dsimp only at HBR HTA hal ⊢
        obtain ⟨Aa, ca, rfl, _, hsa⟩ := HTA.out
        have HSA := Lib.hid hsa
        have hbr : xz = 0 ∧ ((∃ t ∈ T, t.kind = 6) ∨ (∀ t ∈ T, t.kind ≠ 6) ∧ ∃ r2, oneR P (brT s.data.toList) = (r2, 0) ∧ r2.t = r.t) := by
          rcases HBR.out with ⟨T2, k2, h1, h2⟩ | ⟨T2, k2, h1, h2, h3⟩
          · injection h1 with h1 h4
            injection h4 with _ h4
            subst h1
            exact ⟨h4, .inl h2⟩
          · injection h1 with h1 h4
            injection h4 with _ h4
            subst h1
            exact ⟨h4, .inr ⟨h2, h3⟩⟩
        obtain ⟨hxz, hbr⟩ := hbr
        subst hxz
        have HBR2 := Lib.hid hbr
        clear hsa HTA HBR hbr HRA HLG HTB
        go_wp2_with fail
        go_loopw [12] (fun i wr => ∃ k : Nat, k ≤ T.length ∧ i = .int .i64 k ∧ Hid (Ext W7 wr) ∧ Hid (∀ t ∈ T.take k, t.kind ≠ 6)) (fun i _ => T.length + 1 - (intOf i).toNat)
        case atStart => exact ⟨0, Nat.zero_le _, rfl, Lib.hid (Ext.refl _), Lib.hid (by simp)⟩
        case round =>
          obtain ⟨k, hk, rfl, HR, HN⟩ := hrel
          by_cases hlt : k < T.length
          · obtain ⟨t, ht⟩ : ∃ t, T[k]? = some t := ⟨_, List.getElem?_eq_getElem hlt⟩
            obtain ⟨b, off, rfl, c1, c2, c3, c4, c5⟩ := tok_five (HSA.out.ext HR.out) ht
            by_cases h6 : t.kind = 6
            · have e6 : (t.kind == 6) = true := by simpa using h6
              go_wp2_with fail
              go_ret
              exact ⟨rfl, X7.out.trans HR.out⟩
            · have e6 : (t.kind == 6) = false := by simpa using h6
              go_wp2_with fail
              go_roundw
              case rel =>
                refine ⟨k + 1, hlt, by go_num, HR, Lib.hid fun u hu => ?_⟩
                rw [List.take_add_one, ht] at hu
                rcases List.mem_append.1 hu with hu | hu
                · exact HN.out u hu
                · simp at hu
                  rw [hu]
                  exact h6
              case measure => simp [intOf]; omega
          · obtain rfl : k = T.length := by omega
            obtain ⟨r2, hr2, ht2⟩ : ∃ r2, oneR P (brT s.data.toList) = (r2, 0) ∧ r2.t = r.t := by
              rcases HBR2.out with ⟨t, ht, h6⟩ | ⟨_, h⟩
              · exact absurd h6 (HN.out t (by rw [List.take_length]; exact ht))
              · exact h
            obtain ⟨t2, ns2, nx2⟩ := r2
            dsimp only at ht2
            subst ht2
            have hQ : (⟨#[40, 32]⟩ ++ s ++ ⟨#[10, 41]⟩ : ByteArray).data.toList ++ [32, 46] = brT s.data.toList := by simp [brT, brA, joinT]
            have hQz : (⟨#[40, 32]⟩ ++ s ++ ⟨#[10, 41]⟩ : ByteArray).size ≤ 60000 := by
              simp only [ByteArray.size_append]
              have e1 : (⟨#[40, 32]⟩ : ByteArray).size = 2 := rfl
              have e2 : (⟨#[10, 41]⟩ : ByteArray).size = 2 := rfl
              omega
            have HPQ := HQA (⟨#[40, 32]⟩ ++ s ++ ⟨#[10, 41]⟩) hQz wr (XB.out.trans (XM.out.trans HR.out))
            rw [hQ, hr2] at HPQ
            have HP2 := Lib.hid (HPQ.out.mono (fun e w' h => h.two))
            clear HPQ hQ hr2 hQz HQA
            dsimp only at HP2
            go_wp2_with fail
            generalize (⟨#[40, 32]⟩ ++ s ++ ⟨#[10, 41]⟩ : ByteArray) = Q at *
            refine HP2.out.mono ?_
            rintro e W8 ⟨a2, d2, n2, m2', rfl, hr, hx⟩
            have HR2 := Lib.hid hr
            have X8 := Lib.hid (X7.out.trans (HR.out.trans hx))
            have XS := Lib.hid (XM.out.trans (HR.out.trans hx))
            clear hr hx HP2
            go_upto_region 14 with fail
            have hxb := ext_box4 W8 (.cells #[.int .i64 (Tm.k r.t), .int .i64 (Tm.n r.t), .string (Tm.s r.t), .slice a2 (Tm.l r.t).length d2, .slice n2 ns2.length m2', .int .i64 nx2] 35)
            have k2 := (Blk.new W8 35 #[.int .i64 (Tm.k r.t), .int .i64 (Tm.n r.t), .string (Tm.s r.t), .slice a2 (Tm.l r.t).length d2, .slice n2 ns2.length m2', .int .i64 nx2]).cell
            have k1 := ((B1.out.ext XS.out).ext hxb).cell
            have hex := exact_any _ r.t r.t (Nat.le_refl _) (by have := HSM.out.sz; omega) a1 a2 d1 d2 _ _ _ ((R1.out.tm.ext XS.out).ext hxb) (HR2.out.tm.ext hxb)
            rw [exT_refl] at hex
            unfold tmVal at hex
            have HEX := Lib.hid hex
            have X9 := Lib.hid (X8.out.trans hxb)
            clear hxb hex
            generalize W8.alloc (.cells #[.int .i64 (Tm.k r.t), .int .i64 (Tm.n r.t), .string (Tm.s r.t), .slice a2 (Tm.l r.t).length d2, .slice n2 ns2.length m2', .int .i64 nx2] 35) = W9 at *
            generalize W8.heap.size = g9 at *
            go_wp2_with (go_at_call 22; refine HEX.out.mono ?_; rintro e W10 ⟨rfl, x10⟩; have X10 := Lib.hid (X9.out.trans x10); clear x10)
            go_ret
            exact ⟨rfl, X10.out⟩
      · have hy1 : (y != 0) = true := by simpa using hy
        clear hy HP1
        go_wp2_with (first | (go_at_call 12; refine (HLV _ X4.out).out.mono ?_; rintro e W5 ⟨rfl, x⟩; have X5 := Lib.hid (X4.out.trans x); clear x) | (go_at_call 12; refine (HLV _ X5.out).out.mono ?_; rintro e W6 ⟨rfl, x⟩; have X6 := Lib.hid (X5.out.trans x); clear x))
        go_ret
        exact ⟨rfl, X6.out⟩
end Go.Proofs.YtgcdhffeacdegaaGreatDoor
