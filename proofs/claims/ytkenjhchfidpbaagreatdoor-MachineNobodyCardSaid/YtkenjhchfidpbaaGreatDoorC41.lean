/- Layer 6, the reference: the walk of Large. -/
import Derived.Test.YtkenjhchfidpbaaGreatDoorC40
import Derived.Test.YtkenjhchfidpbaaGreatDoorC23
namespace Go.El

mutual
/-- What Large counts; none: a term is too large. -/
def lgT : Tm → Nat → Nat → Option Nat
  | .mk _ _ s l, d, n => if 6000 < n + 1 + s.size / 16 ∨ 300 < d ∨ 100 < l.length then none else lgL l (d + 1) (n + 1 + s.size / 16)
def lgL : List Tm → Nat → Nat → Option Nat
  | [], _, n => some n
  | a :: r, d, n => (lgT a d n).bind (fun m => lgL r d m)
end
mutual
/-- Names that are no longer than a string may be. -/
def fitT : Tm → Bool
  | .mk _ _ s l => decide (s.size ≤ 9223372036854775807) && fitL l
def fitL : List Tm → Bool
  | [] => true
  | t :: r => fitT t && fitL r
end
theorem fitL_get : ∀ {l : List Tm} {j : Nat} {t : Tm}, fitL l = true → l[j]? = some t → fitT t = true
  | [], j, t, _, h => by simp at h
  | a :: r, 0, t, ho, h => by
    simp at h
    subst h
    simp only [fitL, Bool.and_eq_true] at ho
    exact ho.1
  | a :: r, j + 1, t, ho, h => by
    simp only [fitL, Bool.and_eq_true] at ho
    exact fitL_get (l := r) (j := j) ho.2 (by simpa using h)
theorem fitL_of : ∀ {l : List Tm}, (∀ t ∈ l, fitT t = true) → fitL l = true
  | [], _ => rfl
  | t :: r, h => by
    simp only [fitL, Bool.and_eq_true]
    exact ⟨h t (by simp), fitL_of (fun u hu => h u (by simp [hu]))⟩
theorem lgL_take : ∀ {l : List Tm} {j : Nat} {u : Tm} (d n : Nat), l[j]? = some u → lgL (l.take (j + 1)) d n = (lgL (l.take j) d n).bind (fun m => lgT u d m)
  | [], j, u, d, n, h => by simp at h
  | a :: r, 0, u, d, n, h => by
    simp at h
    subst h
    simp [lgL]
  | a :: r, j + 1, u, d, n, h => by
    simp only [List.take_succ_cons, lgL]
    cases lgT a d n with
    | none => rfl
    | some m => exact lgL_take d m (by simpa using h)
theorem lgL_none : ∀ {l : List Tm} {j : Nat} {u : Tm} {d n m : Nat}, lgL (l.take j) d n = some m → l[j]? = some u → lgT u d m = none → lgL l d n = none
  | [], j, u, d, n, m, _, h, _ => by simp at h
  | a :: r, 0, u, d, n, m, h1, h, h2 => by
    simp at h
    simp [lgL] at h1
    subst h h1
    simp [lgL, h2]
  | a :: r, j + 1, u, d, n, m, h1, h, h2 => by
    simp only [List.take_succ_cons, lgL] at h1 ⊢
    cases ha : lgT a d n with
    | none => rfl
    | some k =>
      rw [ha] at h1
      exact lgL_none (l := r) (j := j) h1 (by simpa using h) h2
mutual
theorem lgT_le : ∀ {t : Tm} {d n m : Nat}, lgT t d n = some m → n + szT t ≤ m ∧ m ≤ 6000 ∧ fitT t = true
  | .mk k i s l, d, n, m, h => by
    simp only [lgT] at h
    split at h
    · cases h
    · rename_i hn
      have := lgL_le h
      simp only [szT, fitT, Bool.and_eq_true, decide_eq_true_eq]
      exact ⟨by omega, by omega, by omega, this.2.2⟩
theorem lgL_le : ∀ {l : List Tm} {d n m : Nat}, lgL l d n = some m → n + szL l ≤ m ∧ (n ≤ 6000 → m ≤ 6000) ∧ fitL l = true
  | [], d, n, m, h => by
    simp only [lgL, Option.some.injEq] at h
    simp only [szL, fitL]
    exact ⟨by omega, by omega, trivial⟩
  | a :: r, d, n, m, h => by
    simp only [lgL] at h
    cases ha : lgT a d n with
    | none => rw [ha] at h; cases h
    | some k =>
      rw [ha] at h
      have h1 := lgT_le ha
      have h2 := lgL_le (l := r) h
      simp only [szL, fitL, Bool.and_eq_true]
      exact ⟨by omega, by omega, h1.2.2, h2.2.2⟩
end
/-- Is a term too large? -/
def bigT (t : Tm) : Bool := (lgT t 0 0).isNone
theorem bigT_no {t : Tm} (h : bigT t = false) : szT t ≤ 6000 := by
  unfold bigT at h
  cases h1 : lgT t 0 0 with
  | none => rw [h1] at h; cases h
  | some m =>
    have := lgT_le h1
    omega

end Go.El
namespace Go.Proofs.YtkenjhchfidpbaaGreatDoor
open Go.RowKit Go.El

/-- What large leaves. -/
def LgPost (x : Option Nat) (g : Nat) (w : World) (e : Ending) (w' : World) : Prop :=
  (∃ m : Nat, x = some m ∧ e = .returned (.bool false) ∧ Blk w' g 3 #[.int .i64 m] ∧ Mods [g] w w') ∨ (x = none ∧ e = .returned (.bool true) ∧ (∃ m : Int, Blk w' g 3 #[.int .i64 m]) ∧ Mods [g] w w')

set_option maxRecDepth 100000 in
set_option maxHeartbeats 4000000 in
theorem large_any : ∀ (N : Nat) (t : Tm), szT t ≤ N → fitT t = true → ∀ (A : Option Addr) (c : Nat) (w : World) (g : Nat) (D : Nat → Prop) (d n : Nat), TmIn D w t A c → (∀ k, D k → k ≠ g) → Blk w g 3 #[.int .i64 n] → n ≤ 6000 → d ≤ 301 →
    Calls Tryz.prog 39 #[tmVal t A c, .int .i64 d, .pointer (some ⟨g, 0, none⟩)] w (LgPost (lgT t d n) g w)
  | 0, t, h => by
    have := szT_pos t
    omega
  | N + 1, .mk k i s l, hN => by
    intro hft A c w g D d n ht hD hB hn hd
    have IH := large_any N
    simp only [szT] at hN
    simp only [fitT, Bool.and_eq_true, decide_eq_true_eq] at hft
    obtain ⟨hsz, hfl⟩ := hft
    have hglt := hB.lt
    unfold tmVal
    simp only [Tm.k, Tm.n, Tm.s, Tm.l]
    have hlg : lgT (.mk k i s l) d n = if 6000 < n + 1 + s.size / 16 ∨ 300 < d ∨ 100 < l.length then none else lgL l (d + 1) (n + 1 + s.size / 16) := by simp only [lgT]
    rw [hlg]
    clear hlg
    generalize hX : (if 6000 < n + 1 + s.size / 16 ∨ 300 < d ∨ 100 < l.length then none else lgL l (d + 1) (n + 1 + s.size / 16)) = X
    have HX := Lib.hid hX
    have H := Lib.hid ht
    have HD := Lib.hid hD
    have HFL := Lib.hid hfl
    have hdv : ((s.size : Int) / 16) = ((s.size / 16 : Nat) : Int) := by omega
    have g0 : w.cell? ⟨g, 0, none⟩ = some (.int .i64 n) := hB.cell 0
    have gf := hB.frozen 0
    clear hX ht hD hfl
    generalize hq : s.size / 16 = q at *
    have hq2 : q ≤ 576460752303423487 := by omega
    clear hq
    have hw1 : IntKind.i64.wrap ((n : Int) + 1) = (n : Int) + 1 := IntWalk.i64_in _ (by omega)
    have hw3 : IntKind.i64.wrap ((d : Int) + 1) = (d : Int) + 1 := IntWalk.i64_in _ (by omega)
    obtain ⟨P, hP⟩ : ∃ P : Int, P = (n : Int) + 1 + (q : Int) := ⟨_, rfl⟩
    have hw2 : IntKind.i64.wrap ((n : Int) + 1 + (q : Int)) = P := by rw [IntWalk.i64_in _ (by omega), hP]
    have HP := Lib.hid hP
    clear hP
    go_enter Tryz.func39, Tryz.ntmps39
    go_upto_region 1 with fail
    refine wp_abs (fun V => Hid (Blk V g 3 #[.int .i64 n]) ∧ Hid (Blk V w.heap.size 24 #[.int .i64 k, .int .i64 i, .string s, .slice A l.length c]) ∧ Hid (Ext w V)) ⟨hB.alloc _, Blk.new w _ _, (Ext.refl w).alloc _⟩ ?_
    rintro V ⟨HB1, HT1, HX1⟩
    clear g0 gf hB
    have g0 : V.cell? ⟨g, 0, none⟩ = some (.int .i64 n) := HB1.out.cell 0
    have gf := HB1.out.frozen 0
    have x2 : V.cell? ⟨w.heap.size, 2, none⟩ = some (.string s) := HT1.out.cell 2
    go_region
    all_goals
      have hB2 : Blk (V.setCell ⟨g, 0, none⟩ (.int .i64 P)).drew g 3 #[.int .i64 P] := (HB1.out.set_ 0 (.int .i64 P)).drewN 1
      have hT2 : Blk (V.setCell ⟨g, 0, none⟩ (.int .i64 P)).drew w.heap.size 24 #[.int .i64 k, .int .i64 i, .string s, .slice A l.length c] := (HT1.out.far (p := ⟨g, 0, none⟩) (by simp; omega) (.int .i64 P)).drewN 1
      have hM2 : Mods [g] w (V.setCell ⟨g, 0, none⟩ (.int .i64 P)).drew := ((Mods.ext HX1.out).setCell (p := ⟨g, 0, none⟩) (.inl (by simp)) (.int .i64 P)).drew
      generalize (V.setCell ⟨g, 0, none⟩ (.int .i64 P)).drew = V2 at hB2 hT2 hM2 ⊢
      have HB2 := Lib.hid hB2
      have HT2 := Lib.hid hT2
      have HM2 := Lib.hid hM2
      clear hB2 hT2 hM2
      clear g0 gf x2 HB1 HT1 HX1 hw1 hw2 hdv
      have g0 : V2.cell? ⟨g, 0, none⟩ = some (.int .i64 P) := HB2.out.cell 0
      have y3 : V2.cell? ⟨w.heap.size, 3, none⟩ = some (.slice A l.length c) := HT2.out.cell 3
      have hP := HP.out
      by_cases c1 : 6000 < P
      · have hx : X = none := by
          rw [← HX.out]
          exact if_pos (.inl (by omega))
        have HXX := Lib.hid hx
        clear hx hP
        go_wp2_with fail
        go_ret
        exact Or.inr ⟨HXX.out, rfl, ⟨_, HB2.out⟩, HM2.out⟩
      · by_cases c2 : 300 < d
        · have hx : X = none := by
            rw [← HX.out]
            exact if_pos (.inr (.inl c2))
          have HXX := Lib.hid hx
          have c3 : (300 : Int) < (d : Int) := by omega
          clear hx hP
          go_wp2_with fail
          go_ret
          exact Or.inr ⟨HXX.out, rfl, ⟨_, HB2.out⟩, HM2.out⟩
        · have c3 : ¬ (300 : Int) < (d : Int) := by omega
          by_cases c4 : 100 < l.length
          · have hx : X = none := by
              rw [← HX.out]
              exact if_pos (.inr (.inr c4))
            have HXX := Lib.hid hx
            have c5 : (100 : Int) < (l.length : Int) := by omega
            clear hx hP
            go_wp2_with fail
            go_ret
            exact Or.inr ⟨HXX.out, rfl, ⟨_, HB2.out⟩, HM2.out⟩
          · have c5 : ¬ (100 : Int) < (l.length : Int) := by omega
            have hx : X = lgL l (d + 1) (n + 1 + q) := by
              rw [← HX.out]
              exact if_neg (by omega)
            have HXX := Lib.hid hx
            have hnq : n + 1 + q ≤ 6000 := by omega
            have hPn : P = ((n + 1 + q : Nat) : Int) := by omega
            rw [hPn] at HB2
            clear hx hP
            go_upto_region 5 with fail
            go_loopw [7] (fun ix wr => ∃ (j m : Nat), j ≤ l.length ∧ m ≤ 6000 ∧ ix = .int .i64 j ∧ Hid (lgL (l.take j) (d + 1) (n + 1 + q) = some m) ∧ Hid (Blk wr g 3 #[.int .i64 m]) ∧ Hid (Blk wr w.heap.size 24 #[.int .i64 k, .int .i64 i, .string s, .slice A l.length c]) ∧ Hid (Mods [g] w wr)) (fun ix _ => l.length - (intOf ix).toNat)
            case atStart => exact ⟨0, n + 1 + q, Nat.zero_le _, hnq, rfl, rfl, HB2, HT2, HM2⟩
            case round =>
              obtain ⟨j, m, hj, hm, rfl, HL, HBr, HTr, HMr⟩ := hrel
              have z3 : wr.cell? ⟨w.heap.size, 3, none⟩ = some (.slice A l.length c) := HTr.out.cell 3
              by_cases hlt : j < l.length
              · have ho : l[j]? = some l[j] := List.getElem?_eq_getElem hlt
                have hsu := szL_get ho
                have hfu := fitL_get HFL.out ho
                have HTK := Lib.hid (lgL_take (d + 1) (n + 1 + q) ho)
                have HNO : Hid (lgT l[j] (d + 1) m = none → lgL l (d + 1) (n + 1 + q) = none) := fun h => lgL_none HL.out ho h
                generalize l[j] = u at *
                obtain ⟨bb, off, A', c', rfl, _, hu, q0, q1, q2, q3⟩ := (TmIn.mods (D' := D) HMr.out (fun k hk => by simpa using HD.out k hk) (fun _ h => h) H.out).child (j := j) ho
                have HC := Lib.hid (IH u (by omega) hfu A' c' wr g D (d + 1) m hu HD.out HBr.out hm (by omega))
                rw [show ((d + 1 : Nat) : Int) = (d : Int) + 1 by omega] at HC
                unfold tmVal at HC
                have hu3 : w.heap.size ≠ g := by omega
                clear ho hu
                cases hlu : lgT u (d + 1) m with
                | none =>
                  rw [hlu] at HC
                  have HC2 := Lib.hid (HC.out.mono (R' := fun e w' => e = .returned (.bool true) ∧ (∃ m : Int, Blk w' g 3 #[.int .i64 m]) ∧ Mods [g] wr w') (fun e w' h => by
                    rcases h with ⟨m', h, _⟩ | ⟨_, h1, h2, h3⟩
                    · cases h
                    · exact ⟨h1, h2, h3⟩))
                  have HNO2 := Lib.hid (HNO.out hlu)
                  clear hlu HC HNO HTK
                  go_wp2_with (go_at_call 39; refine HC2.out.mono ?_; rintro e W1 ⟨rfl, h1, h2⟩; have H1 := Lib.hid h1; have H2 := Lib.hid (HMr.out.trans h2); clear h1 h2)
                  go_ret
                  exact Or.inr ⟨by rw [HXX.out, HNO2.out], rfl, H1.out, H2.out⟩
                | some m2 =>
                  rw [hlu] at HC
                  have hm2 := (lgT_le hlu).2.1
                  have HLU := Lib.hid hlu
                  have HC2 := Lib.hid (HC.out.mono (R' := fun e w' => e = .returned (.bool false) ∧ Blk w' g 3 #[.int .i64 m2] ∧ Mods [g] wr w') (fun e w' h => by
                    rcases h with ⟨m', h, h1, h2, h3⟩ | ⟨h, _⟩
                    · injection h with h
                      subst h
                      exact ⟨h1, h2, h3⟩
                    · cases h))
                  clear hlu HC HNO
                  go_wp2_with (go_at_call 39; refine HC2.out.mono ?_; rintro e W1 ⟨rfl, h1, h2⟩; have H1 := Lib.hid h1; have H2 := Lib.hid (HMr.out.trans h2); have HT3 := Lib.hid (HTr.out.mods h2 (by simp; omega)); clear h1 h2)
                  go_roundw
                  case rel => exact ⟨j + 1, m2, hlt, hm2, by go_num, Lib.hid (by rw [HTK.out, HL.out]; exact HLU.out), H1, HT3, H2⟩
                  case measure => simp [intOf]; omega
              · obtain rfl : j = l.length := by omega
                rw [List.take_length] at HL
                go_wp2_with fail
                go_ret
                exact Or.inl ⟨m, by rw [HXX.out, HL.out], rfl, HBr.out, HMr.out⟩

set_option maxRecDepth 100000 in
theorem refLarge_any (t : Tm) (A : Option Addr) (c : Nat) (w : World) (D : Nat → Prop) (ht : TmIn D w t A c) (hf : fitT t = true) :
    Calls Tryz.prog 18 #[tmVal t A c] w fun e w' => e = .returned (.bool (bigT t)) ∧ Ext w w' := by
  have hx := ext_box w (.cells #[.int .i64 t.k, .int .i64 t.n, .string t.s, .slice A t.l.length c] 24)
  have hb := Blk.new (w.alloc (.cells #[.int .i64 t.k, .int .i64 t.n, .string t.s, .slice A t.l.length c] 24)) 3 #[.int .i64 0]
  have HC := Lib.hid ((large_any (szT t) t (Nat.le_refl _) hf A c _ _ (fun k => k < w.heap.size) 0 0 ((ht.lt.ext hx).ext (ext_box _ (.cells #[.int .i64 0] 3))) (fun k hk => by rw [World.size_alloc]; omega) hb (by omega) (by omega)).mono (R' := fun e w' => e = .returned (.bool (bigT t)) ∧ Ext w w') (fun e w' h => by
    have key : ∀ {w'}, Mods [(w.alloc (.cells #[.int .i64 t.k, .int .i64 t.n, .string t.s, .slice A t.l.length c] 24)).heap.size] ((w.alloc (.cells #[.int .i64 t.k, .int .i64 t.n, .string t.s, .slice A t.l.length c] 24)).alloc (.cells #[.int .i64 0] 3)) w' → Ext w w' := fun {w'} hm => ext_mods (hx.trans (ext_box _ _)) hm (fun k hk => by
      rw [World.size_alloc] at hk
      simp at hk
      omega)
    unfold bigT
    rcases h with ⟨m, h1, h2, h3, h4⟩ | ⟨h1, h2, _, h4⟩
    · rw [h1]
      exact ⟨h2, key h4⟩
    · rw [h1]
      exact ⟨h2, key h4⟩))
  rw [World.size_alloc] at HC
  unfold tmVal at HC ⊢
  clear ht hf hb
  generalize bigT t = r at *
  go_enter Tryz.func18, Tryz.ntmps18
  go_wp2_with (go_at_call 39; refine HC.out.mono ?_; rintro e W1 ⟨rfl, h1⟩; have H1 := Lib.hid h1; clear h1)
  go_ret
  exact ⟨rfl, H1.out⟩

end Go.Proofs.YtkenjhchfidpbaaGreatDoor

/- Arguments that are terms, opened. Over any program. -/
namespace Go.El
open Go.RowKit Go.ChangeShapes Go.WideShapes Go.ChangeAt Go.Deep Go.Joins

section
variable {H : Type} {enc : TypeId × Value → H} {P : Program} {w : World} {base : Nat} {spare : Nat → Bool} {held : Bool}

/-- The type of terms, as a program lays it. -/
structure TmType (P : Program) (tt tsl ti ts : TypeId) : Prop where
  shape : ∃ f0 f1 f2 f3 : Field, P.underlying tt = some (.struct #[f0, f1, f2, f3]) ∧ f0.type = ti ∧ f1.type = ti ∧ f2.type = ts ∧ f3.type = tsl ∧ f0.offset = 0 ∧ f1.offset = 1 ∧ f2.offset = 2 ∧ f3.offset = 3
  int : P.underlying ti = some (.int .i64)
  str : P.underlying ts = some .string
  sl : P.underlying tsl = some (.slice tt)
  c : P.cellsOf tt = 4
  ci : P.cellsOf ti = 1
  cs : P.cellsOf ts = 1
  cl : P.cellsOf tsl = 1
/-- A term that was read. -/
def TmRead (w : World) (p : TmP) : Prop := TmIn (fun _ => True) w p.1 p.2.1 p.2.2 ∧ fitT p.1 = true

variable {tt tsl ti ts : TypeId}

theorem fit_map {L : List TmP} (h : ∀ p ∈ L, fitT p.1 = true) : fitL (L.map (·.1)) = true :=
  fitL_of (fun t ht => by
    obtain ⟨p, hp, rfl⟩ := List.mem_map.1 ht
    exact h p hp)

/-- A slice of terms, where each reads. -/
theorem tms_of_trod (T : TmType P tt tsl ti ts) {fuel : Nat} {cs : List Value} {x : DataW H × List MemPlace} (hel : ∀ n, n < fuel → ∀ (cs : List Value) (x : DataW H × List MemPlace), DataW.trod enc P w base spare held n tt cs = some x → ∃ p : TmP, cs = tmC p ∧ TmRead w p)
    (h : DataW.trod enc P w base spare held fuel tsl cs = some x) : ∃ (A : Option Addr) (L : List TmP) (c : Nat), cs = [.slice A L.length c] ∧ (∀ p ∈ L, TmRead w p) ∧ TmIn (fun _ => True) w (.mk 0 0 ⟨#[]⟩ (L.map (·.1))) A c ∧ L.length ≤ maxLen := by
  rcases DataW.trod_slice T.sl h with ⟨h2, _⟩ | ⟨a, len, cap, elems, rest, n, hn, hcs, _, hb, hl, hm, hlen, hall, _, _⟩
  · exact ⟨none, [], 0, h2, fun p hp => by simp at hp, .mk 0 0 _ [] none 0 [] rfl (fun j t c h => by simp at h) (fun h => absurd rfl h) (Nat.zero_le _), Nat.zero_le _⟩
  · obtain ⟨L, hL, hp⟩ := list_of_all (p := fun i (q : TmP) => w.cells? base (a.add (i * 4)) 4 = some (tmC q) ∧ TmRead w q) len (fun i hil => by
      have hi := hall i hil
      rw [List.getElem?_eq_getElem (by omega), T.c] at hi
      obtain ⟨cs', h1, h2⟩ := Option.bind_eq_some_iff.1 hi
      obtain ⟨q, e, g⟩ := hel n (by omega) cs' _ h2
      rw [e] at h1
      exact ⟨q, h1, g⟩)
    subst hL
    have hsrc : Src w (some a) L.length 4 (flat tmC L) := src_of_cells tmC_len (by omega) (fun i q hq j u hu => by
      obtain ⟨_, _, hat⟩ := World.cells?_some (hp i q hq).1
      have hj : j < 4 := by
        have := (List.getElem?_eq_some_iff.1 hu).1
        rwa [tmC_len] at this
      rw [← Go.Deep.add_add]
      exact (hat j hj).trans hu)
    have hrd : ∀ q ∈ L, TmRead w q := fun q hq => by
      obtain ⟨i, hi⟩ := List.mem_iff_getElem?.1 hq
      exact (hp i q hi).2
    exact ⟨some a, L, cap, hcs, hrd, Go.Proofs.YtkenjhchfidpbaaGreatDoor.src_tm hsrc (fun q hq => (hrd q hq).1) (fun _ _ _ => trivial) hl 0 0 ⟨#[]⟩, by omega⟩

theorem tm_of_trod (T : TmType P tt tsl ti ts) : ∀ (N fuel : Nat), fuel ≤ N → ∀ (cs : List Value) (x : DataW H × List MemPlace), DataW.trod enc P w base spare held fuel tt cs = some x → ∃ p : TmP, cs = tmC p ∧ TmRead w p
  | N, fuel, hN, cs, x, h => by
    obtain ⟨f0, f1, f2, f3, hu, t0, t1, t2, t3, o0, o1, o2, o3⟩ := T.shape
    obtain ⟨xs, n, hfn, _, hl, hlen, hf⟩ := DataW.trod_struct hu h
    rw [T.c] at hl
    match cs, hl with
    | [c0, c1, c2, c3], _ =>
      have h0 := hf 0 f0 rfl
      have h1 := hf 1 f1 rfl
      have h2 := hf 2 f2 rfl
      have h3 := hf 3 f3 rfl
      match xs, hlen with
      | [x0, x1, x2, x3], _ =>
        rw [t0, o0, T.ci] at h0
        rw [t1, o1, T.ci] at h1
        rw [t2, o2, T.cs] at h2
        rw [t3, o3, T.cl] at h3
        simp only [List.drop_zero, List.drop_succ_cons, List.take_succ_cons, List.take_zero, List.getElem?_cons_zero, List.getElem?_cons_succ] at h0 h1 h2 h3
        obtain ⟨k, e0, _, _⟩ := DataW.trod_int T.int h0
        obtain ⟨i, e1, _, _⟩ := DataW.trod_int T.int h1
        obtain ⟨s, e2, _, w2⟩ := DataW.trod_string T.str h2
        match N, hN with
        | 0, hN => omega
        | N + 1, hN =>
          obtain ⟨A, L, c, e3, hr, ht, _⟩ := tms_of_trod T (fun m hm cs' x' h' => tm_of_trod T N m (by omega) cs' x' h') h3
          simp only [List.cons.injEq, and_true] at e0 e1 e2 e3
          refine ⟨(.mk k i s (L.map (·.1)), A, c), ?_, TmsIn.term ht k i s, ?_⟩
          · rw [e0, e1, e2, e3]
            simp [tmC, Tm.k, Tm.n, Tm.s, Tm.l]
          · simp only [fitT, Bool.and_eq_true, decide_eq_true_eq]
            refine ⟨by unfold maxLen at w2; omega, fit_map (fun p hp => (hr p hp).2)⟩
  termination_by N => N

theorem open_tm (T : TmType P tt tsl ti ts) {r : Reach} {b0 : Nat} {v : Value} {d : DataW H} {ps : List MemPlace} (hv : Value.okWide P w r b0 tt v) (h : DataW.Trod enc P w base spare held tt v d ps) :
    ∃ (t : Tm) (A : Option Addr) (c : Nat), v = tmVal t A c ∧ TmIn (fun _ => True) w t A c ∧ fitT t = true := by
  obtain ⟨_, _, _, _, hu, _⟩ := T.shape
  obtain ⟨cs, rfl, _⟩ := okWide_struct hu hv
  obtain ⟨fuel, hf⟩ := h
  obtain ⟨⟨t, A, c⟩, e, h1, h2⟩ := tm_of_trod T fuel fuel (Nat.le_refl _) _ _ hf
  obtain ⟨l⟩ := cs
  simp only [Value.cells] at e
  subst e
  exact ⟨t, A, c, rfl, h1, h2⟩

theorem open_tms (T : TmType P tt tsl ti ts) {r : Reach} {b0 : Nat} {v : Value} {d : DataW H} {ps : List MemPlace} (hv : Value.okWide P w r b0 tsl v) (h : DataW.Trod enc P w base spare held tsl v d ps) :
    ∃ (A : Option Addr) (l : List Tm) (c : Nat), v = .slice A l.length c ∧ TmsIn (fun _ => True) w l A c ∧ fitL l = true ∧ l.length ≤ maxLen := by
  obtain ⟨fuel, hf⟩ := h
  have h1 : v.cells.toList = [v] := by
    simp only [Value.okWide, T.sl] at hv
    cases v <;> simp_all [Cell.okWide, Cell.ok, Value.cells]
  rw [h1] at hf
  obtain ⟨A, L, c, e, hr, ht, hm⟩ := tms_of_trod T (fun m _ cs' x' h' => tm_of_trod T m m (Nat.le_refl _) cs' x' h') hf
  simp only [List.cons.injEq, and_true] at e
  exact ⟨A, L.map (fun p : TmP => p.1), c, by simpa using e, ht, fit_map (fun p hp => (hr p hp).2), by simpa using hm⟩
end

end Go.El
