/- Layers 10 and 11, plain: any written term's tokens are read as it. No program in sight. -/
import Derived.Test.YtgcdhffeacdegaaGreatDoorH40
namespace Go.El
open Go.Proofs.YtgcdhffeacdegaaGreatDoor
variable {I Q : List OpV}
def wrO (o : OpsV) (t : Tm) (m : Int) : Option OpV := (o.bind fun q => oprT q.1 q.2 t).bind fun p => if m < p.p then none else some p
def prW (o : OpsV) (t : Tm) (m : Int) : Int := match wrO o t m with | none => 0 | some p => p.p
def rtW (o : OpsV) (t : Tm) (m : Int) : Int := match wrO o t m with | none => 0 | some p => rightI p.p p.t
theorem opr_may (h : OpsGood I Q) {t : Tm} {p : OpV} (hp : oprT I Q t = some p) : mayB p.p p.t = true := by
 unfold oprT oprK at hp
 split at hp
 ·cases hp
 ·split at hp
  ·exact (h.inf hp).2.1
  ·split at hp
   ·exact (h.pre hp).2.1
   ·cases hp
theorem wr_may (h : OpsGood I Q) {o : OpsV} (ho : o = none ∨ o = some (I, Q)) {t : Tm} {m : Int} {p : OpV} (hp : wrO o t m = some p) : o = some (I, Q) ∧ oprT I Q t = some p ∧ p.p ≤ m ∧ mayB p.p p.t = true := by
 unfold wrO at hp
 rcases ho with rfl | rfl
 ·cases hp
 ·cases hq : oprT I Q t with
  | none => simp [hq] at hp
  | some x =>
   simp only [Option.bind_some, hq] at hp
   split at hp
   ·cases hp
   ·next hm =>
    injection hp with hp
    subst hp
    exact ⟨rfl, rfl, by omega, opr_may h hq⟩
theorem pr_le (h : OpsGood I Q) {o : OpsV} (ho : o = none ∨ o = some (I, Q)) {t : Tm} {m : Int} (hm : 0 ≤ m) : 0 ≤ rtW o t m ∧ rtW o t m ≤ prW o t m ∧ prW o t m ≤ m := by
 unfold rtW prW
 cases hw : wrO o t m with
 | none => exact ⟨Int.le_refl _, Int.le_refl _, hm⟩
 | some p =>
  obtain ⟨_, _, h1, h2⟩ := wr_may h ho hw
  have := right_le h2
  exact ⟨this.1, this.2, h1⟩
theorem comma_up (h : OpsGood I Q) {o : OpV} (ho : (opsF I Q).fi ⟨#[44]⟩ = some o) : o.p = 1000 := by
 rcases (h.inf ho).2.2.2 with ⟨_, h2⟩ | h2
 ·exact h2
 ·have := (name_ok2 h2).1
  exact absurd this (by decide)
theorem rt_item (h : OpsGood I Q) {bare : Bool} {pr rt : Int} {t : Tm} {ts : List TokV} (ht : Rt (opsF I Q) bare pr rt 999 t ts) (hr : rt ≤ 999) {R : List TokV} {c : UInt8} (hc : isPu R c = true) (hcc : c = 41 ∨ c = 93 ∨ c = 125 ∨ c = 124 ∨ c = 44) {acc : List Int} (ha : ∀ m ∈ acc, 0 ≤ m) (n : Nat) (hn : 5 * ts.length + 1 ≤ n) : termN (opsF I Q) n 999 (ts ++ R) (acc.map vnm) = .ok (rnT t acc) R ((vsT t acc).map vnm) := by
 have hf := fun x (hx : x ≤ 999) => fol_pu (O := opsF I Q) hc hcc bare x (fun _ o ho => by have := comma_up h ho; omega)
 exact ht.whole (Int.le_refl _) (hf rt hr) (hf 999 (Int.le_refl _)).fo ha n hn
theorem row_more {O : Ops} {j : Nat} {lim : Bool} {acc0 : List Tm} {r q : List TokV} {ns ms : List ByteArray} {u : Tm} (h : termN O j 999 r ns = .ok u q ms) (hl : lim = true → acc0.length + 2 ≤ 16 ∨ isPu q 44 = false) : rowN O (j + 1) lim acc0 r ns = if isPu q 44 then rowN O j lim (acc0 ++ [u]) q.tail ms else .ok (acc0 ++ [u]) q ms := by
 simp only [rowN, h]
 split
 ·next hp =>
  rw [if_neg]
  rintro ⟨h1, h2⟩
  rcases hl h1 with g | g
  ·omega
  ·rw [hp] at g; cases g
 ·rfl
def Cl (I Q : List OpV) (o : OpsV) (N : Nat) : Prop := ∀ t, szT t ≤ N → okT t = true → ∀ m : Int, 0 ≤ m → m ≤ 1200 → ∀ r, Sp r → ∃ ts, Lx (txT o t m ++ r) ts r ∧ Rt (opsF I Q) (bareT (some (I, Q)) t) (prW o t m) (rtW o t m) m t ts
theorem rt_row (h : OpsGood I Q) {o : OpsV} (ho : o = none ∨ o = some (I, Q)) {N : Nat} (hc : Cl I Q o N) : ∀ (q : List Tm) (a : Tm), szL (a :: q) ≤ N → okL (a :: q) = true → ∀ r : List UInt8, ∃ ts, Lx (rwT o (a :: q) ++ 41 :: r) ts (41 :: r) ∧
  ∀ (acc0 : List Tm) (R : List TokV) (acc : List Int) (n : Nat), 5 * ts.length + 2 ≤ n → acc0.length + (q.length + 1) ≤ 16 → isPu R 41 = true → (∀ m ∈ acc, 0 ≤ m) → rowN (opsF I Q) n true acc0 (ts ++ R) (acc.map vnm) = .ok (acc0 ++ rnL (a :: q) acc) R ((vsL (a :: q) acc).map vnm)
 | [], a, hs, hk, r => by
  simp only [szL] at hs
  simp only [okL, Bool.and_eq_true] at hk
  obtain ⟨ts, h1, h2⟩ := hc a (by omega) hk.1 999 (by decide) (by decide) (41 :: r) (sp_cons r (by decide))
  refine ⟨ts, by simpa [rwT, rrT] using h1, fun acc0 R acc n hn h16 hR ha => ?_⟩
  have hp := pr_le h ho (t := a) (m := 999) (by decide)
  obtain ⟨j, rfl⟩ : ∃ j, n = j + 1 := ⟨n - 1, by omega⟩
  have hw := rt_item h h2 (by omega) hR (.inl rfl) ha j (by omega)
  have h44 : isPu R 44 = false := by
   obtain ⟨t, q, rfl, hk, hs⟩ := pu_head hR
   rw [pu_of hk hs]
   decide
  rw [row_more hw (fun _ => .inr h44), h44]
  simp [rnL, vsL]
 | b :: q, a, hs, hk, r => by
  simp only [szL] at hs
  simp only [okL, Bool.and_eq_true] at hk
  obtain ⟨ts2, g1, g2⟩ := rt_row h ho hc q b (by simp only [szL]; omega) (by simp only [okL, Bool.and_eq_true]; exact hk.2) r
  obtain ⟨ts, h1, h2⟩ := hc a (by omega) hk.1 999 (by decide) (by decide) (44 :: (rwT o (b :: q) ++ 41 :: r)) (sp_cons _ (by decide))
  refine ⟨ts ++ pun 44 :: ts2, ?_, fun acc0 R acc n hn h16 hR ha => ?_⟩
  ·have := (h1.trans ((lx_punct 44 (by decide) _).trans g1))
   simpa [rwT, rrT] using this
  ·have hp := pr_le h ho (t := a) (m := 999) (by decide)
   simp only [List.length_append, List.length_cons] at hn h16
   obtain ⟨j, rfl⟩ : ∃ j, n = j + 1 := ⟨n - 1, by omega⟩
   have h44 : isPu (pun 44 :: (ts2 ++ R)) 44 = true := by rw [pun_pu]; rfl
   have hw := rt_item h h2 (by omega) h44 (.inr (.inr (.inr (.inr rfl)))) ha j (by omega)
   rw [List.append_assoc, List.cons_append, row_more hw (fun _ => .inl (by omega)), h44, if_pos rfl, List.tail_cons, g2 (acc0 ++ [rnT a acc]) R (vsT a acc) j (by omega) (by simp; omega) hR (vs_pos a acc hk.1 ha)]
   simp [rnL, vsL]
def listE (O : Ops) (n : Nat) : PR (List Tm) → PR (Tm × Int)
 | .bad q => .bad q
 | .ok l q ms => if isPu q 124 then (match termN O n 999 q.tail ms with
   | .bad q2 => .bad q2
   | .ok u q2 m2 => wantP 93 (listT l u, 0) q2 m2)
  else wantP 93 (listT l (atomT nilB), 0) q ms
def listK (O : Ops) (n1 n2 : Nat) (acc0 : List Tm) (R : List TokV) (ns : List ByteArray) : PR (Tm × Int) := listE O n2 (if isPu R 44 then rowN O n1 false acc0 R.tail ns else .ok acc0 R ns)
theorem row_list {O : Ops} {j n2 : Nat} {acc0 : List Tm} {r q : List TokV} {ns ms : List ByteArray} {u : Tm} (h : termN O j 999 r ns = .ok u q ms) : listE O n2 (rowN O (j + 1) false acc0 r ns) = listK O j n2 (acc0 ++ [u]) q ms := by
 rw [row_more h (fun h => by cases h)]
 rfl
theorem list_snoc (l : List Tm) (x u : Tm) : listT (l ++ [x]) u = listT l (.mk 4 0 dotB [x, u]) := by simp [listT]
theorem len_two {α : Type} {l : List α} (h : l.length = 2) : ∃ x y, l = [x, y] := by
 match l, h with
 | [x, y], _ => exact ⟨x, y, rfl⟩
theorem ls_form {k : Int} {s : ByteArray} {l : List Tm} (h : isLs k s l.length = true) : k = 4 ∧ s = dotB ∧ ∃ x y, l = [x, y] := by
 unfold isLs at h
 obtain ⟨h1, h2, h3⟩ := of_decide_eq_true h
 exact ⟨h1, mk_of h2, len_two h3⟩
theorem end_eq (o : OpsV) (b : Tm) : endT o b = if isLs b.k b.s b.l.length then 44 :: lsT o b.l else if b.k = 3 ∧ b.s.data.toList = [91, 93] then [93] else 124 :: (txT o b 999 ++ [93]) := by
 cases b with
 | mk k n s l =>
  simp only [endT, Tm.k, Tm.s, Tm.l, txT]
  split
  ·rfl
  ·split
   ·rfl
   ·simp
theorem end_head (o : OpsV) (b : Tm) : ∃ c w, endT o b = c :: w ∧ (c = 44 ∨ c = 93 ∨ c = 124) := by
 rw [end_eq]
 split
 ·exact ⟨_, _, rfl, .inl rfl⟩
 ·split
  ·exact ⟨_, _, rfl, .inr (.inl rfl)⟩
  ·exact ⟨_, _, rfl, .inr (.inr rfl)⟩
theorem end_sp (o : OpsV) (b : Tm) (r : List UInt8) : Sp (endT o b ++ r) := by
 obtain ⟨c, w, h, hc⟩ := end_head o b
 rw [h]
 refine sp_cons _ ?_
 rcases hc with rfl | rfl | rfl <;> decide
theorem part_comp {n : Int} {s : ByteArray} {m : Nat} (h : partK 4 n s m = true) : n = 0 ∧ s.size ≤ 64 ∧ 1 ≤ m ∧ m ≤ 16 := by
 simpa [partK] using h
theorem part_atom {n : Int} {s : ByteArray} {m : Nat} (h : partK 3 n s m = true) : n = 0 ∧ s.size ≤ 64 ∧ m = 0 := by
 simpa [partK] using h
theorem part_int {n : Int} {s : ByteArray} {m : Nat} (h : partK 2 n s m = true) : -9007199254740991 ≤ n ∧ n ≤ 9007199254740991 ∧ s.size = 0 ∧ m = 0 := by
 simpa [partK] using h
theorem rt_end (h : OpsGood I Q) {o : OpsV} (ho : o = none ∨ o = some (I, Q)) {N : Nat} (hc : Cl I Q o N) : ∀ (K : Nat) (b : Tm), szT b ≤ K → szT b ≤ N → okT b = true → ∀ r : List UInt8, ∃ ts, Lx (endT o b ++ r) ts r ∧ (∃ a l, ts = a :: l ∧ (a = pun 44 ∨ a = pun 93 ∨ a = pun 124)) ∧
  ∀ (n1 n2 : Nat) (acc0 : List Tm) (R : List TokV) (acc : List Int), 5 * ts.length + 2 ≤ n1 → 5 * ts.length + 2 ≤ n2 → (∀ m ∈ acc, 0 ≤ m) → listK (opsF I Q) n1 n2 acc0 (ts ++ R) (acc.map vnm) = .ok (listT acc0 (rnT b acc), 0) R ((vsT b acc).map vnm)
 | 0, b, hK, _, _, _ => by have := szT_pos b; omega
 | K + 1, b, hK, hN, hk, r => by
  rw [end_eq]
  by_cases hl : isLs b.k b.s b.l.length = true
  ·rw [if_pos hl]
   obtain ⟨k, n, s, l⟩ := b
   simp only [Tm.k, Tm.s, Tm.l] at hl ⊢
   obtain ⟨rfl, rfl, x, y, rfl⟩ := ls_form hl
   simp only [okT, okL, Bool.and_eq_true] at hk
   obtain ⟨rfl, _⟩ := part_comp hk.1
   simp only [szT, szL] at hK hN
   obtain ⟨ts2, g1, g2, g3⟩ := rt_end h ho hc K y (by omega) (by omega) hk.2.2.1 r
   obtain ⟨ts, h1, h2⟩ := hc x (by omega) hk.2.1 999 (by decide) (by decide) (endT o y ++ r) (end_sp o y r)
   refine ⟨pun 44 :: (ts ++ ts2), ?_, ⟨_, _, rfl, .inl rfl⟩, fun n1 n2 acc0 R acc hn1 hn2 ha => ?_⟩
   ·have := (lx_punct 44 (by decide) _).trans (h1.trans g1)
    simpa [lsT, lrT] using this
   ·have hp := pr_le h ho (t := x) (m := 999) (by decide)
    simp only [List.length_append, List.length_cons] at hn1 hn2
    obtain ⟨j, rfl⟩ : ∃ j, n1 = j + 1 := ⟨n1 - 1, by omega⟩
    have hq : ∃ c, isPu (ts2 ++ R) c = true ∧ (c = 41 ∨ c = 93 ∨ c = 125 ∨ c = 124 ∨ c = 44) := by
     obtain ⟨a, l, rfl, hal⟩ := g2
     rcases hal with rfl | rfl | rfl
     ·exact ⟨44, by rw [List.cons_append, pun_pu]; rfl, by simp⟩
     ·exact ⟨93, by rw [List.cons_append, pun_pu]; rfl, by simp⟩
     ·exact ⟨124, by rw [List.cons_append, pun_pu]; rfl, by simp⟩
    obtain ⟨c, hq1, hq2⟩ := hq
    have hw := rt_item h h2 (by omega) hq1 hq2 ha j (by omega)
    unfold listK
    rw [List.cons_append, pun_pu, if_pos (by decide), List.tail_cons, List.append_assoc, row_list hw, g3 j n2 _ R _ (by omega) (by omega) (vs_pos x acc hk.2.1 ha), list_snoc]
    simp [rnT, rnL, vsT, vsL]
  ·rw [if_neg hl]
   by_cases hnl : b.k = 3 ∧ b.s.data.toList = [91, 93]
   ·rw [if_pos hnl]
    refine ⟨[pun 93], lx_punct 93 (by decide) r, ⟨_, _, rfl, .inr (.inl rfl)⟩, fun n1 n2 acc0 R acc _ _ ha => ?_⟩
    obtain ⟨k, n, s, l⟩ := b
    simp only [Tm.k, Tm.s] at hnl
    obtain ⟨rfl, hs⟩ := hnl
    obtain rfl : s = nilB := mk_of hs
    simp only [okT, Bool.and_eq_true] at hk
    obtain ⟨rfl, _, hl0⟩ := part_atom hk.1
    obtain rfl := List.length_eq_zero_iff.1 hl0
    unfold listK
    rw [List.cons_append, List.nil_append, pun_pu, if_neg (by decide)]
    simp only [listE, pun_pu]
    rw [if_neg (by decide), want_pun]
    simp [rnT, rnL, vsT, vsL, atomT]
   ·rw [if_neg hnl]
    obtain ⟨ts, h1, h2⟩ := hc b hN hk 999 (by decide) (by decide) (93 :: r) (sp_cons r (by decide))
    refine ⟨pun 124 :: (ts ++ [pun 93]), ?_, ⟨_, _, rfl, .inr (.inr rfl)⟩, fun n1 n2 acc0 R acc hn1 hn2 ha => ?_⟩
    ·have := (lx_punct 124 (by decide) _).trans (h1.trans (lx_punct 93 (by decide) r))
     simpa using this
    ·have hp := pr_le h ho (t := b) (m := 999) (by decide)
     simp only [List.length_append, List.length_cons] at hn1 hn2
     have hw := rt_item h h2 (by omega) (R := pun 93 :: R) (c := 93) (by rw [pun_pu]; rfl) (by simp) ha n2 (by omega)
     unfold listK
     rw [List.cons_append, pun_pu, if_neg (by decide)]
     simp only [listE, pun_pu]
     rw [if_pos (by decide), List.tail_cons, List.append_assoc, List.singleton_append, hw]
     exact want_pun 93 _ _ _
theorem rt_list (h : OpsGood I Q) {o : OpsV} (ho : o = none ∨ o = some (I, Q)) {N : Nat} (hc : Cl I Q o N) {x y : Tm} (hx : szT x ≤ N) (hy : szT y ≤ N) (kx : okT x = true) (ky : okT y = true) (m : Int) (r : List UInt8) : ∃ ts, Lx ([91] ++ lsT o [x, y] ++ r) ts r ∧ Rt (opsF I Q) false 0 0 m (.mk 4 0 dotB [x, y]) ts := by
 obtain ⟨ts2, g1, g2, g3⟩ := rt_end h ho hc _ y (Nat.le_refl _) hy ky r
 obtain ⟨ts, h1, h2⟩ := hc x hx kx 999 (by decide) (by decide) (endT o y ++ r) (end_sp o y r)
 refine ⟨pun 91 :: (ts ++ ts2), ?_, ⟨_, _, rfl, rfl, rfl⟩, fun _ R => rfl, fun {M R acc k u q ms} _ hf ha hl => ?_⟩
 ·have := (lx_punct 91 (by decide) _).trans (h1.trans g1)
  simpa [lsT, lrT] using this
 ·have hp := pr_le h ho (t := x) (m := 999) (by decide)
  have hq : ∃ c, isPu (ts2 ++ R) c = true ∧ (c = 41 ∨ c = 93 ∨ c = 125 ∨ c = 124 ∨ c = 44) := by
   obtain ⟨a, l, rfl, hal⟩ := g2
   rcases hal with rfl | rfl | rfl
   ·exact ⟨44, by rw [List.cons_append, pun_pu]; rfl, by simp⟩
   ·exact ⟨93, by rw [List.cons_append, pun_pu]; rfl, by simp⟩
   ·exact ⟨124, by rw [List.cons_append, pun_pu]; rfl, by simp⟩
  obtain ⟨c, hq1, hq2⟩ := hq
  obtain ⟨a0, l0, hts2, _⟩ := g2
  have hl2 : 1 ≤ ts2.length := by rw [hts2]; simp
  have hl1 : 1 ≤ ts.length := by
   obtain ⟨a, l, e, _⟩ := h2.ne
   rw [e]
   simp
  obtain ⟨j, hj⟩ : ∃ j, k + 5 * (ts.length + ts2.length + 1) = ((((j + 1) + 1) + 1) + 1) := ⟨k + 5 * (ts.length + ts2.length + 1) - 4, by omega⟩
  have hw := rt_item h h2 (by omega) hq1 hq2 ha j (by omega)
  have h93 : isPu (ts ++ (ts2 ++ R)) 93 = false := by
   obtain ⟨a, l, rfl, n1, n2⟩ := h2.ne
   exact n1
  simp only [List.length_append, List.length_cons]
  rw [hj]
  simp only [termN]
  have hop : operN (opsF I Q) (j + 1 + 1 + 1) M (pun 91 :: (ts ++ ts2) ++ R) (acc.map vnm) = .ok (rnT (.mk 4 0 dotB [x, y]) acc, 0) R ((vsT (.mk 4 0 dotB [x, y]) acc).map vnm) := by
   rw [List.cons_append, oper_pun, brac_sq, List.append_assoc, h93, if_neg (by decide)]
   have := (row_list (n2 := j + 1) (acc0 := []) hw).trans (g3 j (j + 1) _ R _ (by omega) (by omega) (vs_pos x acc kx ha))
   refine Eq.trans ?_ (this.trans ?_)
   ·rfl
   ·simp [listT, rnT, rnL, vsT, vsL]
  rw [hop]
  exact (up_all _ k _ (by omega)).loop _ _ _ _ _ _ _ _ hl
theorem rt_canon (h : OpsGood I Q) {o : OpsV} (ho : o = none ∨ o = some (I, Q)) {N : Nat} (hc : Cl I Q o N) {s : ByteArray} {l : List Tm} (hs : s.size ≤ 64) (hl : szL l ≤ N) (kl : okL l = true) (h1 : 1 ≤ l.length) (h16 : l.length ≤ 16) (m : Int) (r : List UInt8) : ∃ ts, Lx (quoF s.data.toList ++ [40] ++ rwT o l ++ [41] ++ r) ts r ∧ Rt (opsF I Q) false 0 0 m (.mk 4 0 s l) ts := by
 obtain ⟨a, q, rfl⟩ : ∃ a q, l = a :: q := by
  cases l with
  | nil => simp at h1
  | cons a q => exact ⟨a, q, rfl⟩
 obtain ⟨ts, g1, g2⟩ := rt_row h ho hc q a hl kl r
 have hnm := nm_len s
 refine ⟨nmT s ++ (pun 40 :: (ts ++ [pun 41])), ?_, ?_, fun _ R => ?_, fun {M R acc k u q' ms} _ hf ha hlp => ?_⟩
 ·have := (lx_name hs (r := 40 :: (rwT o (a :: q) ++ 41 :: r)) (sp_cons _ (by decide))).trans ((lx_punct 40 (by decide) _).trans (g1.trans (lx_punct 41 (by decide) r)))
  simpa using this
 ·obtain ⟨b, l', e, n1, n2⟩ := name_start s
  exact ⟨b, l' ++ (pun 40 :: (ts ++ [pun 41])), by rw [e]; rfl, n1, n2⟩
 ·rw [List.append_assoc]
  exact begins_name (.inl rfl)
 ·simp only [List.length_append, List.length_cons, List.length_nil]
  obtain ⟨j, hj⟩ : ∃ j, k + 5 * ((nmT s).length + (ts.length + (0 + 1) + 1)) = (j + 3) + 1 := ⟨k + 5 * ((nmT s).length + (ts.length + (0 + 1) + 1)) - 4, by omega⟩
  rw [hj]
  simp only [termN]
  have hop : operN (opsF I Q) (j + 3) M (nmT s ++ (pun 40 :: (ts ++ [pun 41])) ++ R) (acc.map vnm) = .ok (rnT (.mk 4 0 s (a :: q)) acc, 0) R ((vsT (.mk 4 0 s (a :: q)) acc).map vnm) := by
   rw [List.append_assoc]
   refine oper_name (R := pun 40 :: (ts ++ [pun 41]) ++ R) (fun n hn => ?_) (.inl rfl)
   obtain ⟨n, rfl⟩ : ∃ i, n = i + 1 := ⟨n - 1, by omega⟩
   simp only [namedN]
   rw [if_pos (show opensB (pun 40 :: (ts ++ [pun 41]) ++ R) = true from rfl), List.cons_append, List.tail_cons, List.append_assoc, List.singleton_append, g2 [] (pun 41 :: R) acc n (by omega) (by simp at h16 ⊢; omega) (by rw [pun_pu]; rfl) ha]
   simp only [want_pun]
   simp [compT, rnT, rnL, vsT]
  rw [hop]
  exact (up_all _ k _ (by omega)).loop _ _ _ _ _ _ _ _ hlp
theorem rt_braces {O : Ops} {bare : Bool} {pr rt : Int} {a : Tm} {ts : List TokV} (ht : Rt O bare pr rt 1200 a ts) {s : ByteArray} (hs : s.data.toList = [123, 125]) (m : Int) : Rt O false 0 0 m (.mk 4 0 s [a]) (pun 123 :: (ts ++ [pun 125])) := by
 obtain rfl : s = curB := mk_of hs
 refine ⟨⟨_, _, rfl, rfl, rfl⟩, fun _ R => rfl, fun {M R acc k u q ms} _ hf ha hl => ?_⟩
 have hw := ht.whole (M := 1200) (R := pun 125 :: R) (acc := acc) (Int.le_refl _) (fol_pu (c := 125) (by rw [pun_pu]; rfl) (by simp) _ _ (fun e => absurd e (by decide))) (fun o ho => by rw [in_pun (by decide)] at ho; cases ho) ha (k + 5 * ts.length + 7) (by omega)
 have h125 : isPu (ts ++ pun 125 :: R) 125 = false := by
  obtain ⟨a, l, rfl, n1, n2⟩ := ht.ne
  exact n2
 rw [show k + 5 * (pun 123 :: (ts ++ [pun 125])).length = (k + 5 * ts.length + 9) + 1 from by simp; omega]
 simp only [termN]
 have ho : operN O (k + 5 * ts.length + 9) M (pun 123 :: (ts ++ [pun 125]) ++ R) (acc.map vnm) = .ok (rnT (.mk 4 0 curB [a]) acc, 0) R ((vsT (.mk 4 0 curB [a]) acc).map vnm) := by
  rw [show k + 5 * ts.length + 9 = (k + 5 * ts.length + 7) + 1 + 1 from rfl, List.cons_append, oper_pun, brac_cur, List.append_assoc, List.singleton_append, h125, if_neg (by decide), hw]
  simp only [want_pun]
  simp [compT, rnT, rnL, vsT, vsL]
 rw [ho]
 exact (up_all O k _ (by omega)).loop _ _ _ _ _ _ _ _ hl
theorem rt_infix {O : Ops} {prA rtA mA prB rtB : Int} {a b : Tm} {A B : List TokV} {s : ByteArray} {p : OpV} {t0 : TokV} (hA : Rt O false prA rtA mA a A) (hB : Rt O false prB rtB (rightI p.p p.t) b B) (ka : okT a = true) (hs : p.s = s) (hmay : mayB p.p p.t = true)
  (h0 : ∀ X, infixF O (t0 :: X) = some p) (h4 : t0.kind ≠ 4) (h40 : ∀ X, opensB (t0 :: X) = false) (hpA : prA ≤ leftI p.p p.t) (hmA : mA ≤ p.p) (hrA : rtA < p.p) (hrB : rtB ≤ rightI p.p p.t) : Rt O false p.p (rightI p.p p.t) p.p (.mk 4 0 s [a, b]) (A ++ t0 :: B) := by
 have hr := right_le hmay
 refine ⟨?_, fun _ R => ?_, fun {M R acc k u q ms} hM hf ha hl => ?_⟩
 ·obtain ⟨x, l, rfl, n1, n2⟩ := hA.ne
  exact ⟨x, l ++ t0 :: B, rfl, n1, n2⟩
 ·rw [List.append_assoc]
  exact hA.be rfl _
 ·rw [List.append_assoc, List.cons_append, show k + 5 * (A ++ t0 :: B).length = (k + 5 + 5 * B.length) + 5 * A.length from by simp; omega]
  refine hA.par (by omega) ⟨h40 _, by simp [numB, h4], fun e => (by cases e), fun o ho => ?_⟩ ha ?_
  ·rw [h0] at ho
   injection ho with ho
   subst ho
   exact hrA
  ·rw [show k + 5 + 5 * B.length = (k + 4 + 5 * B.length) + 1 from by omega]
   simp only [loopN, h0]
   rw [if_neg (by omega), List.tail_cons, hB.whole (Int.le_refl _) ⟨hf.op, hf.nu, fun e => (by cases e), fun o ho => by have := hf.fo o ho; omega⟩ hf.fo (vs_pos a acc ka ha) _ (by omega)]
   simp only
   rw [hs]
   have e1 : rnT (.mk 4 0 s [a, b]) acc = .mk 4 0 s [rnT a acc, rnT b (vsT a acc)] := by simp [rnT, rnL]
   have e2 : vsT (.mk 4 0 s [a, b]) acc = vsT b (vsT a acc) := by simp [vsT, vsL]
   rw [e1, e2] at hl
   exact (up_all O k _ (by omega)).loop _ _ _ _ _ _ _ _ hl
theorem rt_prefix {O : Ops} {prB rtB : Int} {b : Tm} {B : List TokV} {s : ByteArray} {p : OpV} (hB : Rt O false prB rtB (rightI p.p p.t) b B) (hmay : mayB p.p p.t = true) (hfp : O.fp s = some p) (hrB : rtB ≤ rightI p.p p.t) : Rt O false p.p (rightI p.p p.t) p.p (.mk 4 0 s [b]) (⟨1, s, 0, 0, false⟩ :: layHead B) := by
 have hr := right_le hmay
 have hL := hB.lay
 obtain ⟨x, l, hx, n1, n2⟩ := hB.ne
 have hx2 : layHead B = { x with lay := true } :: l := by rw [hx]; rfl
 refine ⟨⟨_, _, rfl, rfl, rfl⟩, fun _ R => ?_, fun {M R acc k u q ms} hM hf ha hl => ?_⟩
 ·simp only [List.cons_append, beginsB, hfp]
  simp
 ·have hw := hL.whole (R := R) (acc := acc) (Int.le_refl _) ⟨hf.op, hf.nu, fun e => (by cases e), fun o ho => by have := hf.fo o ho; omega⟩ hf.fo ha (k + 5 * (layHead B).length + 1 + 1) (by omega)
  rw [show k + 5 * (⟨1, s, 0, 0, false⟩ :: layHead B : List TokV).length = (k + 5 * (layHead B).length + 4) + 1 from by simp; omega]
  simp only [termN]
  have ho : operN O (k + 5 * (layHead B).length + 4) M (⟨1, s, 0, 0, false⟩ :: layHead B ++ R) (acc.map vnm) = .ok (rnT (.mk 4 0 s [b]) acc, p.p) R ((vsT (.mk 4 0 s [b]) acc).map vnm) := by
   rw [show k + 5 * (layHead B).length + 4 = (k + 5 * (layHead B).length + 1 + 1) + 1 + 1 from rfl, List.cons_append, oper_sign]
   simp only [signN]
   have hop : opensB (layHead B ++ R) = false := by rw [hx2]; simp [opensB, layB]
   have hnu : numB (layHead B ++ R) = false := by rw [hx2]; simp [numB]
   have h1 : ¬ opensB (layHead B ++ R) = true := by rw [hop]; decide
   have h2 : ¬ (s = minB ∧ numB (layHead B ++ R) = true) := by rw [hnu]; simp
   have h3 : p.p ≤ M ∧ beginsB O (layHead B ++ R) = true := ⟨hM, hL.be rfl R⟩
   rw [if_neg h1, if_neg h2, hfp]
   simp only
   rw [if_pos h3, hw]
   simp [compT, rnT, rnL, vsT, vsL]
  rw [ho]
  exact (up_all O k _ (by omega)).loop _ _ _ _ _ _ _ _ hl
theorem rt_bes {N : Nat} (hc : Cl I Q (some (I, Q)) N) {a : Tm} (hs : szT a ≤ N) (ka : okT a = true) {m : Int} (hm : 0 ≤ m) (hm2 : m ≤ 1200) (l : List Tm) (r : List UInt8) (hr : Sp r) : ∃ ts pr rt, Lx (besF (some (I, Q)) (a :: l) (txT (some (I, Q)) a m) ++ r) ts r ∧ Rt (opsF I Q) false pr rt m a ts ∧ (pr = 0 ∧ rt = 0 ∨ pr = prW (some (I, Q)) a m ∧ rt = rtW (some (I, Q)) a m) := by
 unfold besF
 simp only [List.head?_cons, Option.map_some, Option.getD_some]
 cases hb : bareT (some (I, Q)) a with
 | false =>
  obtain ⟨ts, h1, h2⟩ := hc a hs ka m hm hm2 r hr
  rw [hb] at h2
  exact ⟨ts, _, _, by simpa [brk] using h1, h2, .inr ⟨rfl, rfl⟩⟩
 | true =>
  obtain ⟨ts, h1, h2⟩ := hc a hs ka m hm hm2 (41 :: r) (sp_cons r (by decide))
  refine ⟨pun 40 :: ts ++ [pun 41], 0, 0, ?_, h2.brk hm2 m, .inl ⟨rfl, rfl⟩⟩
  have := (lx_punct 40 (by decide) _).trans (h1.trans (lx_punct 41 (by decide) r))
  simpa [brk] using this
end Go.El
