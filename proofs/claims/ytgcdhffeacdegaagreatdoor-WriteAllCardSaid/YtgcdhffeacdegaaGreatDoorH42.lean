/- Layers 10 and 11, plain: a written clause is read as it, its variables numbered as one comes to them; and a canonical text. No program in sight. -/
import Derived.Test.YtgcdhffeacdegaaGreatDoorH41
import Derived.Test.YtgcdhffeacdegaaGreatDoorH22
namespace Go.El
open Go.Proofs.YtgcdhffeacdegaaGreatDoor
variable {I Q : List OpV}
theorem op_two (h : OpsGood I Q) {N : Nat} (hc : Cl I Q (some (I, Q)) N) {s : ByteArray} {p : OpV} (hp : findO s I = some p) {a b : Tm} (ha : szT a ≤ N) (hb : szT b ≤ N) (ka : okT a = true) (kb : okT b = true) (r : List UInt8) (hr : Sp r) : ∃ ts, Lx (besF (some (I, Q)) [a, b] (txT (some (I, Q)) a (leftF I Q p [a, b])) ++ midF s ++ besF (some (I, Q)) [b] (txT (some (I, Q)) b (rightI p.p p.t)) ++ r) ts r ∧ Rt (opsF I Q) false p.p (rightI p.p p.t) p.p (.mk 4 0 s [a, b]) ts := by
 obtain ⟨q1, q2, q3, q4⟩ := h.inf hp
 have hm := may_iff.1 q2
 have hl := left_le q2
 have hri := right_le q2
 have hlf : 0 ≤ leftF I Q p [a, b] ∧ leftF I Q p [a, b] ≤ leftI p.p p.t := by
  unfold leftF
  split
  ·omega
  ·split <;> omega
 obtain ⟨B, prB, rtB, b1, b2, b3⟩ := rt_bes hc hb kb hri.1 (by omega) [] r hr
 have hB := pr_le h (.inr rfl) (o := some (I, Q)) (t := b) (m := rightI p.p p.t) hri.1
 have hrB : rtB ≤ rightI p.p p.t := by rcases b3 with ⟨_, rfl⟩ | ⟨_, rfl⟩ <;> omega
 have hA := pr_le h (.inr rfl) (o := some (I, Q)) (t := a) (m := leftF I Q p [a, b]) hlf.1
 have hrA2 : rtW (some (I, Q)) a (leftF I Q p [a, b]) < p.p := by
  unfold rtW
  cases hw : wrO (some (I, Q)) a (leftF I Q p [a, b]) with
  | none => simp only; omega
  | some x =>
   obtain ⟨_, w2, w3, w4⟩ := wr_may h (.inr rfl) hw
   have hx := may_iff.1 w4
   simp only
   unfold leftF at w3
   simp only [List.head?_cons, Option.bind_some, w2] at w3
   split at w3
   ·omega
   ·omega
 by_cases h44 : s.data.toList = [44]
 ·obtain rfl : s = ⟨#[44]⟩ := mk_of h44
  have e : midF ⟨#[44]⟩ = [44, 32] := if_pos rfl
  rw [e]
  obtain ⟨A, prA, rtA, a1, a2, a3⟩ := rt_bes hc ha ka hlf.1 (by omega) [b] (44 :: 32 :: (besF (some (I, Q)) [b] (txT (some (I, Q)) b (rightI p.p p.t)) ++ r)) (sp_cons _ (by decide))
  refine ⟨A ++ pun 44 :: layHead B, ?_, ?_⟩
  ·have := a1.trans ((lx_punct 44 (by decide) _).trans (lx_lay b2.nil b1 32 (by decide)))
   simpa using this
  ·refine rt_infix a2 b2.lay ka q1 q2 (fun X => ?_) (by decide) (fun X => rfl) ?_ (by omega) ?_ hrB
   ·simp only [infixF, pun_pu]
    rw [if_pos (.inr (by decide))]
    exact hp
   ·rcases a3 with ⟨rfl, _⟩ | ⟨rfl, _⟩ <;> omega
   ·rcases a3 with ⟨_, rfl⟩ | ⟨_, rfl⟩
    ·omega
    ·exact hrA2
 ·have hn : nameBad s = false := by
   rcases q4 with ⟨g, _⟩ | g
   ·exact absurd g h44
   ·exact g
  obtain ⟨n1, n2, n3, n4⟩ := name_ok2 hn
  have e : midF s = [32] ++ quoF s.data.toList ++ [32] := if_neg h44
  have en : nmT s = [⟨1, s, 0, 0, false⟩] := by
   unfold nmT
   rw [if_neg n2, if_neg n3, if_pos n1]
  rw [e]
  obtain ⟨A, prA, rtA, a1, a2, a3⟩ := rt_bes hc ha ka hlf.1 (by omega) [b] (32 :: (quoF s.data.toList ++ 32 :: (besF (some (I, Q)) [b] (txT (some (I, Q)) b (rightI p.p p.t)) ++ r))) (sp_cons _ (by decide))
  have hnm := lx_name (s := s) (r := 32 :: (besF (some (I, Q)) [b] (txT (some (I, Q)) b (rightI p.p p.t)) ++ r)) n4 (sp_cons _ (by decide))
  rw [en] at hnm
  refine ⟨A ++ ⟨1, s, 0, 0, true⟩ :: layHead B, ?_, ?_⟩
  ·have := a1.trans ((lx_blank hnm 32 (by decide)).trans (lx_lay b2.nil b1 32 (by decide)))
   simpa using this
  ·refine rt_infix a2 b2.lay ka q1 q2 (fun X => ?_) (show (1 : Int) ≠ 4 by decide) (fun X => rfl) ?_ (by omega) ?_ hrB
   ·simp only [infixF]
    rw [if_pos (.inl trivial)]
    exact hp
   ·rcases a3 with ⟨rfl, _⟩ | ⟨rfl, _⟩ <;> omega
   ·rcases a3 with ⟨_, rfl⟩ | ⟨_, rfl⟩
    ·omega
    ·exact hrA2
theorem op_one (h : OpsGood I Q) {N : Nat} (hc : Cl I Q (some (I, Q)) N) {s : ByteArray} {p : OpV} (hp : findO s Q = some p) {b : Tm} (hb : szT b ≤ N) (kb : okT b = true) (r : List UInt8) (hr : Sp r) : ∃ ts, Lx (quoF s.data.toList ++ [32] ++ besF (some (I, Q)) [b] (txT (some (I, Q)) b (rightI p.p p.t)) ++ r) ts r ∧ Rt (opsF I Q) false p.p (rightI p.p p.t) p.p (.mk 4 0 s [b]) ts := by
 obtain ⟨q1, q2, q3, q4⟩ := h.pre hp
 have hm := may_iff.1 q2
 have hri := right_le q2
 obtain ⟨B, prB, rtB, b1, b2, b3⟩ := rt_bes hc hb kb hri.1 (by omega) [] r hr
 have hB := pr_le h (.inr rfl) (o := some (I, Q)) (t := b) (m := rightI p.p p.t) hri.1
 have hrB : rtB ≤ rightI p.p p.t := by rcases b3 with ⟨_, rfl⟩ | ⟨_, rfl⟩ <;> omega
 obtain ⟨n1, n2, n3, n4⟩ := name_ok2 q4
 have en : nmT s = [⟨1, s, 0, 0, false⟩] := by
  unfold nmT
  rw [if_neg n2, if_neg n3, if_pos n1]
 have hnm := lx_name (s := s) (r := 32 :: (besF (some (I, Q)) [b] (txT (some (I, Q)) b (rightI p.p p.t)) ++ r)) n4 (sp_cons _ (by decide))
 rw [en] at hnm
 refine ⟨⟨1, s, 0, 0, false⟩ :: layHead B, ?_, rt_prefix b2 q2 hp hrB⟩
 have := hnm.trans (lx_lay b2.nil b1 32 (by decide))
 simpa using this
theorem wr_none {o : OpsV} {t : Tm} (h : ∀ q, o = some q → oprT q.1 q.2 t = none) (m : Int) : prW o t m = 0 ∧ rtW o t m = 0 := by
 have : wrO o t m = none := by
  unfold wrO
  cases o with
  | none => rfl
  | some q => simp [h q rfl]
 unfold prW rtW
 rw [this]
 exact ⟨rfl, rfl⟩
theorem opr_k {q : List OpV × List OpV} {k n : Int} {s : ByteArray} {l : List Tm} (hk : k ≠ 4) : oprT q.1 q.2 (.mk k n s l) = none := by
 unfold oprT oprK
 rw [if_pos (.inl hk)]
theorem op_brk (h : OpsGood I Q) {t : Tm} {p : OpV} (hp : oprT I Q t = some p) {x : List UInt8} (H : ∀ r, Sp r → ∃ ts, Lx (x ++ r) ts r ∧ Rt (opsF I Q) false p.p (rightI p.p p.t) p.p t ts) (m : Int) (r : List UInt8) (hr : Sp r) : ∃ ts, Lx (brk (decide (m < p.p)) x ++ r) ts r ∧ Rt (opsF I Q) false (prW (some (I, Q)) t m) (rtW (some (I, Q)) t m) m t ts := by
 have hm := may_iff.1 (opr_may h hp)
 have hw : wrO (some (I, Q)) t m = if m < p.p then none else some p := by
  unfold wrO
  simp [hp]
 unfold prW rtW
 rw [hw]
 by_cases hlt : m < p.p
 ·rw [if_pos hlt]
  obtain ⟨ts, h1, h2⟩ := H (41 :: r) (sp_cons r (by decide))
  refine ⟨pun 40 :: ts ++ [pun 41], ?_, h2.brk (by omega) m⟩
  have := (lx_punct 40 (by decide) _).trans (h1.trans (lx_punct 41 (by decide) r))
  simpa [brk, hlt] using this
 ·rw [if_neg hlt]
  obtain ⟨ts, h1, h2⟩ := H r hr
  exact ⟨ts, by simpa [brk, hlt] using h1, h2.level (by omega)⟩
theorem size_none {s : ByteArray} (h : s.size = 0) : s = ⟨#[]⟩ := by
 obtain ⟨d⟩ := s
 have : d = #[] := Array.eq_empty_of_size_eq_zero h
 rw [this]
theorem cl_step (h : OpsGood I Q) {o : OpsV} (ho : o = none ∨ o = some (I, Q)) {N : Nat} (hc : Cl I Q o N) : Cl I Q o (N + 1) := by
 rintro ⟨k, n, s, l⟩ hs hk m hm hm2 r hr
 simp only [szT] at hs
 simp only [okT, Bool.and_eq_true] at hk
 obtain ⟨hp, hl⟩ := hk
 by_cases h1 : k = 1
 ·subst h1
  obtain ⟨n1, n2, n3, n4⟩ := part_var hp
  obtain ⟨e1, e2⟩ := wr_none (o := o) (t := .mk 1 n s l) (fun q _ => opr_k (by decide)) m
  rw [e1, e2]
  refine ⟨_, ?_, rt_var n1 s l m⟩
  simpa [txT, isLs, hdF] using lx_var n1 n2 hr
 by_cases h2 : k = 2
 ·subst h2
  obtain ⟨n1, n2, n3, n4⟩ := part_int hp
  obtain rfl := size_none n3
  obtain rfl := List.length_eq_zero_iff.1 n4
  obtain ⟨e1, e2⟩ := wr_none (o := o) (t := .mk 2 n ⟨#[]⟩ []) (fun q _ => opr_k (by decide)) m
  rw [e1, e2]
  refine ⟨_, ?_, rt_int m⟩
  simpa [txT, isLs, hdF, Tm.n] using lx_int n1 n2 hr
 by_cases h3 : k = 3
 ·subst h3
  obtain ⟨rfl, n2, n3⟩ := part_atom hp
  obtain rfl := List.length_eq_zero_iff.1 n3
  obtain ⟨e1, e2⟩ := wr_none (o := o) (t := .mk 3 0 s []) (fun q _ => opr_k (by decide)) m
  rw [e1, e2]
  refine ⟨_, ?_, rt_atom (b := bareT (some (I, Q)) (.mk 3 0 s [])) (fun g => ?_) m⟩
  ·simpa [txT, isLs, hdF] using lx_name n2 hr
  ·have : isOp (some (I, Q)) s = true := by
    simp only [isOp, Bool.or_eq_true]
    exact g
   simp [bareT, Tm.k, Tm.s, this]
 by_cases h4 : k = 4
 ·subst h4
  obtain ⟨rfl, n2, n3, n4⟩ := part_comp hp
  have hbare : bareT (some (I, Q)) (.mk 4 0 s l) = false := by simp [bareT, Tm.k]
  rw [hbare]
  by_cases hls : isLs 4 s l.length = true
  ·obtain ⟨_, rfl, x, y, rfl⟩ := ls_form hls
   simp only [okL, Bool.and_eq_true] at hl
   simp only [szL] at hs
   obtain ⟨e1, e2⟩ := wr_none (o := o) (t := .mk 4 0 dotB [x, y]) (fun q _ => by unfold oprT oprK; rw [if_pos (.inr (.inl ⟨rfl, rfl⟩))]) m
   rw [e1, e2]
   obtain ⟨ts, g1, g2⟩ := rt_list h ho hc (x := x) (y := y) (by omega) (by omega) hl.1 hl.2.1 m r
   refine ⟨ts, ?_, g2⟩
   simp only [txT]
   rw [if_pos hls]
   exact g1
  ·have hcanon : ∀ (_ : ∀ q, o = some q → oprT q.1 q.2 (.mk 4 0 s l) = none) (_ : txT o (.mk 4 0 s l) m = quoF s.data.toList ++ [40] ++ rwT o l ++ [41]), ∃ ts, Lx (txT o (.mk 4 0 s l) m ++ r) ts r ∧ Rt (opsF I Q) false (prW o (.mk 4 0 s l) m) (rtW o (.mk 4 0 s l) m) m (.mk 4 0 s l) ts := by
    intro g1 g2
    obtain ⟨e1, e2⟩ := wr_none g1 m
    rw [e1, e2, g2]
    exact rt_canon h ho hc n2 (by omega) hl n3 n4 m r
   rcases ho with rfl | rfl
   ·refine hcanon (fun q e => by cases e) ?_
    simp only [txT]
    rw [if_neg hls]
    rfl
   ·have htx : txT (some (I, Q)) (.mk 4 0 s l) m = (match operF I Q 4 s l m (a0T (some (I, Q)) l) (a1T (some (I, Q)) l) with | some x => x | none => quoF s.data.toList ++ [40] ++ rwT (some (I, Q)) l ++ [41]) := by
     simp only [txT]
     rw [if_neg hls]
     rfl
    by_cases hbr : isBraces s l.length = true
    ·obtain ⟨b1, b2⟩ := of_decide_eq_true hbr
     obtain ⟨a, rfl⟩ := List.length_eq_one_iff.1 b2
     simp only [okL, Bool.and_eq_true] at hl
     simp only [szL] at hs
     obtain ⟨e1, e2⟩ := wr_none (o := some (I, Q)) (t := .mk 4 0 s [a]) (fun q _ => by unfold oprT oprK; rw [if_pos (.inr (.inr ⟨b1, rfl⟩))]) m
     rw [e1, e2, htx]
     have e3 : operF I Q 4 s [a] m (a0T (some (I, Q)) [a]) (a1T (some (I, Q)) [a]) = some ([123] ++ txT (some (I, Q)) a 1200 ++ [125]) := by
      unfold operF
      rw [if_pos hbr]
      rfl
     rw [e3]
     obtain ⟨ts, g1, g2⟩ := hc a (by omega) hl.1 1200 (by decide) (by decide) (125 :: r) (sp_cons r (by decide))
     refine ⟨_, ?_, rt_braces g2 b1 m⟩
     have := (lx_punct 123 (by decide) _).trans (g1.trans (lx_punct 125 (by decide) r))
     simpa using this
    ·cases hop : oprK I Q 4 s l with
     | none =>
      refine hcanon (fun q e => by injection e with e; subst e; exact hop) ?_
      rw [htx]
      have e3 : operF I Q 4 s l m (a0T (some (I, Q)) l) (a1T (some (I, Q)) l) = none := by
       unfold operF
       rw [if_neg hbr, hop]
      rw [e3]
     | some p =>
      have hop2 := hop
      unfold oprK at hop2
      split at hop2
      ·cases hop2
      ·split at hop2
       ·next h2 =>
        obtain ⟨a, b, rfl⟩ := len_two h2
        simp only [okL, Bool.and_eq_true] at hl
        simp only [szL] at hs
        have e3 : operF I Q 4 s [a, b] m (a0T (some (I, Q)) [a, b]) (a1T (some (I, Q)) [a, b]) = some (brk (decide (m < p.p)) (besF (some (I, Q)) [a, b] (txT (some (I, Q)) a (leftF I Q p [a, b])) ++ midF s ++ besF (some (I, Q)) [b] (txT (some (I, Q)) b (rightI p.p p.t)))) := by
         unfold operF
         rw [if_neg hbr, hop]
         rfl
        rw [htx, e3]
        exact op_brk h (show oprT I Q (.mk 4 0 s [a, b]) = some p from hop) (fun r hr => op_two h hc hop2 (by omega) (by omega) hl.1 hl.2.1 r hr) m r hr
       ·split at hop2
        ·next h2 =>
         obtain ⟨b, rfl⟩ := List.length_eq_one_iff.1 h2.1
         simp only [okL, Bool.and_eq_true] at hl
         simp only [szL] at hs
         have e3 : operF I Q 4 s [b] m (a0T (some (I, Q)) [b]) (a1T (some (I, Q)) [b]) = some (brk (decide (m < p.p)) (quoF s.data.toList ++ [32] ++ besF (some (I, Q)) [b] (txT (some (I, Q)) b (rightI p.p p.t)))) := by
          unfold operF
          rw [if_neg hbr, hop]
          rfl
         rw [htx, e3]
         exact op_brk h (show oprT I Q (.mk 4 0 s [b]) = some p from hop) (fun r hr => op_one h hc hop2 (by omega) hl.1 r hr) m r hr
        ·cases hop2
 ·exfalso
  simp [partK, h1, h2, h3, h4] at hp
theorem tx_all (h : OpsGood I Q) {o : OpsV} (ho : o = none ∨ o = some (I, Q)) : ∀ N, Cl I Q o N
 | 0 => fun t hs => by have := szT_pos t; omega
 | N + 1 => cl_step h ho (tx_all h ho N)
theorem may_chk {t : Tm} (h : mayT t = true) : chkT t = 0 := by simpa [mayT] using h
theorem clause_back (h : OpsGood I Q) {o : OpsV} (ho : o = none ∨ o = some (I, Q)) {t : Tm} (ht : mayT t = true) {W pre r : List UInt8} {i : Nat} (hi : i ≤ W.length) (hpre : pre = [] ∨ pre = [10]) (hr : r = [] ∨ ∃ q, r = 10 :: q) (hW : W.drop i = pre ++ (txT o t 1200 ++ 32 :: 46 :: r)) :
  ∃ j : Nat, (clauseS (opsF I Q) W i).1.t = rnT t [] ∧ (clauseS (opsF I Q) W i).2.1 = (j : Int) ∧ (clauseS (opsF I Q) W i).2.2 = 0 ∧ W.drop j = r ∧ j ≤ W.length ∧ i < j := by
 obtain ⟨m1, m2, m3⟩ := mayT_iff.1 ht
 obtain ⟨ts0, g1, g2⟩ := tx_all h ho _ t (Nat.le_refl _) m1 1200 (by decide) (by decide) (32 :: 46 :: r) (sp_cons _ (by decide))
 obtain ⟨ts, k1, k2⟩ : ∃ ts, Lx (W.drop i) ts (32 :: 46 :: r) ∧ Rt (opsF I Q) (bareT (some (I, Q)) t) (prW o t 1200) (rtW o t 1200) 1200 t ts := by
  rw [hW]
  rcases hpre with rfl | rfl
  ·exact ⟨ts0, g1, g2⟩
  ·exact ⟨layHead ts0, lx_lay g2.nil g1 10 (by decide), g2.lay⟩
 obtain ⟨l, j, c1, c2, c3, c4, c5⟩ := lx_ct k1 i hi rfl
 obtain ⟨e, d1, d2, d3, d4⟩ := lx_end c3 c4 hr ([] ++ l)
 have hct : ctF W i [] = .ok ([] ++ l ++ [e], j + 2) := by rw [c5]; exact d2
 have hcl : clauseS (opsF I Q) W i = readT (opsF I Q) (l ++ [e]) (j + 2) := by
  unfold clauseS
  rw [show ctoks W i = ctF W i [] from rfl, hct]
  rfl
 have hmap : (l ++ [e]).map z0 = (ts ++ [endT0]).map z0 := by
  have h1 : ts.map z0 = ts := by
   rw [← c1, List.map_map]
   rfl
  rw [List.map_append, List.map_append, c1, h1]
  simp only [List.map_cons, List.map_nil, d1]
  rfl
 have hw := k2.whole (M := 1200) (R := [endT0]) (acc := []) (Int.le_refl _) (fol_end rfl _ _) (fun o ho => by simp [infixF, endT0, isPu] at ho) (fun m hm => by cases hm) (5 * (ts ++ [endT0]).length + 5) (by simp; omega)
 have hchk := may_chk (rnT_may (acc := []) ht (by decide))
 have hrd : readT (opsF I Q) (ts ++ [endT0]) (j + 2) = (⟨rnT t [], (vsT t []).map vnm, ((j + 2 : Nat) : Int)⟩, ((j + 2 : Nat) : Int), 0) := by
  unfold readT
  rw [show ([] : List ByteArray) = ([] : List Int).map vnm from rfl, hw]
  simp only
  rw [if_pos (show (List.map TokV.kind [endT0]).head? = some 6 from rfl), if_pos hchk]
 have hwd := read_wd (O := opsF I Q) hmap (j + 2) (j + 2)
 rw [hrd, ← hcl] at hwd
 have hz : (clauseS (opsF I Q) W i).2.2 = 0 := hwd.2
 refine ⟨j + 2, hwd.1, ?_, hz, d3, d4, by omega⟩
 rw [hcl] at hz ⊢
 exact readT_end hz
theorem clause_last {O : Ops} {W r : List UInt8} {i : Nat} (hi : i ≤ W.length) (hW : W.drop i = r) (hr : r = [] ∨ r = [10]) : (clauseS O W i).2.2 = 4 ∧ (clauseS O W i).2.1 = (W.length : Int) := by
 have hs := scan_drop W i hi
 have h0 : ∃ u, scanS r 0 = (u, r.length, 4) := by
  rcases hr with rfl | rfl
  ·exact ⟨_, rfl⟩
  ·exact ⟨_, rfl⟩
 obtain ⟨u, hu⟩ := h0
 rw [hW, hu] at hs
 simp only [shScan] at hs
 have hlen : i + r.length = W.length := by rw [← hW, List.length_drop]; omega
 rw [hlen] at hs
 have hc := ctF_eq (acc := []) hi hs
 rw [if_neg (by simp), if_pos (by decide)] at hc
 have : clauseS O W i = (zeroR, (W.length : Int), 4) := by
  unfold clauseS
  rw [show ctoks W i = ctF W i [] from rfl, hc]
 rw [this]
 exact ⟨rfl, rfl⟩
theorem all_back (h : OpsGood I Q) {o : OpsV} (ho : o = none ∨ o = some (I, Q)) {W : List UInt8} (hB : W.length ≤ 65536) : ∀ (l : List Tm) (i : Nat) (pre : List UInt8) (acc : List ReadV), i ≤ W.length → (∀ t ∈ l, mayT t = true) → (pre = [] ∨ pre = [10]) → W.drop i = pre ++ l.flatMap (fun t => txT o t 1200 ++ [32, 46, 10]) →
  (rtF (opsF I Q) W i acc).1.map ReadV.t = acc.map ReadV.t ++ l.map (fun t => rnT t []) ∧ (rtF (opsF I Q) W i acc).2.1 = (W.length : Int) ∧ (rtF (opsF I Q) W i acc).2.2 = 0
 | [], i, pre, acc, hi, _, hpre, hW => by
  obtain ⟨h1, h2⟩ := clause_last (O := opsF I Q) hi (r := pre) (by simpa using hW) hpre
  obtain ⟨r, k, x, hc⟩ : ∃ r k x, clauseS (opsF I Q) W i = (r, k, x) := ⟨_, _, _, rfl⟩
  rw [hc] at h1 h2
  simp only at h1 h2
  subst h1 h2
  obtain ⟨_, b4, _⟩ := rtF_eq (acc := acc) hB hi hc
  rw [b4 rfl]
  simp
 | t :: l, i, pre, acc, hi, ht, hpre, hW => by
  have hW2 : W.drop i = pre ++ (txT o t 1200 ++ 32 :: 46 :: (10 :: l.flatMap (fun t => txT o t 1200 ++ [32, 46, 10]))) := by
   rw [hW]
   simp
  obtain ⟨j, h1, h2, h3, h4, h5, h6⟩ := clause_back h ho (ht t (by simp)) hi hpre (.inr ⟨_, rfl⟩) hW2
  obtain ⟨r, k, x, hc⟩ : ∃ r k x, clauseS (opsF I Q) W i = (r, k, x) := ⟨_, _, _, rfl⟩
  rw [hc] at h1 h2 h3
  simp only at h1 h2 h3
  subst h2 h3
  obtain ⟨b0, _, _⟩ := rtF_eq (acc := acc) hB hi hc
  obtain ⟨j', q1, _, q3, q4⟩ := b0 rfl
  obtain rfl : j = j' := by omega
  obtain ⟨i1, i2, i3⟩ := all_back h ho hB l j [10] (acc ++ [r]) h5 (fun u hu => ht u (List.mem_cons_of_mem _ hu)) (.inr rfl) h4
  rw [q4]
  refine ⟨?_, i2, i3⟩
  rw [i1]
  simp [h1]
theorem one_back (h : OpsGood I Q) {o : OpsV} (ho : o = none ∨ o = some (I, Q)) {t : Tm} (ht : mayT t = true) (hB : (txT o t 1200 ++ [32, 46]).length ≤ 65536) : (oneR (opsF I Q) (txT o t 1200 ++ [32, 46])).1.t = rnT t [] ∧ (oneR (opsF I Q) (txT o t 1200 ++ [32, 46])).2 = 0 := by
 generalize hW : txT o t 1200 ++ [32, 46] = W at hB ⊢
 obtain ⟨j, h1, h2, h3, h4, h5, h6⟩ := clause_back h ho ht (W := W) (i := 0) (Nat.zero_le _) (.inl rfl) (r := []) (.inl rfl) (by rw [← hW]; simp)
 obtain ⟨r, k, x, hc⟩ : ∃ r k x, clauseS (opsF I Q) W 0 = (r, k, x) := ⟨_, _, _, rfl⟩
 rw [hc] at h1 h2 h3
 simp only at h1 h2 h3
 subst h2 h3
 obtain ⟨b0, _, _⟩ := rtF_eq (acc := []) hB (Nat.zero_le _) hc
 obtain ⟨j', q1, _, q3, q4⟩ := b0 rfl
 obtain rfl : j = j' := by omega
 obtain ⟨l1, l2⟩ := clause_last (O := opsF I Q) h5 h4 (.inl rfl)
 obtain ⟨r2, k2, x2, hc2⟩ : ∃ r k x, clauseS (opsF I Q) W j = (r, k, x) := ⟨_, _, _, rfl⟩
 rw [hc2] at l1 l2
 simp only at l1 l2
 subst l1 l2
 obtain ⟨_, b4, _⟩ := rtF_eq (acc := [] ++ [r]) hB h5 hc2
 unfold oneR oneX
 rw [show allR (opsF I Q) W = rtF (opsF I Q) W 0 [] from rfl, q4, b4 rfl]
 simp [h1]
end Go.El

/- Layer 9: tables that the law makes hold operators that may be, as the plain law of layers 10 and 11 wants them. -/
namespace Go.El
open Go.Proofs.YtgcdhffeacdegaaGreatDoor
def goodB (pre : Bool) (o : OpV) : Bool := mayB o.p o.t && (preB o.t == pre) && ((!pre && o.s.data.toList == [44] && o.p == 1000) || !nameBad o.s)
def GoodL (I Q : List OpV) : Prop := (∀ o ∈ I, goodB false o = true) ∧ ∀ o ∈ Q, goodB true o = true
theorem GoodL.ops {I Q : List OpV} (h : GoodL I Q) : OpsGood I Q := by
 refine ⟨fun {s o} ho => ?_, fun {s o} ho => ?_⟩
 ·obtain ⟨h1, rfl⟩ := findO_some ho
  have := h.1 o h1
  simp only [goodB, Bool.and_eq_true, beq_iff_eq, Bool.or_eq_true, Bool.not_eq_true', Bool.not_false] at this
  obtain ⟨⟨g1, g2⟩, g3⟩ := this
  refine ⟨rfl, g1, g2, ?_⟩
  rcases g3 with g3 | g3
  ·exact .inl ⟨g3.1.2, g3.2⟩
  ·exact .inr g3
 ·obtain ⟨h1, rfl⟩ := findO_some ho
  have := h.2 o h1
  simp only [goodB, Bool.and_eq_true, beq_iff_eq, Bool.or_eq_true, Bool.not_eq_true', Bool.not_true] at this
  obtain ⟨⟨g1, g2⟩, g3⟩ := this
  refine ⟨rfl, g1, g2, ?_⟩
  rcases g3 with g3 | g3
  ·exact absurd g3.1.1 (by decide)
  ·exact g3
theorem good_init : GoodL initI initQ := by
 have h1 : initI.all (goodB false) = true := by decide +kernel
 have h2 : initQ.all (goodB true) = true := by decide +kernel
 exact ⟨List.all_eq_true.1 h1, List.all_eq_true.1 h2⟩
theorem act_good {o : OpV} {found : Bool} {len : Nat} (h : actI o found len = 2) : goodB (preB o.t) o = true := by
 unfold actI at h
 split at h
 ·cases h
 ·next h1 =>
  split at h
  ·cases h
  ·next h2 =>
   split at h
   ·cases h
   ·split at h
    ·cases h
    ·next h3 =>
     have h1' : ¬ (o.p < 0 ∨ 1200 < o.p ∨ ¬ (1 ≤ o.t ∧ o.t ≤ 5)) := fun g => h1 (decide_eq_true g)
     have hm : mayB o.p o.t = true := mayB_yes (by omega)
     have hn : nameBad o.s = false := by simpa using h2
     simp [goodB, hm, hn]
theorem GoodL.next {I Q : List OpV} (h : GoodL I Q) (o : OpV) : GoodL (nextI o I Q) (nextQ o I Q) := by
 refine ⟨fun p hp => ?_, fun p hp => ?_⟩
 ·unfold nextI at hp
  split at hp
  ·exact h.1 p hp
  ·next hb =>
   rcases doO_mem hp with hp | ⟨h2, rfl⟩
   ·exact h.1 p hp
   ·have := act_good h2
    have e : preB p.t = false := by simpa using hb
    rw [e] at this
    exact this
 ·unfold nextQ at hp
  split at hp
  ·next hb =>
   rcases doO_mem hp with hp | ⟨h2, rfl⟩
   ·exact h.2 p hp
   ·have := act_good h2
    rw [hb] at this
    exact this
  ·exact h.2 p hp
end Go.El
namespace Go.Proofs.YtgcdhffeacdegaaGreatDoor
open Go.RowKit Go.El
set_option maxRecDepth 100000 in
set_option maxHeartbeats 4000000 in
theorem tables_good (A : Option Addr) (c : Nat) (L : List OpV) (w : World) (hT : TypesAt 0 w) (h1 : El.Src w A L.length 3 (flat opCells L)) (hg : ∀ o ∈ L, o.s.size ≤ 9223372036854775807) :
  Calls Tryz.prog 13 #[.slice A L.length c] w fun e w' => ∃ tb rb I Q, e = .returned (.tuple #[.pointer (some ⟨tb, 0, none⟩), .pointer (some ⟨rb, 0, none⟩)]) ∧ OpsAt w' (some (I, Q)) (.pointer (some ⟨tb, 0, none⟩)) ∧ OpsGood I Q ∧ Ext w w' := by
 have HT := Lib.hid hT
 have H1 := Lib.hid h1
 have HG := Lib.hid hg
 clear hT h1 hg
 go_enter Tryz.func13, Tryz.ntmps13
 go_upto_region 2 with (first | (go_at_call 32; refine (twNews _).mono ?_; rintro e W1 ⟨tb, m1, m2, rfl, hn⟩) | (go_at_call 37; refine (twNewR HT.out hn).mono ?_; rintro e W2 ⟨rb, v, rfl, hx⟩; clear hn))
 go_wp2_with fail
 go_loopw [6] (fun i wr => ∃ (k : Nat) (v : Value) (I Q M : List OpV), k ≤ L.length ∧ k ≤ 20 ∧ i = .int .i64 k ∧ TwoAt w wr tb m1 m2 rb v I Q M ∧ Inv I Q ∧ Hid ((I ++ Q).Perm M ∧ Bd I Q ∧ GoodL I Q)) (fun i _ => 21 - (intOf i).toNat)
 case atStart => exact ⟨0, v, initI, initQ, initL, Nat.zero_le _, Nat.zero_le _, rfl, hx, inv_init, Lib.hid ⟨init_perm, bd_init, good_init⟩⟩
 case round =>
  clear hx
  obtain ⟨k, v, I, Q, M, hk, hk20, rfl, hx, hi, HP⟩ := hrel
  by_cases hlt : k < L.length
  ·by_cases hlt2 : k < 20
   ·obtain ⟨b, off, rfl, e0, e1, e2⟩ := src_op H1.out hlt
    have hs := HG.out L[k] (List.getElem_mem hlt)
    generalize L[k] = x at e0 e1 e2 hs
    obtain ⟨xp, xt, xs⟩ := x
    dsimp only at e0 e1 e2 hs
    have d0 := hx.ext.cell e0
    have d1 := hx.ext.cell e1
    have d2 := hx.ext.cell e2
    go_upto_region 6 with (go_at_call 38; refine (twSetP hx hi xp xt xs).mono ?_; rintro e W3 ⟨rfl, hx2, _⟩)
    clear d0 d1 d2
    have d0 := hx2.ext.cell e0
    have d1 := hx2.ext.cell e1
    have d2 := hx2.ext.cell e2
    have hlen : M.length ≤ 1000 := by
     have := hi.len
     have := HP.out.1.length_eq
     rw [List.length_append] at this
     omega
    go_wp2_with (go_at_call 39; refine (twSetR hx2 xp xt xs hs hlen _ rfl).mono ?_; rintro e W4 ⟨rfl, v', hx3, _⟩)
    go_roundw
    case rel => exact ⟨k + 1, v', _, _, _, hlt, hlt2, by go_num, hx3, hi.next _, Lib.hid ⟨next_both hi HP.out.1 _, HP.out.2.1.next _, HP.out.2.2.next _⟩⟩
    case measure => simp [intOf]; omega
   ·go_wp2_with fail
    go_ret2
    exact ⟨tb, rb, I, Q, rfl, two_ops hx HP.out.2.1, HP.out.2.2.ops, hx.ext⟩
  ·go_wp2_with fail
   go_ret2
   exact ⟨tb, rb, I, Q, rfl, two_ops hx HP.out.2.1, HP.out.2.2.ops, hx.ext⟩
end Go.Proofs.YtgcdhffeacdegaaGreatDoor
