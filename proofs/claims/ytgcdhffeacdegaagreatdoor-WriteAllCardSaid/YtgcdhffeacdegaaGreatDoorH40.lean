/- Layers 8 and 11, plain: what is scanned of a written text. No program in sight. -/
import Derived.Test.YtgcdhffeacdegaaGreatDoorH39
namespace Go.El
open Go.Proofs.YtgcdhffeacdegaaGreatDoor
inductive Lx : List UInt8 → List TokV → List UInt8 → Prop
 | nil (b : List UInt8) : Lx b [] b
 | cons {b b' : List UInt8} {t : TokV} {ts : List TokV} : (scanS b 0).2.2 = 0 → z0 (scanS b 0).1 = t → t.kind ≠ 6 → Lx (b.drop (scanS b 0).2.1) ts b' → Lx b (t :: ts) b'
theorem Lx.trans {b c d : List UInt8} {l m : List TokV} (h : Lx b l c) (g : Lx c m d) : Lx b (l ++ m) d := by
 induction h with
 | nil b => exact g
 | cons h1 h2 h3 _ ih => exact .cons h1 h2 h3 (ih g)
theorem lx_scan {b r : List UInt8} {k : Int} {s : List UInt8} {n : Int} {e : Nat} {c : UInt8} (h0 : b[0]? = some c) (hb : isBlank c = false) (h37 : c ≠ 37) (h47 : ¬ (c = 47 ∧ b[1]? = some 42)) (ho : oneS b 0 c = .ok (k, s, n, e)) (hk : k ≠ 6) (he : b.drop e = r) : Lx b [⟨k, ⟨s.toArray⟩, n, 0, false⟩] r := by
 have hs := scanS_ok (skip_none h0 hb h37 h47) h0 ho
 refine .cons (by rw [hs]) (by rw [hs]; rfl) hk ?_
 rw [hs]
 simp only
 rw [he]
 exact .nil r
theorem lx_blank {b r : List UInt8} {t : TokV} {ts : List TokV} (h : Lx b (t :: ts) r) (c : UInt8) (hc : isBlank c = true) : Lx (c :: b) ({ t with lay := true } :: ts) r := by
 cases h with
 | cons h1 h2 h3 h4 =>
  obtain ⟨x1, y1⟩ := scan_blank c hc b
  obtain ⟨u1, u2⟩ := y1 h1
  refine .cons (by rw [x1]; exact h1) ?_ h3 ?_
  ·rw [u1, ← h2]
   rfl
  ·rw [u2, Nat.add_comm 1, List.drop_succ_cons]
   exact h4
theorem lx_lay {b r : List UInt8} {ts : List TokV} (hn : ts ≠ []) (h : Lx b ts r) (c : UInt8) (hc : isBlank c = true) : Lx (c :: b) (layHead ts) r := by
 cases ts with
 | nil => exact absurd rfl hn
 | cons t ts => exact lx_blank h c hc
def Sp (r : List UInt8) : Prop := ∀ c ∈ r.head?, isWord c = false ∧ isSign c = false ∧ c ≠ 39
theorem sp_cons {c : UInt8} (r : List UInt8) (h : isWord c = false ∧ isSign c = false ∧ c ≠ 39) : Sp (c :: r) := fun d hd => by
 have : c = d := by simpa using hd
 subst this
 exact h
def pun (c : UInt8) : TokV := ⟨5, ⟨#[c]⟩, 0, 0, false⟩
theorem lx_punct (c : UInt8) (hc : isPunct c = true) (r : List UInt8) : Lx (c :: r) [pun c] r := by
 have hf : isBlank c = false ∧ c ≠ 37 ∧ c ≠ 47 ∧ c ≠ 46 ∧ isSmall c = false ∧ isSign c = false ∧ c ≠ 33 ∧ c ≠ 59 ∧ isDigit c = false ∧ isWord c = false := by
  have := all_bytes (p := fun c => (!isPunct c || (!isBlank c && c != 37 && c != 47 && c != 46 && !isSmall c && !isSign c && c != 33 && c != 59 && !isDigit c && !isWord c)) = true) (by decide +kernel) c
  rw [hc] at this
  simpa [and_assoc] using this
 obtain ⟨f1, f2, f3, f4, f5, f6, f7, f8, f9, f10⟩ := hf
 refine lx_scan (c := c) (e := 1) (s := [c]) rfl f1 f2 (fun e => f3 e.1) ?_ (by decide) rfl
 have he : endsS (c :: r) 0 c = false := by unfold endsS; simp [f4]
 unfold oneS
 rw [he, f5, f6, f9, f10, hc, if_neg (by decide), if_neg (by decide), if_neg (by decide), if_neg (by simp [f7, f8]), if_neg (by decide), if_neg (by decide), if_pos rfl]
 rfl
theorem row_app {p : UInt8 → Bool} {s r : List UInt8} (hs : s.all p = true) (hr : ∀ c ∈ r.head?, p c = false) : rowTo p (s ++ r) 0 = s.length := by
 unfold rowTo
 rw [List.drop_zero]
 have h1 : (s ++ r).takeWhile p = s := by
  rw [List.takeWhile_append, takeWhile_all hs, if_pos rfl]
  cases r with
  | nil => simp
  | cons c r =>
   rw [List.takeWhile_cons, hr c rfl]
   simp
 rw [h1]
 omega
theorem sub_app (s r : List UInt8) : sub (s ++ r) 0 s.length = s := by simp [sub]
theorem name_ok {k : Int} {s : List UInt8} {e : Nat} (h : s.length ≤ 64) : nameS k s e = .ok (k, s, 0, e) := by
 unfold nameS
 rw [if_neg (by omega)]
theorem quo_all2 : ∀ (l P r acc : List UInt8), (∀ c ∈ r.head?, c ≠ 39) → quoS (P ++ (sgnW l ++ 39 :: r)) P.length acc = some (acc ++ l, P.length + (sgnW l).length + 1)
 | [], P, r, acc, hr => by
  have t0 : (P ++ (sgnW [] ++ 39 :: r))[P.length]? = some 39 := mid_at P _ 0
  have t1 : (P ++ (sgnW [] ++ 39 :: r))[P.length + 1]? ≠ some 39 := by
   rw [show (P ++ (sgnW [] ++ 39 :: r))[P.length + 1]? = (sgnW [] ++ 39 :: r)[1]? from mid_at P _ 1]
   cases r with
   | nil => simp [sgnW]
   | cons c r => simpa [sgnW] using hr c rfl
  simp only [sgnW, List.flatMap_nil, List.nil_append] at t0 t1 ⊢
  rw [quoS_eq t0]
  simp [t1]
 | c :: l, P, r, acc, hr => by
  have hw : sgnW (c :: l) = sgnF c ++ sgnW l := by simp [sgnW]
  have ih := quo_all2 l (P ++ sgnF c) r (acc ++ [c]) hr
  have hs := quo_step P (sgnW l ++ 39 :: r) c acc
  rw [hw, List.append_assoc, hs]
  rw [List.append_assoc, List.length_append] at ih
  rw [ih]
  simp
  omega
theorem lx_plain {l r : List UInt8} (h : plainL l = true) (h1 : l ≠ [91, 93]) (h2 : l ≠ [123, 125]) (hl : l.length ≤ 64) (hr : Sp r) : Lx (l ++ r) [⟨1, ⟨l.toArray⟩, 0, 0, false⟩] r := by
 have hdr : (l ++ r).drop l.length = r := by simp
 by_cases h33 : l = [33]
 ·subst h33
  exact lx_scan (c := 33) (e := 1) rfl (by decide) (by decide) (by simp) rfl (by decide) rfl
 by_cases h59 : l = [59]
 ·subst h59
  exact lx_scan (c := 59) (e := 1) rfl (by decide) (by decide) (by simp) rfl (by decide) rfl
 unfold plainL at h
 rw [if_neg (by simp [h33, h59, h1, h2])] at h
 split at h
 ·cases h
 ·rename_i hn
  split at h
  ·cases h
  ·rename_i hp
   cases l with
   | nil => exact absurd (Or.inl rfl) hn
   | cons c q =>
    have h0 : (c :: q ++ r)[0]? = some c := rfl
    rw [Bool.or_eq_true] at h
    rcases h with h | h
    ·rw [Bool.and_eq_true] at h
     obtain ⟨hs, hw⟩ := h
     have hs' : isSmall c = true := hs
     have hb : isBlank c = false ∧ c ≠ 37 ∧ c ≠ 47 ∧ c ≠ 46 := by
      have := all_bytes (p := fun c => (!isSmall c || (!isBlank c && c != 37 && c != 47 && c != 46)) = true) (by decide +kernel) c
      rw [hs'] at this
      simpa [and_assoc] using this
     refine lx_scan h0 hb.1 hb.2.1 (fun e => hb.2.2.1 e.1) ?_ (by decide) hdr
     have he : endsS (c :: q ++ r) 0 c = false := by unfold endsS; simp [hb.2.2.2]
     unfold oneS
     rw [he, if_neg (by decide), if_pos hs', row_app hw (fun d hd => (hr d hd).1), sub_app, name_ok hl]
    ·have hs' : isSign c = true := by
      rw [List.all_cons, Bool.and_eq_true] at h
      exact h.1
     have hb : isBlank c = false ∧ c ≠ 37 ∧ isSmall c = false := by
      have := all_bytes (p := fun c => (!isSign c || (!isBlank c && c != 37 && !isSmall c)) = true) (by decide +kernel) c
      rw [hs'] at this
      simpa [and_assoc] using this
     refine lx_scan h0 hb.1 hb.2.1 ?_ ?_ (by decide) hdr
     ·rintro ⟨rfl, e⟩
      cases q with
      | nil =>
       have e' : r.head? = some 42 := by
        cases r with
        | nil => cases e
        | cons d r => simpa using e
       have := (hr 42 (by rw [e']; rfl)).2.1
       exact absurd this (by decide)
      | cons d q =>
       have e' : d = 42 := by simpa using e
       subst e'
       exact hp rfl
     have he : endsS (c :: q ++ r) 0 c = false := by
      unfold endsS
      by_cases h46 : c = 46
      ·subst h46
       cases q with
       | nil => exact absurd (Or.inr rfl) hn
       | cons d q =>
        have hd : isSign d = true := by
         simp only [List.all_cons, Bool.and_eq_true] at h
         exact h.2.1
        have := all_bytes (p := fun c => (!isSign c || (!isBlank c && c != 37)) = true) (by decide +kernel) d
        rw [hd] at this
        simp at this
        simp [this]
      ·simp [h46]
     unfold oneS
     rw [he, if_neg (by decide), hb.2.2, if_neg (by decide), if_pos hs', row_app h (fun d hd => (hr d hd).2.1), sub_app, name_ok hl]
theorem lx_quoted {l r : List UInt8} (hl : l.length ≤ 64) (hr : Sp r) : Lx (39 :: (sgnW l ++ 39 :: r)) [⟨2, ⟨l.toArray⟩, 0, 0, false⟩] r := by
 have hq := quo_all2 l [39] r [] (fun c hc => (hr c hc).2.2)
 refine lx_scan (c := 39) (e := 1 + (sgnW l).length + 1) rfl (by decide) (by decide) (fun e => absurd e.1 (by decide)) ?_ (by decide) ?_
 ·have he : endsS (39 :: (sgnW l ++ 39 :: r)) 0 39 = false := rfl
  unfold oneS
  rw [he, if_neg (by decide), if_neg (by decide), if_neg (by decide), if_neg (by decide), if_neg (by decide), if_neg (by decide), if_neg (by decide), if_pos rfl]
  rw [show ([39] : List UInt8).length = 0 + 1 from rfl] at hq
  rw [show (39 :: (sgnW l ++ 39 :: r)) = [39] ++ (sgnW l ++ 39 :: r) from rfl, hq]
  simp only [List.nil_append]
  exact name_ok hl
 ·rw [Nat.add_comm 1, Nat.add_assoc, List.drop_succ_cons, ← List.drop_drop]
  simp
def nmT (s : ByteArray) : List TokV := if s.data.toList = [91, 93] then [pun 91, pun 93] else if s.data.toList = [123, 125] then [pun 123, pun 125] else [⟨if plainL s.data.toList then 1 else 2, s, 0, 0, false⟩]
theorem lx_name {s : ByteArray} {r : List UInt8} (hs : s.size ≤ 64) (hr : Sp r) : Lx (quoF s.data.toList ++ r) (nmT s) r := by
 have hl : s.data.toList.length ≤ 64 := by rw [Array.length_toList]; exact hs
 unfold nmT
 by_cases h1 : s.data.toList = [91, 93]
 ·rw [if_pos h1, h1, show quoF [91, 93] = [91, 93] from by decide +kernel]
  exact (lx_punct 91 (by decide) (93 :: r)).trans (lx_punct 93 (by decide) r)
 ·by_cases h2 : s.data.toList = [123, 125]
  ·rw [if_neg h1, if_pos h2, h2, show quoF [123, 125] = [123, 125] from by decide +kernel]
   exact (lx_punct 123 (by decide) (125 :: r)).trans (lx_punct 125 (by decide) r)
  ·rw [if_neg h1, if_neg h2]
   have e : s = ⟨s.data.toList.toArray⟩ := mk_of rfl
   unfold quoF
   by_cases hp : plainL s.data.toList = true
   ·rw [if_pos hp, if_pos hp]
    have := lx_plain hp h1 h2 hl hr
    rw [← e] at this
    exact this
   ·rw [if_neg hp, if_neg hp]
    have := lx_quoted hl hr
    rw [← e] at this
    rw [List.append_assoc, List.append_assoc]
    exact this
theorem dec_num (u : Nat) : numV (Lib.decDigits u) = u ∧ (Lib.decDigits u).all isDigit = true := by
 induction u using Nat.strongRecOn with
 | ind u ih =>
  rw [Lib.decDigits]
  have key : ∀ d : Nat, d < 10 → (UInt8.ofNat (48 + d)).toNat - 48 = d ∧ isDigit (UInt8.ofNat (48 + d)) = true := by
   intro d hd
   have : ∀ d : Fin 10, (UInt8.ofNat (48 + d.val)).toNat - 48 = d.val ∧ isDigit (UInt8.ofNat (48 + d.val)) = true := by decide +kernel
   exact this ⟨d, hd⟩
  split
  ·next h =>
   obtain ⟨k1, k2⟩ := key u h
   refine ⟨?_, by simp only [List.all_cons, List.all_nil, Bool.and_true]; exact k2⟩
   simp only [numV, List.foldl_cons, List.foldl_nil]
   omega
  ·next h =>
   obtain ⟨k1, k2⟩ := key (u % 10) (by omega)
   obtain ⟨i1, i2⟩ := ih (u / 10) (by omega)
   refine ⟨?_, by rw [List.all_append, i2]; simp only [List.all_cons, List.all_nil, Bool.and_true, Bool.true_and]; exact k2⟩
   unfold numV at i1 ⊢
   rw [List.foldl_append, i1]
   simp only [List.foldl_cons, List.foldl_nil]
   omega
theorem dec_head (u : Nat) : ∃ c l, Lib.decDigits u = c :: l := by
 rw [Lib.decDigits]
 split
 ·exact ⟨_, _, rfl⟩
 ·cases h : Lib.decDigits (u / 10) with
  | nil => exact ⟨_, _, rfl⟩
  | cons c l => exact ⟨_, _, rfl⟩
theorem dec_len : ∀ (k u : Nat), u < 10 ^ (k + 1) → (Lib.decDigits u).length ≤ k + 1
 | 0, u, h => by
  rw [Lib.decDigits, dif_pos (by omega)]
  simp
 | k + 1, u, h => by
  rw [Lib.decDigits]
  split
  ·simp
  ·have := dec_len k (u / 10) (by rw [Nat.pow_succ] at h; omega)
   rw [List.length_append]
   simp
   omega
theorem digit_facts (c : UInt8) (h : isDigit c = true) : isBlank c = false ∧ c ≠ 37 ∧ c ≠ 47 ∧ c ≠ 46 ∧ isSmall c = false ∧ isSign c = false ∧ c ≠ 33 ∧ c ≠ 59 ∧ isWord c = true := by
 have := all_bytes (p := fun c => (!isDigit c || (!isBlank c && c != 37 && c != 47 && c != 46 && !isSmall c && !isSign c && c != 33 && c != 59 && isWord c)) = true) (by decide +kernel) c
 rw [h] at this
 simpa [and_assoc] using this
theorem word_digit (c : UInt8) (h : isWord c = false) : isDigit c = false := by
 have := all_bytes (p := fun c => (isWord c || !isDigit c) = true) (by decide +kernel) c
 rw [h] at this
 simpa using this
theorem lx_nat {u : Nat} {r : List UInt8} (hu : u ≤ 9007199254740991) (hr : Sp r) : Lx (Lib.decDigits u ++ r) [⟨4, ⟨#[]⟩, (u : Int), 0, false⟩] r := by
 obtain ⟨h1, h2⟩ := dec_num u
 obtain ⟨c, l, hc⟩ := dec_head u
 rw [hc] at h1 h2 ⊢
 have hd : isDigit c = true := by
  rw [List.all_cons, Bool.and_eq_true] at h2
  exact h2.1
 obtain ⟨f1, f2, f3, f4, f5, f6, f7, f8, f9⟩ := digit_facts c hd
 refine lx_scan (c := c) (e := (c :: l).length) (s := []) rfl f1 f2 (fun e => f3 e.1) ?_ (by decide) (by simp)
 have he : endsS (c :: l ++ r) 0 c = false := by unfold endsS; simp [f4]
 unfold oneS
 rw [he, f5, f6, hd, if_neg (by decide), if_neg (by decide), if_neg (by decide), if_neg (by simp [f7, f8]), if_pos rfl, row_app h2 (fun d hd => word_digit d (hr d hd).1), sub_app, h1, if_pos (by omega)]
theorem sp_digit (u : Nat) (r : List UInt8) : ∀ c ∈ (Lib.decDigits u ++ r).head?, isSign c = false := by
 obtain ⟨c, l, hc⟩ := dec_head u
 obtain ⟨_, h2⟩ := dec_num u
 rw [hc] at h2 ⊢
 intro d hd
 have e : c = d := by simpa using hd
 subst e
 rw [List.all_cons, Bool.and_eq_true] at h2
 exact (digit_facts c h2.1).2.2.2.2.2.1
def inT (n : Int) : List TokV := if n < 0 then [⟨1, minB, 0, 0, false⟩, ⟨4, ⟨#[]⟩, -n, 0, false⟩] else [⟨4, ⟨#[]⟩, n, 0, false⟩]
theorem lx_int {n : Int} {r : List UInt8} (h1 : -9007199254740991 ≤ n) (h2 : n ≤ 9007199254740991) (hr : Sp r) : Lx (Lib.itoa n ++ r) (inT n) r := by
 unfold Lib.itoa inT
 by_cases h : n < 0
 ·rw [if_pos h, if_pos h]
  have hq := lx_nat (u := n.natAbs) (r := r) (by omega) hr
  have e : ((n.natAbs : Nat) : Int) = -n := by omega
  rw [e] at hq
  refine Lx.trans (l := [_]) (lx_scan (c := 45) (e := 1) (s := [45]) rfl (by decide) (by decide) (fun e => absurd e.1 (by decide)) ?_ (by decide) rfl) hq
  have he : endsS (45 :: (Lib.decDigits n.natAbs ++ r)) 0 45 = false := rfl
  have hrow : rowTo isSign (45 :: (Lib.decDigits n.natAbs ++ r)) 0 = 1 := row_app (s := [45]) (by decide) (sp_digit _ r)
  show oneS (45 :: (Lib.decDigits n.natAbs ++ r)) 0 45 = _
  unfold oneS
  rw [he, if_neg (by decide), if_neg (by decide), if_pos (by decide), hrow]
  rfl
 ·rw [if_neg h, if_neg h]
  have hq := lx_nat (u := n.toNat) (r := r) (by omega) hr
  have e : ((n.toNat : Nat) : Int) = n := by omega
  rw [e] at hq
  exact hq
def vnm (n : Int) : ByteArray := ⟨(95 :: Lib.itoa n).toArray⟩
theorem itoa_nat {n : Int} (h : 0 ≤ n) : Lib.itoa n = Lib.decDigits n.toNat := by
 unfold Lib.itoa
 rw [if_neg (by omega)]
theorem lx_var {n : Int} {r : List UInt8} (h1 : 0 ≤ n) (h2 : n < 1073741824) (hr : Sp r) : Lx (95 :: (Lib.itoa n ++ r)) [⟨3, vnm n, 0, 0, false⟩] r := by
 have hd := (dec_num n.toNat).2
 have hl := dec_len 9 n.toNat (by omega)
 unfold vnm
 rw [itoa_nat h1]
 have hw : (95 :: Lib.decDigits n.toNat).all isWord = true := by
  rw [List.all_cons, Bool.and_eq_true]
  refine ⟨by decide, List.all_eq_true.2 fun c hc => ?_⟩
  exact (digit_facts c (List.all_eq_true.1 hd c hc)).2.2.2.2.2.2.2.2
 refine lx_scan (c := 95) (e := (95 :: Lib.decDigits n.toNat).length) rfl (by decide) (by decide) (fun e => absurd e.1 (by decide)) ?_ (by decide) (by simp)
 have he : endsS (95 :: (Lib.decDigits n.toNat ++ r)) 0 95 = false := rfl
 have hrow : rowTo isWord (95 :: (Lib.decDigits n.toNat ++ r)) 0 = (95 :: Lib.decDigits n.toNat).length := row_app (s := 95 :: Lib.decDigits n.toNat) hw (fun d hd => (hr d hd).1)
 have hsub : sub (95 :: (Lib.decDigits n.toNat ++ r)) 0 (95 :: Lib.decDigits n.toNat).length = 95 :: Lib.decDigits n.toNat := sub_app (95 :: Lib.decDigits n.toNat) r
 unfold oneS
 rw [he, if_neg (by decide), if_neg (by decide), if_neg (by decide), if_neg (by decide), if_neg (by decide), if_pos (by decide), hrow, hsub, name_ok (by simp; omega)]
theorem vnm_inj {n m : Int} (hn : 0 ≤ n) (hm : 0 ≤ m) (h : vnm n = vnm m) : n = m := by
 unfold vnm at h
 have h1 : Lib.itoa n = Lib.itoa m := by
  have := congrArg (fun b : ByteArray => b.data.toList) h
  simpa using this
 rw [itoa_nat hn, itoa_nat hm] at h1
 have := congrArg numV h1
 rw [(dec_num _).1, (dec_num _).1] at this
 omega
theorem lx_ct {W : List UInt8} {b b' : List UInt8} {ts : List TokV} (h : Lx b ts b') : ∀ i, i ≤ W.length → W.drop i = b → ∃ l j, l.map z0 = ts ∧ i ≤ j ∧ j ≤ W.length ∧ W.drop j = b' ∧ ∀ acc, ctF W i acc = ctF W j (acc ++ l) := by
 induction h with
 | nil b => exact fun i hi hb => ⟨[], i, rfl, Nat.le_refl _, hi, hb, fun acc => by simp⟩
 | @cons b b' t ts h1 h2 h3 h4 ih =>
  intro i hi hb
  have hs := scan_drop W i hi
  rw [hb] at hs
  obtain ⟨u, e, x, hu⟩ : ∃ u e x, scanS b 0 = (u, e, x) := ⟨_, _, _, rfl⟩
  rw [hu] at h1 h2 h4 hs ih
  simp only at h1 h2 h4 ih
  subst h1
  simp only [shScan, if_true] at hs
  have hst := scanS_step (B := W) (i := i) (by rw [hs])
  rw [hs] at hst
  simp only at hst
  obtain ⟨l, j, g1, g2, g3, g4, g5⟩ := ih (i + e) hst.2 (by rw [← List.drop_drop, hb])
  refine ⟨shT i u :: l, j, ?_, by omega, g3, g4, fun acc => ?_⟩
  ·rw [List.map_cons, g1, z0_sh, h2]
  ·have hk : ¬ (shT i u).kind = 6 := by
    intro g
    apply h3
    rw [← h2]
    exact g
   rw [ctF_eq hi hs, if_neg (by simp), if_neg (by simp), if_neg hk, g5, List.append_assoc]
   rfl
def endT0 : TokV := ⟨6, ⟨#[46]⟩, 0, 0, true⟩
theorem lx_end {W r : List UInt8} {i : Nat} (hi : i ≤ W.length) (hb : W.drop i = 32 :: 46 :: r) (hr : r = [] ∨ ∃ q, r = 10 :: q) (acc : List TokV) : ∃ t, z0 t = endT0 ∧ ctF W i acc = .ok (acc ++ [t], i + 2) ∧ W.drop (i + 2) = r ∧ i + 2 ≤ W.length := by
 have hs := scan_drop W i hi
 rw [hb] at hs
 have h0 : scanS (46 :: r) 0 = (⟨6, ⟨#[46]⟩, 0, 0, false⟩, 1, 0) := by
  have he : endsS (46 :: r) 0 46 = true := by
   rcases hr with rfl | ⟨q, rfl⟩ <;> rfl
  have ho : oneS (46 :: r) 0 46 = .ok (6, [46], 0, 1) := by
   unfold oneS
   rw [he, if_pos rfl]
   rfl
  exact scanS_ok (skip_none rfl (by decide) (by decide) (fun e => absurd e.1 (by decide))) rfl ho
 obtain ⟨x1, y1⟩ := scan_blank 32 (by decide) (46 :: r)
 rw [h0] at x1 y1
 obtain ⟨u1, u2⟩ := y1 rfl
 obtain ⟨u, e, x, hu⟩ : ∃ u e x, scanS (32 :: 46 :: r) 0 = (u, e, x) := ⟨_, _, _, rfl⟩
 rw [hu] at hs x1 u1 u2
 simp only at x1 u1 u2
 subst x1 u2
 simp only [shScan, if_true] at hs
 have hl : i + 2 ≤ W.length := by
  have := congrArg List.length hb
  rw [List.length_drop] at this
  simp at this
  omega
 refine ⟨shT i u, by rw [z0_sh, u1]; rfl, ?_, by rw [← List.drop_drop, hb]; rfl, hl⟩
 have hk : (shT i u).kind = 6 := by
  have := (z0_all u1).1
  exact this
 rw [ctF_eq hi hs, if_neg (by simp), if_neg (by simp), if_pos hk]
end Go.El

/- Layers 10 and 11, plain: a written term's tokens are read as it, its variables numbered as one comes to them. No program in sight. -/
namespace Go.El
open Go.Proofs.YtgcdhffeacdegaaGreatDoor
structure OpsGood (I Q : List OpV) : Prop where
 inf : ∀ {s o}, findO s I = some o → o.s = s ∧ mayB o.p o.t = true ∧ preB o.t = false ∧ (s.data.toList = [44] ∧ o.p = 1000 ∨ nameBad s = false)
 pre : ∀ {s o}, findO s Q = some o → o.s = s ∧ mayB o.p o.t = true ∧ preB o.t = true ∧ nameBad s = false
def opsF (I Q : List OpV) : Ops := ⟨fun s => findO s I, fun s => findO s Q⟩
theorem may_iff {p t : Int} : mayB p t = true ↔ 1 ≤ p ∧ p ≤ 1200 ∧ 1 ≤ t ∧ t ≤ 5 := by unfold mayB; simp
theorem right_le {p t : Int} (h : mayB p t = true) : 0 ≤ rightI p t ∧ rightI p t ≤ p := by
 have := may_iff.1 h
 unfold rightI
 rw [if_neg (by simp [h])]
 split <;> omega
theorem left_le {p t : Int} (h : mayB p t = true) : 0 ≤ leftI p t ∧ leftI p t ≤ p := by
 have := may_iff.1 h
 unfold leftI
 split
 ·omega
 ·split <;> omega
theorem name_ok2 {s : ByteArray} (h : nameBad s = false) : plainL s.data.toList = true ∧ s.data.toList ≠ [91, 93] ∧ s.data.toList ≠ [123, 125] ∧ s.size ≤ 64 := by
 unfold nameBad plainB at h
 simp only [Bool.or_eq_false_iff, Bool.not_eq_false', decide_eq_false_iff_not] at h
 obtain ⟨⟨⟨h1, h2⟩, h3⟩, h4⟩ := h
 exact ⟨h1, fun e => h2 (mk_of e), fun e => h3 (mk_of e), by omega⟩
variable {O : Ops}
theorem pu_head {R : List TokV} {c : UInt8} (h : isPu R c = true) : ∃ t q, R = t :: q ∧ t.kind = 5 ∧ t.s.data.toList = [c] := by
 cases R with
 | nil => cases h
 | cons t q =>
  simp only [isPu, Bool.and_eq_true, decide_eq_true_eq] at h
  exact ⟨t, q, rfl, h.1, h.2⟩
theorem pu_of {t : TokV} {q : List TokV} {c d : UInt8} (h : t.kind = 5) (hs : t.s.data.toList = [c]) : isPu (t :: q) d = decide (c = d) := by
 simp [isPu, h, hs]
theorem pu_no {t : TokV} {q : List TokV} {d : UInt8} (h : t.kind ≠ 5) : isPu (t :: q) d = false := by
 simp [isPu, h]
structure Fol (O : Ops) (bare : Bool) (rt : Int) (R : List TokV) : Prop where
 op : opensB R = false
 nu : numB R = false
 be : bare = true → beginsB O R = false
 fo : ∀ o, infixF O R = some o → rt < o.p
theorem fol_pu {R : List TokV} {c : UInt8} (h : isPu R c = true) (hc : c = 41 ∨ c = 93 ∨ c = 125 ∨ c = 124 ∨ c = 44) (bare : Bool) (rt : Int) (hf : c = 44 → ∀ o, O.fi ⟨#[44]⟩ = some o → rt < o.p) : Fol O bare rt R := by
 obtain ⟨t, q, rfl, hk, hs⟩ := pu_head h
 have hd : ∀ d, isPu (t :: q) d = decide (c = d) := fun d => pu_of hk hs
 have ht : t.s = ⟨#[c]⟩ := mk_of hs
 refine ⟨?_, by simp [numB, hk], fun _ => ?_, fun o ho => ?_⟩
 ·unfold opensB
  rw [hd, Bool.and_eq_false_iff]
  exact .inl (by rcases hc with rfl | rfl | rfl | rfl | rfl <;> decide)
 ·unfold beginsB
  simp only [hk, hd]
  rcases hc with rfl | rfl | rfl | rfl | rfl <;> simp
 ·unfold infixF at ho
  simp only [hk, hd] at ho
  rcases hc with rfl | rfl | rfl | rfl | rfl
  ·simp at ho
  ·simp at ho
  ·simp at ho
  ·simp at ho
  ·simp at ho
   rw [ht] at ho
   exact hf rfl o ho
theorem fol_end {t : TokV} {q : List TokV} (h : t.kind = 6) (bare : Bool) (rt : Int) : Fol O bare rt (t :: q) := by
 refine ⟨by simp [opensB, pu_no (show t.kind ≠ 5 by omega)], by simp [numB, h], fun _ => by simp [beginsB, h], fun o ho => ?_⟩
 simp [infixF, h, pu_no (show t.kind ≠ 5 by omega)] at ho
theorem loop_stop {R : List TokV} {m : Int} (hf : ∀ o, infixF O R = some o → m < o.p) (n : Nat) (t : Tm) (p : Int) (ns : List ByteArray) : loopN O (n + 1) m t p R ns = .ok t R ns := by
 simp only [loopN]
 cases hi : infixF O R with
 | none => rfl
 | some o => simp only; rw [if_pos (.inl (hf o hi))]
theorem var_find {n : Int} (hn : 0 ≤ n) : ∀ {acc : List Int}, (∀ m ∈ acc, 0 ≤ m) → (acc.map vnm).findIdx? (fun x => decide (x = vnm n)) = if n ∈ acc then some (plc n acc) else none
 | [], _ => by simp
 | m :: acc, h => by
  have ih := var_find hn (acc := acc) (fun k hk => h k (List.mem_cons_of_mem _ hk))
  rw [List.map_cons, List.findIdx?_cons, ih]
  by_cases e : m = n
  ·subst e
   simp [plc]
  ·have e2 : vnm m ≠ vnm n := fun g => e (vnm_inj (h m (by simp)) hn g)
   have e3 : n ≠ m := fun g => e g.symm
   rw [show decide (vnm m = vnm n) = false from decide_eq_false e2]
   simp only [Bool.false_eq_true, List.mem_cons, e3, false_or, plc, e, if_false]
   split <;> simp
theorem vnm_us {n : Int} (hn : 0 ≤ n) : vnm n ≠ usB := by
 intro h
 have := congrArg ByteArray.size h
 obtain ⟨c, l, hc⟩ := dec_head n.toNat
 unfold vnm at this
 rw [itoa_nat hn, hc] at this
 simp [ByteArray.size, usB] at this
theorem var_read {n : Int} (hn : 0 ≤ n) {acc : List Int} (ha : ∀ m ∈ acc, 0 ≤ m) : varT (vnm n) (acc.map vnm) = .mk 1 (plc n (addV n acc)) ⟨#[]⟩ [] ∧ varN (vnm n) (acc.map vnm) = (addV n acc).map vnm := by
 unfold varT varN varI addV
 rw [if_neg (vnm_us hn), var_find hn ha]
 by_cases h : n ∈ acc
 ·rw [if_pos h, if_pos h]
  exact ⟨rfl, rfl⟩
 ·rw [if_neg h, if_neg h, plc_new h]
  simp
mutual
theorem vs_pos : ∀ (t : Tm) (acc : List Int), okT t = true → (∀ m ∈ acc, 0 ≤ m) → ∀ m ∈ vsT t acc, 0 ≤ m
 | .mk k n s l, acc, h, ha => by
  simp only [okT, Bool.and_eq_true] at h
  simp only [vsT]
  split
  ·next hk =>
   subst hk
   have hn := (part_var h.1).1
   intro m hm
   unfold addV at hm
   split at hm
   ·exact ha m hm
   ·rcases List.mem_append.1 hm with g | g
    ·exact ha m g
    ·simp at g
     omega
  ·exact vsL_pos l acc h.2 ha
theorem vsL_pos : ∀ (l : List Tm) (acc : List Int), okL l = true → (∀ m ∈ acc, 0 ≤ m) → ∀ m ∈ vsL l acc, 0 ≤ m
 | [], acc, _, ha => ha
 | a :: r, acc, h, ha => by
  simp only [okL, Bool.and_eq_true] at h
  exact vsL_pos r _ h.2 (vs_pos a acc h.1 ha)
end
structure Rt (O : Ops) (bare : Bool) (pr rt m : Int) (t : Tm) (ts : List TokV) : Prop where
 ne : ∃ a l, ts = a :: l ∧ isPu [a] 93 = false ∧ isPu [a] 125 = false
 be : bare = false → ∀ R, beginsB O (ts ++ R) = true
 par : ∀ {M : Int} {R : List TokV} {acc : List Int} {k : Nat} {u : Tm} {q : List TokV} {ms : List ByteArray}, m ≤ M → Fol O bare rt R → (∀ m ∈ acc, 0 ≤ m) → loopN O k M (rnT t acc) pr R ((vsT t acc).map vnm) = .ok u q ms → termN O (k + 5 * ts.length) M (ts ++ R) (acc.map vnm) = .ok u q ms
theorem Rt.nil {bare : Bool} {pr rt m : Int} {t : Tm} {ts : List TokV} (h : Rt O bare pr rt m t ts) : ts ≠ [] := by
 obtain ⟨a, l, rfl, _⟩ := h.ne
 simp
theorem Rt.level {bare : Bool} {pr rt m m' : Int} {t : Tm} {ts : List TokV} (h : Rt O bare pr rt m t ts) (hm : m ≤ m') : Rt O bare pr rt m' t ts :=
 ⟨h.ne, h.be, fun h1 => h.par (by omega)⟩
theorem Rt.lay {bare : Bool} {pr rt m : Int} {t : Tm} {ts : List TokV} (h : Rt O bare pr rt m t ts) : Rt O bare pr rt m t (layHead ts) := by
 obtain ⟨a, l, rfl, h1, h2⟩ := h.ne
 refine ⟨⟨{ a with lay := true }, l, rfl, h1, h2⟩, fun hb R => h.be hb R, fun {M R acc k u q ms} hm hf ha hl => ?_⟩
 have := h.par hm hf ha hl
 exact term_lay O _ M a (l ++ R) _ this
theorem Rt.whole {bare : Bool} {pr rt m : Int} {t : Tm} {ts : List TokV} (h : Rt O bare pr rt m t ts) {M : Int} {R : List TokV} {acc : List Int} (hm : m ≤ M) (hf : Fol O bare rt R) (hs : ∀ o, infixF O R = some o → M < o.p) (ha : ∀ m ∈ acc, 0 ≤ m) (n : Nat) (hn : 5 * ts.length + 1 ≤ n) : termN O n M (ts ++ R) (acc.map vnm) = .ok (rnT t acc) R ((vsT t acc).map vnm) := by
 have := h.par (k := 1) hm hf ha (loop_stop hs 0 _ _ _)
 exact (up_all O (1 + 5 * ts.length) n (by omega)).term _ _ _ _ _ _ this
theorem pun_pu (c d : UInt8) (R : List TokV) : isPu (pun c :: R) d = decide (c = d) := pu_of rfl rfl
theorem oper_pun (n : Nat) (c : UInt8) (M : Int) (R : List TokV) (ns : List ByteArray) : operN O (n + 1) M (pun c :: R) ns = bracN O n (pun c) R ns := by
 simp only [operN]
 rw [if_pos (show (pun c).kind = 5 from rfl)]
theorem brac_par (n : Nat) (R : List TokV) (ns : List ByteArray) : bracN O (n + 1) (pun 40) R ns = (match termN O n 1200 R ns with
  | .bad q => .bad q
  | .ok u q ms => wantP 41 (u, 0) q ms) := by
 simp only [bracN]
 rw [if_pos (show (pun 40).s.data.toList = [40] from rfl)]
 rfl
theorem brac_sq (n : Nat) (R : List TokV) (ns : List ByteArray) : bracN O (n + 1) (pun 91) R ns = (if isPu R 93 then namedN O n nilB R.tail ns
    else match rowN O n false [] R ns with
    | .bad q => .bad q
    | .ok l q ms => if isPu q 124 then (match termN O n 999 q.tail ms with
      | .bad q2 => .bad q2
      | .ok u q2 m2 => wantP 93 (listT l u, 0) q2 m2)
     else wantP 93 (listT l (atomT nilB), 0) q ms) := by
 simp only [bracN]
 rw [if_neg (show ¬ (pun 91).s.data.toList = [40] by decide), if_pos (show (pun 91).s.data.toList = [91] from rfl)]
 rfl
theorem brac_cur (n : Nat) (R : List TokV) (ns : List ByteArray) : bracN O (n + 1) (pun 123) R ns = (if isPu R 125 then namedN O n curB R.tail ns
    else match termN O n 1200 R ns with
    | .bad q => .bad q
    | .ok u q ms => wantP 125 (compT curB [u], 0) q ms) := by
 simp only [bracN]
 rw [if_neg (show ¬ (pun 123).s.data.toList = [40] by decide), if_neg (show ¬ (pun 123).s.data.toList = [91] by decide), if_pos (show (pun 123).s.data.toList = [123] from rfl)]
 rfl
theorem want_pun {α : Type} (c : UInt8) (a : α) (R : List TokV) (ns : List ByteArray) : wantP c a (pun c :: R) ns = .ok a R ns := by
 unfold wantP
 rw [pun_pu, if_pos (by simp)]
 rfl
theorem oper_sign (n : Nat) (s : ByteArray) (b : Bool) (M : Int) (R : List TokV) (ns : List ByteArray) : operN O (n + 1) M (⟨1, s, 0, 0, b⟩ :: R) ns = signN O n s M R ns := by
 simp [operN]
theorem oper_quo (n : Nat) (s : ByteArray) (b : Bool) (M : Int) (R : List TokV) (ns : List ByteArray) : operN O (n + 1) M (⟨2, s, 0, 0, b⟩ :: R) ns = namedN O n s R ns := by
 simp [operN]
theorem oper_var (n : Nat) (s : ByteArray) (b : Bool) (M : Int) (R : List TokV) (ns : List ByteArray) : operN O (n + 1) M (⟨3, s, 0, 0, b⟩ :: R) ns = .ok (varT s ns, 0) R (varN s ns) := by
 simp [operN]
theorem oper_int (n : Nat) (s : ByteArray) (v : Int) (b : Bool) (M : Int) (R : List TokV) (ns : List ByteArray) : operN O (n + 1) M (⟨4, s, v, 0, b⟩ :: R) ns = .ok (intT v, 0) R ns := by
 simp [operN]
theorem in_pun {c : UInt8} (hc : c ≠ 44) (R : List TokV) : infixF O (pun c :: R) = none := by
 have h1 : ¬ (pun c).kind = 1 := by intro h; cases h
 have h2 : isPu (pun c :: R) 44 = false := by rw [pun_pu]; simp [hc]
 simp [infixF, h1, h2]
theorem Rt.brk {bare : Bool} {pr rt m : Int} {t : Tm} {ts : List TokV} (h : Rt O bare pr rt m t ts) (hm : m ≤ 1200) (m' : Int) : Rt O false 0 0 m' t (pun 40 :: ts ++ [pun 41]) := by
 refine ⟨⟨pun 40, ts ++ [pun 41], rfl, rfl, rfl⟩, fun _ R => rfl, fun {M R acc k u q ms} _ hf ha hl => ?_⟩
 have hw := h.whole (M := 1200) (R := pun 41 :: R) (acc := acc) hm (fol_pu (c := 41) (by rw [pun_pu]; rfl) (.inl rfl) _ _ (fun e => absurd e (by decide))) (fun o ho => by rw [in_pun (by decide)] at ho; cases ho) ha (k + 5 * ts.length + 7) (by omega)
 rw [show k + 5 * (pun 40 :: ts ++ [pun 41]).length = (k + 5 * ts.length + 9) + 1 from by simp; omega]
 simp only [termN]
 have ho : operN O (k + 5 * ts.length + 9) M (pun 40 :: ts ++ [pun 41] ++ R) (acc.map vnm) = .ok (rnT t acc, 0) R ((vsT t acc).map vnm) := by
  rw [show k + 5 * ts.length + 9 = (k + 5 * ts.length + 8) + 1 from rfl]
  rw [List.cons_append, List.cons_append, oper_pun, show k + 5 * ts.length + 8 = (k + 5 * ts.length + 7) + 1 from rfl, brac_par, List.append_assoc, List.singleton_append, hw]
  exact want_pun 41 _ _ _
 rw [ho]
 exact (up_all O k _ (by omega)).loop _ _ _ _ _ _ _ _ hl
theorem rt_var {n : Int} (hn : 0 ≤ n) (s : ByteArray) (l : List Tm) (m : Int) : Rt O false 0 0 m (.mk 1 n s l) [⟨3, vnm n, 0, 0, false⟩] := by
 refine ⟨⟨_, [], rfl, rfl, rfl⟩, fun _ R => rfl, fun {M R acc k u q ms} _ hf ha hl => ?_⟩
 obtain ⟨h1, h2⟩ := var_read hn ha
 show termN O (k + 4 + 1) M _ _ = _
 simp only [termN]
 have ho : operN O (k + 4) M ([⟨3, vnm n, 0, 0, false⟩] ++ R) (acc.map vnm) = .ok (varT (vnm n) (acc.map vnm), 0) R (varN (vnm n) (acc.map vnm)) := by
  exact oper_var (k + 3) _ _ _ _ _
 rw [ho, h1, h2]
 simp only [rnT, vsT, if_true] at hl
 exact (up_all O k (k + 4) (by omega)).loop _ _ _ _ _ _ _ _ hl
theorem rt_int {n : Int} (m : Int) : Rt O (decide (n < 0)) 0 0 m (.mk 2 n ⟨#[]⟩ []) (inT n) := by
 unfold inT
 by_cases h : n < 0
 ·rw [if_pos h]
  refine ⟨⟨_, _, rfl, rfl, rfl⟩, fun hb => by simp [h] at hb, fun {M R acc k u q ms} _ hf ha hl => ?_⟩
  show termN O (k + 9 + 1) M _ _ = _
  simp only [termN]
  have ho : operN O (k + 9) M ([⟨1, minB, 0, 0, false⟩, ⟨4, ⟨#[]⟩, -n, 0, false⟩] ++ R) (acc.map vnm) = .ok (intT n, 0) R (acc.map vnm) := by
   rw [show k + 9 = (k + 7) + 1 + 1 from rfl, List.cons_append, oper_sign]
   simp only [signN]
   have h1 : ¬ opensB ([⟨4, ⟨#[]⟩, -n, 0, false⟩] ++ R) = true := by simp [opensB, isPu]
   have h2 : True ∧ numB ([⟨4, ⟨#[]⟩, -n, 0, false⟩] ++ R) = true := ⟨trivial, by simp [numB]⟩
   rw [if_neg h1, if_pos h2]
   simp [headN]
  rw [ho]
  exact (up_all O k (k + 9) (by omega)).loop _ _ _ _ _ _ _ _ hl
 ·rw [if_neg h]
  refine ⟨⟨_, [], rfl, rfl, rfl⟩, fun _ R => rfl, fun {M R acc k u q ms} _ hf ha hl => ?_⟩
  show termN O (k + 4 + 1) M _ _ = _
  simp only [termN]
  have ho : operN O (k + 4) M ([⟨4, ⟨#[]⟩, n, 0, false⟩] ++ R) (acc.map vnm) = .ok (intT n, 0) R (acc.map vnm) := by
   exact oper_int (k + 3) _ _ _ _ _ _
  rw [ho]
  exact (up_all O k (k + 4) (by omega)).loop _ _ _ _ _ _ _ _ hl
theorem oper_name {s : ByteArray} {M : Int} {R : List TokV} {ns : List ByteArray} {k : Nat} {x : PR (Tm × Int)} (hx : ∀ n, k ≤ n → namedN O n s R ns = x) (hs : opensB R = true ∨ (numB R = false ∧ (plainL s.data.toList = true → (O.fp s).isSome = true → beginsB O R = false))) : operN O (k + 3) M (nmT s ++ R) ns = x := by
 unfold nmT
 by_cases h1 : s.data.toList = [91, 93]
 ·have e : nilB = s := (mk_of h1).symm
  rw [if_pos h1, show k + 3 = (k + 1) + 1 + 1 from rfl, List.cons_append, oper_pun, brac_sq, List.cons_append, pun_pu, if_pos (by decide), e]
  exact hx (k + 1) (by omega)
 ·by_cases h2 : s.data.toList = [123, 125]
  ·have e : curB = s := (mk_of h2).symm
   rw [if_neg h1, if_pos h2, show k + 3 = (k + 1) + 1 + 1 from rfl, List.cons_append, oper_pun, brac_cur, List.cons_append, pun_pu, if_pos (by decide), e]
   exact hx (k + 1) (by omega)
  ·rw [if_neg h1, if_neg h2]
   by_cases hp : plainL s.data.toList = true
   ·rw [if_pos hp, show k + 3 = (k + 1) + 1 + 1 from rfl, List.cons_append, oper_sign]
    simp only [signN, List.nil_append]
    rcases hs with hs | ⟨hs1, hs2⟩
    ·rw [if_pos hs]
     exact hx (k + 1) (by omega)
    ·by_cases ho : opensB R = true
     ·rw [if_pos ho]
      exact hx (k + 1) (by omega)
     ·have hno : ¬ (s = minB ∧ numB R = true) := by simp [hs1]
      rw [if_neg ho, if_neg hno]
      have hat : namedN O (k + 1) s R ns = .ok (atomT s, 0) R ns := by
       simp only [namedN]
       rw [if_neg ho]
      rw [hx (k + 1) (by omega)] at hat
      cases hf : O.fp s with
      | none => exact hat.symm
      | some o =>
       have hnb : ¬ (o.p ≤ M ∧ beginsB O R = true) := by rw [hs2 hp (by rw [hf]; rfl)]; simp
       simp only
       rw [if_neg hnb]
       exact hat.symm
   ·rw [if_neg hp, show k + 3 = (k + 2) + 1 from rfl, List.cons_append, oper_quo, List.nil_append]
    exact hx (k + 2) (by omega)
theorem begins_name {s : ByteArray} {R : List TokV} (h : opensB R = true ∨ (O.fi s).isSome = false) : beginsB O (nmT s ++ R) = true := by
 unfold nmT
 split
 ·rfl
 ·split
  ·rfl
  ·split
   ·simp only [List.cons_append, List.nil_append, beginsB]
    rcases h with h | h <;> simp [h]
   ·rfl
theorem name_start (s : ByteArray) : ∃ a l, nmT s = a :: l ∧ isPu [a] 93 = false ∧ isPu [a] 125 = false := by
 unfold nmT
 split
 ·exact ⟨_, _, rfl, rfl, rfl⟩
 ·split
  ·exact ⟨_, _, rfl, rfl, rfl⟩
  ·refine ⟨_, _, rfl, ?_, ?_⟩ <;> · apply pu_no; simp only; split <;> decide
theorem nm_len (s : ByteArray) : 1 ≤ (nmT s).length := by
 obtain ⟨a, l, h, _⟩ := name_start s
 rw [h]
 simp
theorem rt_atom {s : ByteArray} {b : Bool} (hb : ((O.fi s).isSome = true ∨ (O.fp s).isSome = true) → b = true) (m : Int) : Rt O b 0 0 m (.mk 3 0 s []) (nmT s) := by
 refine ⟨name_start s, fun hf R => begins_name (.inr ?_), fun {M R acc k u q ms} _ hf ha hl => ?_⟩
 ·cases h : (O.fi s).isSome with
  | false => rfl
  | true => rw [hb (.inl h)] at hf; cases hf
 ·have h1 := nm_len s
  obtain ⟨j, hj⟩ : ∃ j, k + 5 * (nmT s).length = (j + 1 + 3) + 1 := ⟨k + 5 * (nmT s).length - 5, by omega⟩
  rw [hj]
  simp only [termN]
  have ho : operN O (j + 1 + 3) M (nmT s ++ R) (acc.map vnm) = .ok (atomT s, 0) R (acc.map vnm) := by
   refine oper_name (fun n hn => ?_) (.inr ⟨hf.nu, fun _ h => hf.be (hb (.inr h))⟩)
   obtain ⟨n, rfl⟩ : ∃ i, n = i + 1 := ⟨n - 1, by omega⟩
   simp only [namedN]
   rw [if_neg (by rw [hf.op]; decide)]
  rw [ho]
  exact (up_all O k _ (by omega)).loop _ _ _ _ _ _ _ _ hl
end Go.El
