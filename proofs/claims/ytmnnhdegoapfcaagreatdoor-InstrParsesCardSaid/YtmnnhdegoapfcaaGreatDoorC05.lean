/- Layer 8 (token): a name's text, scanned, is that name. No program in sight. -/
import Derived.Test.YtmnnhdegoapfcaaGreatDoorC04
import Derived.Test.YtmnnhdegoapfcaaGreatDoorC02
import Derived.Lib.ItoaNum
import Derived.RowKit
import Derived.Lib.Join
import Derived.Lib.IndexMore
import Derived.Lib.LastIndexByte
import Derived.Lib.AtoiAll
namespace Go.El

/-- How a byte stands between quotes. -/
def sgnS (c : UInt8) : List UInt8 := if c = 10 then [92, 110] else if c = 9 then [92, 116] else if c = 39 ∨ c = 92 then [92, c] else [c]
def isCtl (c : UInt8) : Bool := (c < 32 && c != 10 && c != 9) || c == 127
def hexD (n : Nat) : UInt8 := if n < 10 then UInt8.ofNat (48 + n) else UInt8.ofNat (87 + n)
def hexL (c : UInt8) : List UInt8 := if c.toNat < 16 then [hexD c.toNat] else [hexD (c.toNat / 16), hexD (c.toNat % 16)]
def sgnF (c : UInt8) : List UInt8 := if isCtl c then [92, 120] ++ hexL c ++ [92] else sgnS c
def sgnW (l : List UInt8) : List UInt8 := l.flatMap sgnF
def quoF (l : List UInt8) : List UInt8 := if plainL l then l else [39] ++ sgnW l ++ [39]

theorem hex_back (c : UInt8) (h : isCtl c = true) : (∃ a, hexL c = [a] ∧ isHex a = true ∧ UInt8.ofNat (hexV a) = c) ∨ ∃ a b, hexL c = [a, b] ∧ isHex a = true ∧ isHex b = true ∧ UInt8.ofNat (16 * hexV a + hexV b) = c := by
  have key := all_bytes (p := fun c => (!isCtl c || (match hexL c with | [a] => isHex a && UInt8.ofNat (hexV a) == c | [a, b] => isHex a && isHex b && UInt8.ofNat (16 * hexV a + hexV b) == c | _ => false)) = true) (by decide +kernel) c
  rw [h] at key
  simp only [Bool.not_true, Bool.false_or] at key
  split at key
  · rename_i x a heq
    simp only [Bool.and_eq_true, beq_iff_eq] at key
    exact .inl ⟨_, heq, key⟩
  · rename_i x a b heq
    simp only [Bool.and_eq_true, beq_iff_eq] at key
    exact .inr ⟨_, _, heq, key.1.1, key.1.2, key.2⟩
  · cases key

theorem mid_at (P Q : List UInt8) (j : Nat) : (P ++ Q)[P.length + j]? = Q[j]? := by
  rw [List.getElem?_append_right (by omega), Nat.add_sub_cancel_left]

theorem escS_same {B : List UInt8} {i : Nat} {c : UInt8} (h : B[i]? = some c) (hc : c = 92 ∨ c = 39) : escS B i = some (c, i + 1) := by
  unfold escS
  rw [h]
  simp only [if_pos hc]
theorem escS_n {B : List UInt8} {i : Nat} (h : B[i]? = some 110) : escS B i = some (10, i + 1) := by
  unfold escS
  rw [h]
  rfl
theorem escS_t {B : List UInt8} {i : Nat} (h : B[i]? = some 116) : escS B i = some (9, i + 1) := by
  unfold escS
  rw [h]
  rfl
theorem escS_x1 {B : List UInt8} {i : Nat} {a : UInt8} (h : B[i]? = some 120) (h1 : B[i + 1]? = some a) (ha : isHex a = true) (h2 : B[i + 2]? = some 92) : escS B i = some (UInt8.ofNat (hexV a), i + 3) := by
  have r : rowTo isHex B (i + 1) = i + 2 := by rw [rowTo_yes h1 ha, rowTo_no h2 (by decide)]
  have g : B.getD (i + 1) 0 = a := by simp [List.getD, h1]
  unfold escS
  rw [h]
  simp only [r, h2, g]
  simp
theorem escS_x2 {B : List UInt8} {i : Nat} {a b : UInt8} (h : B[i]? = some 120) (h1 : B[i + 1]? = some a) (ha : isHex a = true) (h2 : B[i + 2]? = some b) (hb : isHex b = true) (h3 : B[i + 3]? = some 92) : escS B i = some (UInt8.ofNat (16 * hexV a + hexV b), i + 4) := by
  have r : rowTo isHex B (i + 1) = i + 3 := by rw [rowTo_yes h1 ha, rowTo_yes h2 hb, rowTo_no h3 (by decide)]
  have g : B.getD (i + 1) 0 = a := by simp [List.getD, h1]
  have g2 : B.getD (i + 2) 0 = b := by simp [List.getD, h2]
  unfold escS
  rw [h]
  simp only [r, h3, g, g2]
  simp
theorem quoS_esc {B : List UInt8} {i j : Nat} {x : UInt8} {acc : List UInt8} (h : B[i]? = some 92) (he : escS B (i + 1) = some (x, j)) : quoS B i acc = quoS B j (acc ++ [x]) := by
  rw [quoS_eq h, he]
  simp
theorem quoS_one {B : List UInt8} {i : Nat} {c : UInt8} {acc : List UInt8} (h : B[i]? = some c) (h1 : c ≠ 39) (h2 : c ≠ 92) (h3 : ¬ (c < 32 ∨ c = 127)) : quoS B i acc = quoS B (i + 1) (acc ++ [c]) := by
  rw [quoS_eq h]
  simp only [h1, h2, h3, false_and, if_false]

theorem quo_step (P R : List UInt8) (c : UInt8) (acc : List UInt8) : quoS (P ++ (sgnF c ++ R)) P.length acc = quoS (P ++ (sgnF c ++ R)) (P.length + (sgnF c).length) (acc ++ [c]) := by
  by_cases hc : isCtl c = true
  · rcases hex_back c hc with ⟨a, h1, h2, h3⟩ | ⟨a, b, h1, h2, h3, h4⟩
    · have hs : sgnF c = [92, 120, a, 92] := by unfold sgnF; rw [if_pos hc, h1]; rfl
      rw [hs]
      generalize hT : P ++ ([92, 120, a, 92] ++ R) = T
      have t0 : T[P.length]? = some 92 := by rw [← hT]; exact mid_at P _ 0
      have t1 : T[P.length + 1]? = some 120 := by rw [← hT]; exact mid_at P _ 1
      have t2 : T[P.length + 2]? = some a := by rw [← hT]; exact mid_at P _ 2
      have t3 : T[P.length + 3]? = some 92 := by rw [← hT]; exact mid_at P _ 3
      rw [quoS_esc t0 (escS_x1 t1 t2 h2 t3), h3]
      rfl
    · have hs : sgnF c = [92, 120, a, b, 92] := by unfold sgnF; rw [if_pos hc, h1]; rfl
      rw [hs]
      generalize hT : P ++ ([92, 120, a, b, 92] ++ R) = T
      have t0 : T[P.length]? = some 92 := by rw [← hT]; exact mid_at P _ 0
      have t1 : T[P.length + 1]? = some 120 := by rw [← hT]; exact mid_at P _ 1
      have t2 : T[P.length + 2]? = some a := by rw [← hT]; exact mid_at P _ 2
      have t3 : T[P.length + 3]? = some b := by rw [← hT]; exact mid_at P _ 3
      have t4 : T[P.length + 4]? = some 92 := by rw [← hT]; exact mid_at P _ 4
      rw [quoS_esc t0 (escS_x2 t1 t2 h2 t3 h3 t4), h4]
      rfl
  · have hs0 : sgnF c = sgnS c := by unfold sgnF; rw [if_neg hc]
    by_cases h10 : c = 10
    · subst h10
      have hs : sgnF 10 = [92, 110] := rfl
      rw [hs]
      generalize hT : P ++ ([92, 110] ++ R) = T
      have t0 : T[P.length]? = some 92 := by rw [← hT]; exact mid_at P _ 0
      have t1 : T[P.length + 1]? = some 110 := by rw [← hT]; exact mid_at P _ 1
      rw [quoS_esc t0 (escS_n t1)]
      rfl
    by_cases h9 : c = 9
    · subst h9
      have hs : sgnF 9 = [92, 116] := rfl
      rw [hs]
      generalize hT : P ++ ([92, 116] ++ R) = T
      have t0 : T[P.length]? = some 92 := by rw [← hT]; exact mid_at P _ 0
      have t1 : T[P.length + 1]? = some 116 := by rw [← hT]; exact mid_at P _ 1
      rw [quoS_esc t0 (escS_t t1)]
      rfl
    by_cases hq : c = 39 ∨ c = 92
    · have hs : sgnF c = [92, c] := by rw [hs0]; unfold sgnS; rw [if_neg h10, if_neg h9, if_pos hq]
      rw [hs]
      generalize hT : P ++ ([92, c] ++ R) = T
      have t0 : T[P.length]? = some 92 := by rw [← hT]; exact mid_at P _ 0
      have t1 : T[P.length + 1]? = some c := by rw [← hT]; exact mid_at P _ 1
      rw [quoS_esc t0 (escS_same t1 (hq.symm))]
      rfl
    · have hs : sgnF c = [c] := by rw [hs0]; unfold sgnS; rw [if_neg h10, if_neg h9, if_neg hq]
      rw [hs]
      generalize hT : P ++ ([c] ++ R) = T
      have t0 : T[P.length]? = some c := by rw [← hT]; exact mid_at P _ 0
      have h3 : ¬ (c < 32 ∨ c = 127) := by
        intro h
        apply hc
        unfold isCtl
        rcases h with h | h
        · simp [h, h10, h9]
        · simp [h]
      rw [quoS_one t0 (fun e => hq (.inl e)) (fun e => hq (.inr e)) h3]
      rfl

theorem quo_all : ∀ (l P acc : List UInt8), quoS (P ++ (sgnW l ++ [39])) P.length acc = some (acc ++ l, P.length + (sgnW l).length + 1)
  | [], P, acc => by
    have t0 : (P ++ (sgnW [] ++ [39]))[P.length]? = some 39 := mid_at P _ 0
    have t1 : (P ++ (sgnW [] ++ [39]))[P.length + 1]? = none := mid_at P _ 1
    rw [quoS_eq t0, t1]
    simp [sgnW]
  | c :: l, P, acc => by
    have hw : sgnW (c :: l) = sgnF c ++ sgnW l := by simp [sgnW]
    have ih := quo_all l (P ++ sgnF c) (acc ++ [c])
    have hs := quo_step P (sgnW l ++ [39]) c acc
    rw [hw, List.append_assoc, hs]
    rw [List.append_assoc, List.length_append] at ih
    rw [ih]
    simp
    omega

theorem skip_none {B : List UInt8} {c : UInt8} (h : B[0]? = some c) (h1 : isBlank c = false) (h2 : c ≠ 37) (h3 : ¬ (c = 47 ∧ B[1]? = some 42)) : skipTo B 0 = (0, true) := by
  rw [skipTo_eq h, h1, if_neg h2, if_neg h3]
  rfl

/-- What the scan of a name's text gives. -/
def backS (k : Int) (l : List UInt8) (n : Nat) : TokV × Nat × Int := if 64 < l.length then (zeroT, 0, 3) else (⟨k, ⟨l.toArray⟩, 0, 0, false⟩, n, 0)
theorem scan_one {B : List UInt8} {c : UInt8} {k : Int} {l : List UInt8} {n : Nat} (h : B[0]? = some c) (hs : skipTo B 0 = (0, true)) (ho : oneS B 0 c = nameS k l n) : scanS B 0 = backS k l n := by
  unfold scanS backS
  rw [hs]
  simp only [h, ho]
  unfold nameS
  by_cases hl : 64 < l.length
  · rw [if_pos hl, if_pos hl]
  · rw [if_neg hl, if_neg hl]
    rfl

theorem scan_quoted (l : List UInt8) : scanS ([39] ++ sgnW l ++ [39]) 0 = backS 2 l ([39] ++ sgnW l ++ [39]).length := by
  have h0 : ([39] ++ sgnW l ++ [39])[0]? = some 39 := by simp
  have hq := quo_all l [39] []
  rw [← List.append_assoc] at hq
  refine scan_one h0 (skip_none h0 (by decide) (by decide) (fun e => absurd e.1 (by decide))) ?_
  have he : endsS ([39] ++ sgnW l ++ [39]) 0 39 = false := rfl
  unfold oneS
  rw [he, if_neg (by decide), if_neg (by decide), if_neg (by decide), if_neg (by decide), if_neg (by decide), if_neg (by decide), if_neg (by decide), if_pos rfl]
  rw [show ([39] : List UInt8).length = 0 + 1 from rfl] at hq
  rw [hq]
  have e : 0 + 1 + (sgnW l).length + 1 = ([39] ++ sgnW l ++ [39]).length := by simp; omega
  rw [e]
  rfl

theorem takeWhile_all {p : UInt8 → Bool} : ∀ {l : List UInt8}, l.all p = true → l.takeWhile p = l
  | [], _ => rfl
  | c :: l, h => by
    rw [List.all_cons, Bool.and_eq_true] at h
    rw [List.takeWhile_cons, h.1, takeWhile_all h.2]
    rfl
theorem row_all {p : UInt8 → Bool} {l : List UInt8} (h : l.all p = true) : rowTo p l 0 = l.length := by
  unfold rowTo
  rw [List.drop_zero, takeWhile_all h]
  omega
theorem sub_all (l : List UInt8) : sub l 0 l.length = l := by simp [sub]

theorem scan_plain (l : List UInt8) (h : plainL l = true) (h1 : l ≠ [91, 93]) (h2 : l ≠ [123, 125]) : scanS l 0 = backS 1 l l.length := by
  by_cases h33 : l = [33]
  · subst h33; decide
  by_cases h59 : l = [59]
  · subst h59; decide
  unfold plainL at h
  rw [if_neg (by simp [h33, h59, h1, h2])] at h
  split at h
  · cases h
  · rename_i hn
    split at h
    · cases h
    · rename_i hp
      cases l with
      | nil => exact absurd (Or.inl rfl) hn
      | cons c r =>
        have h0 : (c :: r)[0]? = some c := rfl
        rw [Bool.or_eq_true] at h
        rcases h with h | h
        · rw [Bool.and_eq_true] at h
          obtain ⟨hs, hw⟩ := h
          have hs' : isSmall c = true := hs
          have hb : isBlank c = false ∧ c ≠ 37 ∧ c ≠ 47 ∧ c ≠ 46 := by
            have := all_bytes (p := fun c => (!isSmall c || (!isBlank c && c != 37 && c != 47 && c != 46)) = true) (by decide +kernel) c
            rw [hs'] at this
            simpa [and_assoc] using this
          refine scan_one h0 (skip_none h0 hb.1 hb.2.1 (fun e => hb.2.2.1 e.1)) ?_
          have he : endsS (c :: r) 0 c = false := by unfold endsS; simp [hb.2.2.2]
          unfold oneS
          rw [he, if_neg (by decide), if_pos hs', row_all hw, sub_all]
        · have hs' : isSign c = true := by
            rw [List.all_cons, Bool.and_eq_true] at h
            exact h.1
          have hb : isBlank c = false ∧ c ≠ 37 ∧ isSmall c = false := by
            have := all_bytes (p := fun c => (!isSign c || (!isBlank c && c != 37 && !isSmall c)) = true) (by decide +kernel) c
            rw [hs'] at this
            simpa [and_assoc] using this
          refine scan_one h0 (skip_none h0 hb.1 hb.2.1 ?_) ?_
          · rintro ⟨rfl, e⟩
            cases r with
            | nil => cases e
            | cons d r =>
              have e' : d = 42 := by simpa using e
              subst e'
              exact hp rfl
          have he : endsS (c :: r) 0 c = false := by
            unfold endsS
            by_cases h46 : c = 46
            · subst h46
              cases r with
              | nil => exact absurd (Or.inr rfl) hn
              | cons d r =>
                have hd : isSign d = true := by
                  simp only [List.all_cons, Bool.and_eq_true] at h
                  exact h.2.1
                have := all_bytes (p := fun c => (!isSign c || (!isBlank c && c != 37)) = true) (by decide +kernel) d
                rw [hd] at this
                simp at this
                simp [this]
            · simp [h46]
          unfold oneS
          rw [he, if_neg (by decide), hb.2.2, if_neg (by decide), if_pos hs', row_all h, sub_all]

/-- The scan of a name's text. -/
theorem scan_quo (l : List UInt8) (h1 : l ≠ [91, 93]) (h2 : l ≠ [123, 125]) : scanS (quoF l) 0 = backS (if plainL l then 1 else 2) l (quoF l).length := by
  unfold quoF
  by_cases h : plainL l = true
  · rw [if_pos h, if_pos h]
    exact scan_plain l h h1 h2
  · rw [if_neg h, if_neg h]
    exact scan_quoted l

end Go.El

/- Layer 16, plain: an instruction's text, and what a text is as an instruction. -/
namespace Go.El

def regT (v : Int) : List UInt8 := if v < 0 then 89 :: Lib.itoa (-v) else 88 :: Lib.itoa v
/-- A field's text. -/
def fldT (i : Ins) (f : Nat) : List UInt8 :=
  if f = 1 then regT i.v else if f = 8 then quoF i.s.data.toList else if f = 16 ∨ f = 128 then Lib.itoa i.n else if f = 2 then 65 :: Lib.itoa i.a
  else if f = 4 then Lib.itoa i.a else quoF i.s.data.toList ++ [47] ++ Lib.itoa i.n
def ordF : List Nat := [1, 8, 16, 32, 64, 128, 2, 4]
/-- The words of a text: the name, then the first of the fields. -/
def insTs (i : Ins) (k : Nat) : List (List UInt8) := nameF i.op :: ((ordF.take k).filter (hasF i.op)).map (fldT i)
def insT (i : Ins) : List UInt8 := if insMay i then Lib.join (insTs i 8) [32] else []

/-- A number, or 0. -/
def atoiF (l : List UInt8) : Int := match Lib.atoiAll l with
  | .ok v => v
  | .range => Lib.atoiSat l
  | _ => 0
def bE : ByteArray := ⟨#[]⟩
/-- The last word. -/
def wordB (s : ByteArray) : ByteArray × ByteArray := if Lib.lastIndexByte s 32 < 0 then (bE, s) else (s.extract 0 (Lib.lastIndexByte s 32).toNat, s.extract ((Lib.lastIndexByte s 32).toNat + 1) s.size)
def unregB (s : ByteArray) : Int :=
  if Lib.hasPrefix s.data.toList [88] then atoiF (s.extract 1 s.size).data.toList else if Lib.hasPrefix s.data.toList [89] then RowKit.wrap64 (-(atoiF (s.extract 1 s.size).data.toList)) else 0
def unqB (s : ByteArray) : ByteArray := if (scanS s.data.toList 0).2.2 = 0 ∧ (scanS s.data.toList 0).2.1 = s.size then (scanS s.data.toList 0).1.s else s
def trimB (s : ByteArray) (c : UInt8) : List UInt8 := Lib.trimPrefix s.data.toList [c]
def slashB (s : ByteArray) : Nat := (max (Lib.lastIndexByte s 47) 0).toNat
/-- What the first field says. -/
def firstB (i : Ins) (s : ByteArray) : Ins :=
  if hasF i.op 1 then { i with v := unregB s } else if hasF i.op 8 then { i with s := unqB s } else if hasF i.op 144 then { i with n := atoiF s.data.toList }
  else if hasF i.op 96 then { i with s := unqB (s.extract 0 (slashB s)), n := atoiF (trimB (s.extract (slashB s) s.size) 47) } else i
def opIdx (h : List UInt8) : Int := match opTab.findIdx? (fun p => p.1 == h) with
  | some k => k
  | none => -1
def headB (s : ByteArray) : List UInt8 := (Lib.cut s.data.toList [32]).1
def restB (s : ByteArray) : ByteArray := ⟨(Lib.cut s.data.toList [32]).2.1.toArray⟩
/-- The instruction that is read, ahead of the look at its text. -/
def readB (o : Int) (rest : ByteArray) : Ins :=
  if hasF o 6 then firstB ⟨o, bE, 0, 0, atoiF (trimB (wordB rest).2 65)⟩ (wordB rest).1 else firstB ⟨o, bE, 0, 0, 0⟩ rest
def parseB (s : ByteArray) : Option Ins :=
  if opIdx (headB s) < 1 then none
  else if insT (readB (opIdx (headB s)) (restB s)) = s.data.toList then some (readB (opIdx (headB s)) (restB s)) else none
end Go.El
