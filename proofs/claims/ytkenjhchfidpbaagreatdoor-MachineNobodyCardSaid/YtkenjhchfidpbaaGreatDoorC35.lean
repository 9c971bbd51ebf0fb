/- Layer 8 (token): a name's text, scanned, is that name. No program in sight. -/
import Derived.Test.YtkenjhchfidpbaaGreatDoorC34
import Derived.Test.YtkenjhchfidpbaaGreatDoorC33
import Derived.Test.YtkenjhchfidpbaaGreatDoorC23
import Derived.Laws.BytesArg
import Derived.Laws.IdiomStrings
import Derived.Lib.ConvBytes
import Derived.OwnWalk
namespace Go.El

/-- How a byte stands between quotes. -/
def sgnS (c : UInt8) : List UInt8 := if c = 10 then [92, 110] else if c = 9 then [92, 116] else if c = 39 ∨ c = 92 then [92, c] else [c]
def isCtl (c : UInt8) : Bool := (c < 32 && c != 10 && c != 9) || c == 127
def hexD (n : Nat) : UInt8 := if n < 10 then UInt8.ofNat (48 + n) else UInt8.ofNat (87 + n)
def hexL (c : UInt8) : List UInt8 := if c.toNat < 16 then [hexD c.toNat] else [hexD (c.toNat / 16), hexD (c.toNat % 16)]
def sgnF (c : UInt8) : List UInt8 := if isCtl c then [92, 120] ++ hexL c ++ [92] else sgnS c
def sgnW (l : List UInt8) : List UInt8 := l.flatMap sgnF
def quoF (l : List UInt8) : List UInt8 := if plainL l then l else [39] ++ sgnW l ++ [39]

theorem hex_back (c : UInt8) (h : isCtl c = true) : (∃ a, hexL c = [a] ∧ isHex a = true ∧ UInt8.ofNat (hexV a) = c) ∨ ∃ a b, hexL c = [a, b] ∧ isHex a = true ∧ isHex b = true ∧ UInt8.ofNat (16 * hexV a + hexV b) = c := by
  have key := all_bytes (p := fun c => (!isCtl c || (match hexL c with | [a] => isHex a && UInt8.ofNat (hexV a) == c | [a, b] => isHex a && isHex b && UInt8.ofNat (16 * hexV a + hexV b) == c | _ => false)) = true) (by decide +kernel) c
  rw [h] at key
  simp only [Bool.not_true, Bool.false_or] at key
  split at key
  · rename_i x a heq
    simp only [Bool.and_eq_true, beq_iff_eq] at key
    exact .inl ⟨_, heq, key⟩
  · rename_i x a b heq
    simp only [Bool.and_eq_true, beq_iff_eq] at key
    exact .inr ⟨_, _, heq, key.1.1, key.1.2, key.2⟩
  · cases key

theorem mid_at (P Q : List UInt8) (j : Nat) : (P ++ Q)[P.length + j]? = Q[j]? := by
  rw [List.getElem?_append_right (by omega), Nat.add_sub_cancel_left]

theorem escS_same {B : List UInt8} {i : Nat} {c : UInt8} (h : B[i]? = some c) (hc : c = 92 ∨ c = 39) : escS B i = some (c, i + 1) := by
  unfold escS
  rw [h]
  simp only [if_pos hc]
theorem escS_n {B : List UInt8} {i : Nat} (h : B[i]? = some 110) : escS B i = some (10, i + 1) := by
  unfold escS
  rw [h]
  rfl
theorem escS_t {B : List UInt8} {i : Nat} (h : B[i]? = some 116) : escS B i = some (9, i + 1) := by
  unfold escS
  rw [h]
  rfl
theorem escS_x1 {B : List UInt8} {i : Nat} {a : UInt8} (h : B[i]? = some 120) (h1 : B[i + 1]? = some a) (ha : isHex a = true) (h2 : B[i + 2]? = some 92) : escS B i = some (UInt8.ofNat (hexV a), i + 3) := by
  have r : rowTo isHex B (i + 1) = i + 2 := by rw [rowTo_yes h1 ha, rowTo_no h2 (by decide)]
  have g : B.getD (i + 1) 0 = a := by simp [List.getD, h1]
  unfold escS
  rw [h]
  simp only [r, h2, g]
  simp
theorem escS_x2 {B : List UInt8} {i : Nat} {a b : UInt8} (h : B[i]? = some 120) (h1 : B[i + 1]? = some a) (ha : isHex a = true) (h2 : B[i + 2]? = some b) (hb : isHex b = true) (h3 : B[i + 3]? = some 92) : escS B i = some (UInt8.ofNat (16 * hexV a + hexV b), i + 4) := by
  have r : rowTo isHex B (i + 1) = i + 3 := by rw [rowTo_yes h1 ha, rowTo_yes h2 hb, rowTo_no h3 (by decide)]
  have g : B.getD (i + 1) 0 = a := by simp [List.getD, h1]
  have g2 : B.getD (i + 2) 0 = b := by simp [List.getD, h2]
  unfold escS
  rw [h]
  simp only [r, h3, g, g2]
  simp
theorem quoS_esc {B : List UInt8} {i j : Nat} {x : UInt8} {acc : List UInt8} (h : B[i]? = some 92) (he : escS B (i + 1) = some (x, j)) : quoS B i acc = quoS B j (acc ++ [x]) := by
  rw [quoS_eq h, he]
  simp
theorem quoS_one {B : List UInt8} {i : Nat} {c : UInt8} {acc : List UInt8} (h : B[i]? = some c) (h1 : c ≠ 39) (h2 : c ≠ 92) (h3 : ¬ (c < 32 ∨ c = 127)) : quoS B i acc = quoS B (i + 1) (acc ++ [c]) := by
  rw [quoS_eq h]
  simp only [h1, h2, h3, false_and, if_false]

theorem quo_step (P R : List UInt8) (c : UInt8) (acc : List UInt8) : quoS (P ++ (sgnF c ++ R)) P.length acc = quoS (P ++ (sgnF c ++ R)) (P.length + (sgnF c).length) (acc ++ [c]) := by
  by_cases hc : isCtl c = true
  · rcases hex_back c hc with ⟨a, h1, h2, h3⟩ | ⟨a, b, h1, h2, h3, h4⟩
    · have hs : sgnF c = [92, 120, a, 92] := by unfold sgnF; rw [if_pos hc, h1]; rfl
      rw [hs]
      generalize hT : P ++ ([92, 120, a, 92] ++ R) = T
      have t0 : T[P.length]? = some 92 := by rw [← hT]; exact mid_at P _ 0
      have t1 : T[P.length + 1]? = some 120 := by rw [← hT]; exact mid_at P _ 1
      have t2 : T[P.length + 2]? = some a := by rw [← hT]; exact mid_at P _ 2
      have t3 : T[P.length + 3]? = some 92 := by rw [← hT]; exact mid_at P _ 3
      rw [quoS_esc t0 (escS_x1 t1 t2 h2 t3), h3]
      rfl
    · have hs : sgnF c = [92, 120, a, b, 92] := by unfold sgnF; rw [if_pos hc, h1]; rfl
      rw [hs]
      generalize hT : P ++ ([92, 120, a, b, 92] ++ R) = T
      have t0 : T[P.length]? = some 92 := by rw [← hT]; exact mid_at P _ 0
      have t1 : T[P.length + 1]? = some 120 := by rw [← hT]; exact mid_at P _ 1
      have t2 : T[P.length + 2]? = some a := by rw [← hT]; exact mid_at P _ 2
      have t3 : T[P.length + 3]? = some b := by rw [← hT]; exact mid_at P _ 3
      have t4 : T[P.length + 4]? = some 92 := by rw [← hT]; exact mid_at P _ 4
      rw [quoS_esc t0 (escS_x2 t1 t2 h2 t3 h3 t4), h4]
      rfl
  · have hs0 : sgnF c = sgnS c := by unfold sgnF; rw [if_neg hc]
    by_cases h10 : c = 10
    · subst h10
      have hs : sgnF 10 = [92, 110] := rfl
      rw [hs]
      generalize hT : P ++ ([92, 110] ++ R) = T
      have t0 : T[P.length]? = some 92 := by rw [← hT]; exact mid_at P _ 0
      have t1 : T[P.length + 1]? = some 110 := by rw [← hT]; exact mid_at P _ 1
      rw [quoS_esc t0 (escS_n t1)]
      rfl
    by_cases h9 : c = 9
    · subst h9
      have hs : sgnF 9 = [92, 116] := rfl
      rw [hs]
      generalize hT : P ++ ([92, 116] ++ R) = T
      have t0 : T[P.length]? = some 92 := by rw [← hT]; exact mid_at P _ 0
      have t1 : T[P.length + 1]? = some 116 := by rw [← hT]; exact mid_at P _ 1
      rw [quoS_esc t0 (escS_t t1)]
      rfl
    by_cases hq : c = 39 ∨ c = 92
    · have hs : sgnF c = [92, c] := by rw [hs0]; unfold sgnS; rw [if_neg h10, if_neg h9, if_pos hq]
      rw [hs]
      generalize hT : P ++ ([92, c] ++ R) = T
      have t0 : T[P.length]? = some 92 := by rw [← hT]; exact mid_at P _ 0
      have t1 : T[P.length + 1]? = some c := by rw [← hT]; exact mid_at P _ 1
      rw [quoS_esc t0 (escS_same t1 (hq.symm))]
      rfl
    · have hs : sgnF c = [c] := by rw [hs0]; unfold sgnS; rw [if_neg h10, if_neg h9, if_neg hq]
      rw [hs]
      generalize hT : P ++ ([c] ++ R) = T
      have t0 : T[P.length]? = some c := by rw [← hT]; exact mid_at P _ 0
      have h3 : ¬ (c < 32 ∨ c = 127) := by
        intro h
        apply hc
        unfold isCtl
        rcases h with h | h
        · simp [h, h10, h9]
        · simp [h]
      rw [quoS_one t0 (fun e => hq (.inl e)) (fun e => hq (.inr e)) h3]
      rfl

theorem quo_all : ∀ (l P acc : List UInt8), quoS (P ++ (sgnW l ++ [39])) P.length acc = some (acc ++ l, P.length + (sgnW l).length + 1)
  | [], P, acc => by
    have t0 : (P ++ (sgnW [] ++ [39]))[P.length]? = some 39 := mid_at P _ 0
    have t1 : (P ++ (sgnW [] ++ [39]))[P.length + 1]? = none := mid_at P _ 1
    rw [quoS_eq t0, t1]
    simp [sgnW]
  | c :: l, P, acc => by
    have hw : sgnW (c :: l) = sgnF c ++ sgnW l := by simp [sgnW]
    have ih := quo_all l (P ++ sgnF c) (acc ++ [c])
    have hs := quo_step P (sgnW l ++ [39]) c acc
    rw [hw, List.append_assoc, hs]
    rw [List.append_assoc, List.length_append] at ih
    rw [ih]
    simp
    omega

theorem skip_none {B : List UInt8} {c : UInt8} (h : B[0]? = some c) (h1 : isBlank c = false) (h2 : c ≠ 37) (h3 : ¬ (c = 47 ∧ B[1]? = some 42)) : skipTo B 0 = (0, true) := by
  rw [skipTo_eq h, h1, if_neg h2, if_neg h3]
  rfl

/-- What the scan of a name's text gives. -/
def backS (k : Int) (l : List UInt8) (n : Nat) : TokV × Nat × Int := if 64 < l.length then (zeroT, 0, 3) else (⟨k, ⟨l.toArray⟩, 0, 0, false⟩, n, 0)
theorem scan_one {B : List UInt8} {c : UInt8} {k : Int} {l : List UInt8} {n : Nat} (h : B[0]? = some c) (hs : skipTo B 0 = (0, true)) (ho : oneS B 0 c = nameS k l n) : scanS B 0 = backS k l n := by
  unfold scanS backS
  rw [hs]
  simp only [h, ho]
  unfold nameS
  by_cases hl : 64 < l.length
  · rw [if_pos hl, if_pos hl]
  · rw [if_neg hl, if_neg hl]
    rfl

theorem scan_quoted (l : List UInt8) : scanS ([39] ++ sgnW l ++ [39]) 0 = backS 2 l ([39] ++ sgnW l ++ [39]).length := by
  have h0 : ([39] ++ sgnW l ++ [39])[0]? = some 39 := by simp
  have hq := quo_all l [39] []
  rw [← List.append_assoc] at hq
  refine scan_one h0 (skip_none h0 (by decide) (by decide) (fun e => absurd e.1 (by decide))) ?_
  have he : endsS ([39] ++ sgnW l ++ [39]) 0 39 = false := rfl
  unfold oneS
  rw [he, if_neg (by decide), if_neg (by decide), if_neg (by decide), if_neg (by decide), if_neg (by decide), if_neg (by decide), if_neg (by decide), if_pos rfl]
  rw [show ([39] : List UInt8).length = 0 + 1 from rfl] at hq
  rw [hq]
  have e : 0 + 1 + (sgnW l).length + 1 = ([39] ++ sgnW l ++ [39]).length := by simp; omega
  rw [e]
  rfl

theorem takeWhile_all {p : UInt8 → Bool} : ∀ {l : List UInt8}, l.all p = true → l.takeWhile p = l
  | [], _ => rfl
  | c :: l, h => by
    rw [List.all_cons, Bool.and_eq_true] at h
    rw [List.takeWhile_cons, h.1, takeWhile_all h.2]
    rfl
theorem row_all {p : UInt8 → Bool} {l : List UInt8} (h : l.all p = true) : rowTo p l 0 = l.length := by
  unfold rowTo
  rw [List.drop_zero, takeWhile_all h]
  omega
theorem sub_all (l : List UInt8) : sub l 0 l.length = l := by simp [sub]

theorem scan_plain (l : List UInt8) (h : plainL l = true) (h1 : l ≠ [91, 93]) (h2 : l ≠ [123, 125]) : scanS l 0 = backS 1 l l.length := by
  by_cases h33 : l = [33]
  · subst h33; decide
  by_cases h59 : l = [59]
  · subst h59; decide
  unfold plainL at h
  rw [if_neg (by simp [h33, h59, h1, h2])] at h
  split at h
  · cases h
  · rename_i hn
    split at h
    · cases h
    · rename_i hp
      cases l with
      | nil => exact absurd (Or.inl rfl) hn
      | cons c r =>
        have h0 : (c :: r)[0]? = some c := rfl
        rw [Bool.or_eq_true] at h
        rcases h with h | h
        · rw [Bool.and_eq_true] at h
          obtain ⟨hs, hw⟩ := h
          have hs' : isSmall c = true := hs
          have hb : isBlank c = false ∧ c ≠ 37 ∧ c ≠ 47 ∧ c ≠ 46 := by
            have := all_bytes (p := fun c => (!isSmall c || (!isBlank c && c != 37 && c != 47 && c != 46)) = true) (by decide +kernel) c
            rw [hs'] at this
            simpa [and_assoc] using this
          refine scan_one h0 (skip_none h0 hb.1 hb.2.1 (fun e => hb.2.2.1 e.1)) ?_
          have he : endsS (c :: r) 0 c = false := by unfold endsS; simp [hb.2.2.2]
          unfold oneS
          rw [he, if_neg (by decide), if_pos hs', row_all hw, sub_all]
        · have hs' : isSign c = true := by
            rw [List.all_cons, Bool.and_eq_true] at h
            exact h.1
          have hb : isBlank c = false ∧ c ≠ 37 ∧ isSmall c = false := by
            have := all_bytes (p := fun c => (!isSign c || (!isBlank c && c != 37 && !isSmall c)) = true) (by decide +kernel) c
            rw [hs'] at this
            simpa [and_assoc] using this
          refine scan_one h0 (skip_none h0 hb.1 hb.2.1 ?_) ?_
          · rintro ⟨rfl, e⟩
            cases r with
            | nil => cases e
            | cons d r =>
              have e' : d = 42 := by simpa using e
              subst e'
              exact hp rfl
          have he : endsS (c :: r) 0 c = false := by
            unfold endsS
            by_cases h46 : c = 46
            · subst h46
              cases r with
              | nil => exact absurd (Or.inr rfl) hn
              | cons d r =>
                have hd : isSign d = true := by
                  simp only [List.all_cons, Bool.and_eq_true] at h
                  exact h.2.1
                have := all_bytes (p := fun c => (!isSign c || (!isBlank c && c != 37)) = true) (by decide +kernel) d
                rw [hd] at this
                simp at this
                simp [this]
            · simp [h46]
          unfold oneS
          rw [he, if_neg (by decide), hb.2.2, if_neg (by decide), if_pos hs', row_all h, sub_all]

/-- The scan of a name's text. -/
theorem scan_quo (l : List UInt8) (h1 : l ≠ [91, 93]) (h2 : l ≠ [123, 125]) : scanS (quoF l) 0 = backS (if plainL l then 1 else 2) l (quoF l).length := by
  unfold quoF
  by_cases h : plainL l = true
  · rw [if_pos h, if_pos h]
    exact scan_plain l h h1 h2
  · rw [if_neg h, if_neg h]
    exact scan_quoted l

end Go.El

/- Bytes in memory; strings out of bytes. -/
namespace Go.Proofs.YtkenjhchfidpbaaGreatDoor
open Go.RowKit Go.El

theorem ext_box (w : World) (o : Obj) : Ext w (w.alloc o) := (Ext.refl w).alloc o
def u8V (c : UInt8) : Value := .int .u8 (c.toNat : Int)
/-- A slice of bytes that reads as these. -/
def BytesAt (w : World) (A : Option Addr) (B : List UInt8) : Prop := El.Src w A B.length 1 (B.map u8V)
theorem BytesAt.ext {w w' : World} {A : Option Addr} {B : List UInt8} (h : BytesAt w A B) (x : Ext w w') : BytesAt w' A B := El.Src.ext h x
theorem bytes_at {w : World} {A : Option Addr} {B : List UInt8} (h : BytesAt w A B) {k : Nat} (hk : k < B.length) : ∃ b off, A = some ⟨b, off, none⟩ ∧ ∀ j c, B[j]? = some c → w.cell? ⟨b, off + j, none⟩ = some (.int .u8 (c.toNat : Int)) := by
  obtain ⟨b, off, rfl, hc⟩ := El.Src.form h (by omega) (by omega)
  exact ⟨b, off, rfl, fun j c hj => hc j _ (by simp [hj, u8V])⟩

theorem u8_eq {c : UInt8} {n : Nat} (hn : n < 256) : ((c.toNat : Int) == (n : Int)) = decide (c = UInt8.ofNat n) := by
  rw [Bool.eq_iff_iff, decide_eq_true_iff, beq_iff_eq]
  constructor
  · intro h
    have : c.toNat = n := by omega
    rw [← this]; simp
  · rintro rfl
    simp
    omega

theorem u8_ne {c : UInt8} {n : Nat} (hn : n < 256) (h : c ≠ UInt8.ofNat n) : ((c.toNat : Int) == (n : Int)) = false := by
  rw [u8_eq hn]
  simpa using h

theorem u8_ne' {c : UInt8} {n : Nat} {z : Int} (hz : (n : Int) = z) (hn : n < 256) (h : c ≠ UInt8.ofNat n) : ((c.toNat : Int) == z) = false := by rw [← hz]; exact u8_ne hn h
/-- The string of these bytes. -/
def strB (l : List UInt8) : ByteArray := ⟨l.toArray⟩
theorem strB_size (l : List UInt8) : (strB l).size = l.length := by simp [strB, ByteArray.size]
theorem strB_toList (l : List UInt8) : (strB l).data.toList = l := by simp [strB]
theorem strB_mk (s : ByteArray) : strB s.data.toList = s := by simp [strB]

theorem conv_str {w : World} {A : Option Addr} {l : List UInt8} (c : Nat) (h : BytesAt w A l) : (convert 360 9 (.slice A l.length c)).run Tryz.prog w = .ok (.string (strB l)) w := by
  rcases A with _ | a
  · have hl : l = [] := by
      rcases l with _ | ⟨x, l⟩
      · rfl
      · obtain ⟨b, off, ha, _⟩ := bytes_at (k := 0) h (by simp)
        cases ha
    subst hl
    exact run_convert_bytes_nil w 360 5 Tryz.underlying360 Tryz.underlying5 _ _ 9 Tryz.underlying9
  · refine run_convert_bytes_back w 360 9 5 a c l Tryz.underlying360 Tryz.underlying5 Tryz.underlying9 fun j hj => ?_
    obtain ⟨b, off, ha, hc⟩ := bytes_at (k := j) h hj
    injection ha with ha
    subst ha
    have e : (⟨b, off, none⟩ : Addr).add j = ⟨b, off + j, none⟩ := by simp [Addr.add]
    rw [e]
    exact hc j _ (List.getElem?_eq_getElem hj)

/-- Part of these bytes. -/
theorem bytes_sub {w : World} {b off : Nat} {l : List UInt8} (h : BytesAt w (some ⟨b, off, none⟩) l) (i j : Nat) (hij : i ≤ j) (hj : j ≤ l.length) : BytesAt w (some ⟨b, off + i, none⟩) (sub l i j) := by
  have h1 := El.Src.drop (n := i) h (by omega)
  have h2 := El.Src.take (n := j - i) h1 (by omega)
  have e1 : (⟨b, off, none⟩ : Addr).add (i * 1) = ⟨b, off + i, none⟩ := by simp [Addr.add]
  have e2 : (sub l i j).length = j - i := by unfold sub; simp; omega
  unfold BytesAt
  rw [e2]
  rw [e1] at h2
  have e3 : ((l.map u8V).drop (i * 1)).take ((j - i) * 1) = (sub l i j).map u8V := by unfold sub; simp [List.map_drop, List.map_take]
  rw [e3] at h2
  exact h2
theorem sub_length {l : List UInt8} {i j : Nat} (hj : j ≤ l.length) : (sub l i j).length = j - i := by unfold sub; simp; omega

/-- Bytes that a call has gathered in a slice of its own. -/
structure GathB (X wr : World) (v : Value) (F : List UInt8) : Prop where
  own : wr.ownsRow 0 5 1 v F.length (F.map u8V)
  far : ∀ b, v.ownBlock = some b → X.heap.size ≤ b
  ext : Ext X wr
theorem GathB.start (X : World) : GathB X X (.slice none 0 0) [] := ⟨World.ownsRow_nil _ _ _ _, fun b hb => by simp [Value.ownBlock] at hb, Ext.refl _⟩
theorem GathB.go {X wr w' : World} {v : Value} {F : List UInt8} (h : GathB X wr v F) (x : Ext wr w') : GathB X w' v F := ⟨own_ext h.own x, h.far, h.ext.trans x⟩
theorem ext_mods {X V w' : World} {S : List Nat} (h : Ext X V) (hm : Mods S V w') (hS : ∀ k, k ∈ S → X.heap.size ≤ k) : Ext X w' := (Mods.step (S := []) (Mods.ext h) hm (fun x hx => .inr (hS x hx))).toExt (by simp)
theorem mem_ownL {v : Value} {k : Nat} (h : k ∈ ownL v) : v.ownBlock = some k := by simpa [ownL] using h
theorem GathB.step {X wr V w' : World} {v v' : Value} {F : List UInt8} {G : List UInt8} (h : GathB X wr v F) (x : Ext wr V) (ho : w'.ownsRow 0 5 1 v' (F.length + G.length) (F.map u8V ++ G.map u8V)) (hm : Mods (ownL v) V w') (hb : v'.ownBlock = v.ownBlock ∨ v'.ownBlock = some V.heap.size) : GathB X w' v' (F ++ G) := by
  refine ⟨?_, fun b hb' => ?_, ext_mods (h.ext.trans x) hm (fun k hk => h.far k (mem_ownL hk))⟩
  · rw [List.map_append, List.length_append]
    exact ho
  · rcases hb with e | e
    · exact h.far b (e.symm.trans hb')
    · rw [e] at hb'
      injection hb' with hb'
      subst hb'
      exact Nat.le_trans h.ext.size x.size
theorem GathB.slice {X wr : World} {v : Value} {F : List UInt8} (h : GathB X wr v F) : ∃ A c, v = .slice A F.length c ∧ BytesAt wr A F := by
  obtain ⟨A, c, rfl⟩ := own_value h.own
  exact ⟨A, c, rfl, El.Src.of_own h.own⟩
theorem u8_one (l : List UInt8) : ∀ u ∈ l.map u8V, u.oneCell' = true := by
  intro u hu
  obtain ⟨c, _, rfl⟩ := List.mem_map.1 hu
  rfl
theorem u8Info : (Tryz.prog.info? 5).map (fun i => (i.zero, i.size, i.bytes)) = some (some (.int .u8 0), 1, 1) := by kernel_rfl
theorem infoP {P : Program} {t : TypeId} {z : Option Value} {n b : Nat} (h : (P.info? t).map (fun i => (i.zero, i.size, i.bytes)) = some (z, n, b)) : ∃ i, P.info? t = some i ∧ i.zero = z ∧ i.size = n ∧ i.bytes = b := by
  cases hi : P.info? t with
  | none => rw [hi] at h; cases h
  | some i =>
    rw [hi] at h
    injection h with h
    injection h with h1 h2
    injection h2 with h2 h3
    exact ⟨i, rfl, h1, h2, h3⟩

theorem ext_bytes (w : World) (e : TypeId) (s : ByteArray) : Ext w (Lib.bytesWorld w e s) := by
  refine ⟨rfl, rfl, rfl, by rw [Lib.bytesWorld_size]; omega, fun k hk => Lib.bytesWorld_at_old w e s k hk⟩

theorem bytes_new (w : World) (s : ByteArray) : BytesAt (Lib.bytesWorld w 5 s) (some ⟨w.heap.size, 0, none⟩) s.data.toList := by
  refine ⟨by simp, fun _ => ⟨_, rfl, fun j u hj => ?_⟩⟩
  have hjl : j < s.size := by
    have := (List.getElem?_eq_some_iff.1 hj).1
    simpa using this
  have e : (⟨w.heap.size, 0, none⟩ : Addr).add j = ⟨w.heap.size, j, none⟩ := by simp [Addr.add]; omega
  rw [e, Lib.bytesWorld_cell w _ s j hjl]
  have hj2 : j < s.data.toList.length := by simpa using hjl
  rw [List.getElem?_map, List.getElem?_eq_getElem hj2] at hj
  injection hj with hj
  rw [← hj]
  simp only [List.getD, List.getElem?_eq_getElem hj2, Option.getD_some, u8V]

theorem own_heap {w : World} {base : Nat} {e : TypeId} {k : Nat} {v : Value} {n : Nat} {xs : List Value} {g : Nat} {t : TypeId} {cs : Array Value} {m : Nat × Nat} (h : w.ownsRow base e k v n xs) (hg : w.heap[g]? = some (.cells cs t m)) (ht : t ≠ e ∨ m ≠ (0, 0)) : g ∉ ownL v := by
  intro hm
  have hb := mem_ownL hm
  rcases h.2 with ⟨rfl, _⟩ | ⟨g', cap, cur, rfl, _, hc, _⟩
  · simp [Value.ownBlock] at hb
  · have e1 : g' = g := by simpa [Value.ownBlock] using hb
    subst e1
    rw [hg] at hc
    injection hc with hc
    injection hc with h1 h2 h3
    rcases ht with ht | ht
    · exact ht h2
    · exact ht h3
theorem str_app (a b : List UInt8) : (strB a) ++ (strB b) = strB (a ++ b) := by
  have h : ((strB a) ++ (strB b)).data.toList = a ++ b := by
    rw [ByteArray.data_append, Array.toList_append, strB_toList, strB_toList]
  rw [← strB_mk ((strB a) ++ (strB b)), h]

end Go.Proofs.YtkenjhchfidpbaaGreatDoor
