/- Layer 8, the program: the walk of escape. -/
import Derived.Test.YtgjdajkkncdhmaaDoorPT7
namespace Go.Proofs.YtgjdajkkncdhmaaDoor
open Go.RowKit Go.El

/-- What escape hands back. -/
def escPV : Option (UInt8 × Nat) → Value
  | none => .tuple #[.int .u8 0, .bool false]
  | some (x, _) => .tuple #[.int .u8 (x.toNat : Int), .bool true]
/-- Where escape leaves the scanner. -/
def EscAt (w w' : World) (sb b off cap : Nat) (B : List UInt8) : Option (UInt8 × Nat) → Prop
  | none => ∃ k, ScIn w w' sb b off cap B k
  | some (_, j) => ScIn w w' sb b off cap B j
theorem code_any (sb b off cap : Nat) (B : List UInt8) (j : Nat) (w : World) (h : ScAt w sb b off cap B j) :
    Calls Tryd.prog 67 #[.pointer (some ⟨sb, 0, none⟩)] w fun e w' => e = .returned (escPV (codeS B j)) ∧ EscAt w w' sb b off cap B (codeS B j) := by
  cases hn : codeS B j with
  | none => exact code_no sb b off cap B j w h hn
  | some p => exact code_yes sb b off cap B j w h p.1 p.2 hn

theorem EscAt.then {w V w' : World} {sb b off cap : Nat} {B : List UInt8} {k : Nat} {r : Option (UInt8 × Nat)} (h : ScIn w V sb b off cap B k) (g : EscAt V w' sb b off cap B r) : EscAt w w' sb b off cap B r := by
  cases r with
  | none => obtain ⟨j, hj⟩ := g; exact ⟨j, h.then hj⟩
  | some p => exact ScIn.then h g

set_option maxRecDepth 100000 in
set_option maxHeartbeats 4000000 in
theorem escape_any (sb b off cap : Nat) (B : List UInt8) (i : Nat) (w : World) (h : ScAt w sb b off cap B i) :
    Calls Tryd.prog 54 #[.pointer (some ⟨sb, 0, none⟩)] w fun e w' => e = .returned (escPV (escS B i)) ∧ EscAt w w' sb b off cap B (escS B i) := by
  have d1 := h.c0
  have d2 := h.c1
  have hat := h.at_
  have hcp := h.cap
  have hlen := h.len
  have HS := Lib.hid (ScIn.start h)
  clear h
  by_cases hlt : i < B.length
  · have ho : B[i]? = some B[i] := List.getElem?_eq_getElem hlt
    generalize B[i] = c at ho
    have d0 := HS.out.sc.cells ho
    have hck : ¬ cap = i := by omega
    have HO := Lib.hid ho
    go_enter Tryd.func54, Tryd.ntmps54
    go_upto_region 1 with fail
    go_quiet (fail)
    go_upto_region 3 with fail
    refine wp_abs (fun V => ScIn w V sb b off cap B i) (HS.out.drewN _) ?_
    clear d0 d1 d2 HS
    rintro V hV
    have d1 := hV.sc.c0
    have d2 := hV.sc.c1
    have d0 := hV.sc.cells ho
    have HS := Lib.hid hV
    clear hV
    go_quiet (fail)
    go_upto_region 4 with fail
    refine wp_abs (fun V => ScIn w V sb b off cap B i) (HS.out.drewN _) ?_
    clear d0 d1 d2 HS
    rintro U hU
    have d1 := hU.sc.c0
    have d2 := hU.sc.c1
    have f2 := hU.sc.frozen
    have HS := Lib.hid (hU.to (j := i + 1) (v := (i : Int) + 1) hlt (by omega))
    clear hU
    by_cases h110 : c = 110
    · have q1 : ((c.toNat : Int) == (110 : Int)) = true := by rw [h110]; rfl
      have HN := Lib.hid (show escS B i = some (10, i + 1) from by subst h110; exact escS_n HO.out)
      clear ho h110
      go_wp2_with fail
      go_ret2
      refine ⟨?_, ?_⟩
      · rw [HN.out]; rfl
      · rw [HN.out]; exact HS.out
    have q1 := u8_ne' (c := c) (n := 110) (z := 110) rfl (by omega) h110
    by_cases h116 : c = 116
    · have q2 : ((c.toNat : Int) == (116 : Int)) = true := by rw [h116]; rfl
      have HN := Lib.hid (show escS B i = some (9, i + 1) from by subst h116; exact escS_t HO.out)
      clear ho h116 h110
      go_wp2_with fail
      go_ret2
      refine ⟨?_, ?_⟩
      · rw [HN.out]; rfl
      · rw [HN.out]; exact HS.out
    have q2 := u8_ne' (c := c) (n := 116) (z := 116) rfl (by omega) h116
    by_cases h120 : c = 120
    · have q3 : ((c.toNat : Int) == (120 : Int)) = true := by rw [h120]; rfl
      have HN := Lib.hid (show escS B i = codeS B (i + 1) from by subst h120; exact escS_code HO.out)
      have HC := Lib.hid (code_any sb b off cap B (i + 1) _ HS.out.sc)
      cases hcd : codeS B (i + 1) with
      | none =>
        rw [hcd] at HN HC
        clear ho h110 h116 h120 hcd
        go_wp2_with (go_at_call 67; refine HC.out.mono ?_; simp only [escPV]; rintro e1 w3 ⟨rfl, ht⟩; have HT := Lib.hid (EscAt.then HS.out ht); clear ht)
        go_ret2
        exact ⟨by rw [HN.out]; rfl, by rw [HN.out]; exact HT.out⟩
      | some p =>
        obtain ⟨x, j⟩ := p
        rw [hcd] at HN HC
        clear ho h110 h116 h120 hcd
        go_wp2_with (go_at_call 67; refine HC.out.mono ?_; simp only [escPV]; rintro e1 w3 ⟨rfl, ht⟩; have HT := Lib.hid (EscAt.then HS.out ht); clear ht)
        go_ret2
        exact ⟨by rw [HN.out]; rfl, by rw [HN.out]; exact HT.out⟩
    have q3 := u8_ne' (c := c) (n := 120) (z := 120) rfl (by omega) h120
    by_cases h92 : c = 92
    · have q4 : ((c.toNat : Int) == (92 : Int)) = true := by rw [h92]; rfl
      have HN := Lib.hid (escS_self HO.out (.inl h92))
      clear ho h116 h110 h120 h92
      go_wp2_with fail
      go_ret2
      refine ⟨?_, ?_⟩
      · rw [HN.out]; rfl
      · rw [HN.out]; exact HS.out
    have q4 := u8_ne' (c := c) (n := 92) (z := 92) rfl (by omega) h92
    by_cases h39 : c = 39
    · have q5 : ((c.toNat : Int) == (39 : Int)) = true := by rw [h39]; rfl
      have HN := Lib.hid (escS_self HO.out (.inr h39))
      clear ho h116 h110 h120 h92 h39
      go_wp2_with fail
      go_ret2
      refine ⟨?_, ?_⟩
      · rw [HN.out]; rfl
      · rw [HN.out]; exact HS.out
    have q5 := u8_ne' (c := c) (n := 39) (z := 39) rfl (by omega) h39
    have HN := Lib.hid (escS_no HO.out h92 h39 h110 h116 h120)
    clear ho h116 h110 h120 h92 h39
    go_wp2_with fail
    go_ret2
    exact ⟨by rw [HN.out]; rfl, by rw [HN.out]; exact ⟨_, HS.out⟩⟩
  · have hi : i = B.length := by omega
    have HN := Lib.hid (escS_end (List.getElem?_eq_none (l := B) (i := i) (by omega)))
    subst hi
    go_enter Tryd.func54, Tryd.ntmps54
    go_upto_region 1 with fail
    go_quiet (fail)
    go_wp2_with fail
    go_ret2
    exact ⟨by rw [HN.out]; rfl, by rw [HN.out]; exact ⟨_, HS.out.drewN _⟩⟩

end Go.Proofs.YtgjdajkkncdhmaaDoor
