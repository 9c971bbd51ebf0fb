/- Layer 8, the program: the walk of ends. -/
import Derived.Test.YtgjdajkkncdhmaaDoorPT10
import Derived.Lib.QuietBelow
namespace Go.Proofs.YtgjdajkkncdhmaaDoor
open Go.RowKit Go.El Go.Sort

theorem blank37_has (c : UInt8) : hasB ⟨#[32, 9, 10, 13, 37]⟩ c = (isBlank c || c == 37) := all_bytes (p := fun c => hasB ⟨#[32, 9, 10, 13, 37]⟩ c = (isBlank c || c == 37)) (by decide +kernel) c
theorem in8_grown (c : UInt8) (s : ByteArray) (w : World) (d : Nat) (os : Array Obj) :
    Calls Tryd.prog 22 #[.int .u8 (c.toNat : Int), .string s] (grow (redrawn w d) os) fun e w'' => e = .returned (.bool (hasB s c)) ∧ ∃ p : Regrown, w'' = grow (redrawn w p.d) p.os :=
  Calls.regrown_of ((in8_any c s _).mono (by rintro e w' ⟨rfl, rfl⟩; exact ⟨rfl, Below.refl _ _⟩))
theorem starts_grown {w : World} {sb b off cap : Nat} {B : List UInt8} {i : Nat} (h : ScAt w sb b off cap B i) (l : List UInt8) (v : Bool) (hv : l.isPrefixOf (B.drop i) = v) (d : Nat) (os : Array Obj) :
    Calls Tryd.prog 36 #[.pointer (some ⟨sb, 0, none⟩), .string ⟨l.toArray⟩] (grow (redrawn w d) os) fun e w'' => e = .returned (.bool v) ∧ ∃ p : Regrown, w'' = grow (redrawn w p.d) p.os :=
  Calls.regrown_of (starts_is (h.ext (below_regrown w d os)) l v hv)

set_option maxRecDepth 100000 in
set_option maxHeartbeats 4000000 in
theorem ends_any (sb b off cap : Nat) (B : List UInt8) (i : Nat) (c : UInt8) (w : World) (h : ScAt w sb b off cap B i) (ho : B[i]? = some c) :
    Calls Tryd.prog 38 #[.pointer (some ⟨sb, 0, none⟩)] w fun e w' => e = .returned (.bool (endsS B i c)) ∧ Ext w w' := by
  have hlt : i < B.length := (List.getElem?_eq_some_iff.1 ho).1
  have hcp := h.cap
  have hlen := h.len
  have g0 := cell_regrown h.c0
  have g1 := cell_regrown h.c1
  have hpre := pre1 (B := B) (k := i) 46
  rw [ho] at hpre
  by_cases h46 : c = 46
  · subst h46
    rw [decide_eq_true rfl] at hpre
    have cS := starts_grown h [46] true hpre
    by_cases h1 : i + 1 < B.length
    · have hd : B[i + 1]? = some B[i + 1] := List.getElem?_eq_getElem h1
      generalize B[i + 1] = d at hd
      have g2 := cell_regrown (h.cells hd)
      have HN := Lib.hid (show endsS B i 46 = hasB ⟨#[32, 9, 10, 13, 37]⟩ d from by rw [blank37_has]; unfold endsS; rw [hd]; rfl)
      have hil : ((i : Int) + 1 == (B.length : Int)) = false := by simp; omega
      have hck : ¬ cap = i := by omega
      clear hd ho hpre h
      go_enter Tryd.func38, Tryd.ntmps38
      go_upto_region 1 with fail
      refine wp_region_quiet_below (by kernel_rfl) (by kernel_rfl) ?_
      repeat (go_big_quiet_step (first | exact cS _ _ | exact in8_grown _ _ _ _ _))
      refine wpQuiet_nil ?_
      intro _ hw'
      obtain ⟨⟨dq, osq⟩, hw''⟩ := hw'
      subst hw''
      go_wp2_with fail
      go_ret
      exact ⟨ret_bool HN.out.symm, below_regrown w dq osq⟩
    · have HN := Lib.hid (show endsS B i 46 = true from by unfold endsS; rw [List.getElem?_eq_none (l := B) (i := i + 1) (by omega)]; rfl)
      have hil : ((i : Int) + 1 == (B.length : Int)) = true := by simp; omega
      clear ho hpre h
      go_enter Tryd.func38, Tryd.ntmps38
      go_upto_region 1 with fail
      refine wp_region_quiet_below (by kernel_rfl) (by kernel_rfl) ?_
      repeat (go_big_quiet_step (first | exact cS _ _ | exact in8_grown _ _ _ _ _))
      refine wpQuiet_nil ?_
      intro _ hw'
      obtain ⟨⟨dq, osq⟩, hw''⟩ := hw'
      subst hw''
      go_wp2_with fail
      go_ret
      exact ⟨ret_bool HN.out.symm, below_regrown w dq osq⟩
  · have HN := Lib.hid (ends_no (B := B) (i := i) h46)
    rw [decide_eq_false (fun e => h46 (by injection e))] at hpre
    have cS := starts_grown h [46] false hpre
    clear ho hpre h
    go_enter Tryd.func38, Tryd.ntmps38
    go_upto_region 1 with fail
    refine wp_region_quiet_below (by kernel_rfl) (by kernel_rfl) ?_
    repeat (go_big_quiet_step (first | exact cS _ _ | exact in8_grown _ _ _ _ _))
    refine wpQuiet_nil ?_
    intro _ hw'
    obtain ⟨⟨dq, osq⟩, hw''⟩ := hw'
    subst hw''
    go_wp2_with fail
    go_ret
    exact ⟨ret_bool HN.out.symm, below_regrown w dq osq⟩

end Go.Proofs.YtgjdajkkncdhmaaDoor
