/- Layer 11, the program: the walk of within. -/
import Derived.Test.YtnedihbffiddpaaGreatDoorW9
namespace Go.Proofs.YtnedihbffiddpaaGreatDoor
open Go.RowKit Go.El

set_option maxRecDepth 100000 in
set_option maxHeartbeats 2000000 in
theorem within_any {base : Nat} {w : World} {b : Nat} {v : Value} {F : List UInt8} {o : OpsV} {op : Value} (h : WrSt base w b v F o op) (br : Bool) (f : FuncId) (cap : Array Value) (X : List UInt8) (hl : F.length + X.length + 2 ≤ 900000000)
    (he : ∀ args w, (callFunc f args).run Tryz.prog w = .ok (.enter f args) w)
    (hc : ∀ w1 v1 F1, WrSt base w1 b v1 F1 o op → WStep b v w v1 w1 → F1.length ≤ F.length + 1 → Calls Tryz.prog f cap w1 fun e w' => e = .returned (.tuple #[]) ∧ WrPost base w1 b v1 F1 X o op w') :
    Calls Tryz.prog 74 #[.pointer (some ⟨b, 0, none⟩), .bool br, .func (.func f) #[] cap] w fun e w' => e = .returned (.tuple #[]) ∧ WrPost base w b v F (brk br X) o op w' := by
  have H := Lib.hid h
  have HC := fun w1 v1 F1 h1 h2 h3 => Lib.hid (hc w1 v1 F1 h1 h2 h3)
  clear h hc
  cases br
  · go_enter Tryz.func74, Tryz.ntmps74
    go_wp2_with (go_at_fn f; refine (HC w v F H.out (WStep.refl _ _ _) (by omega)).out.mono ?_; rintro e w' ⟨rfl, h2⟩; have H2 := Lib.hid h2; clear h2)
    go_end0
    exact ⟨rfl, H2.out⟩
  · go_enter Tryz.func74, Tryz.ntmps74
    go_upto_region 2 with (go_at_call 48; refine (wrByte H.out 40 (by omega)).mono ?_; rintro e w1 ⟨rfl, v1, h1, s1⟩; have H1 := Lib.hid h1; have S1 := Lib.hid s1; clear h1 s1)
    go_upto_region 3 with (go_at_fn f; refine (HC w1 v1 _ H1.out S1.out (by simp)).out.mono ?_; rintro e w2 ⟨rfl, v2, h2, s2⟩; have H2 := Lib.hid h2; have S2 := Lib.hid s2; clear h2 s2)
    go_wp2_with (go_at_call 48; refine (wrByte H2.out 41 (by simp; omega)).mono ?_; rintro e w3 ⟨rfl, v3, h3, s3⟩; have H3 := Lib.hid h3; have S3 := Lib.hid s3; clear h3 s3)
    go_end0
    refine ⟨rfl, v3, ?_, (S1.out.trans S2.out).trans S3.out⟩
    have := H3.out
    simpa [brk] using this

end Go.Proofs.YtnedihbffiddpaaGreatDoor
