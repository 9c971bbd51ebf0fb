/- OperSides: what any operator lets stand beside it; names of types. -/
import Derived.Test.YtckkbghmiomfiaaDoorLives
namespace Go.Proofs.YtckkbghmiomfiaaDoor
open Go.RowKit Go.El Go.Proofs

/-- The type of a name, as it is searched: the last one of the first n. -/
def wantTo (s : ByteArray) : Nat → Int
  | 0 => 0
  | n + 1 => if tnameS ((n : Int) + 1) = s then (n : Int) + 1 else wantTo s n
theorem want_all (s : ByteArray) : wantTo s 5 = typeOfI s := by
  have e1 : tnameS (((0 : Nat) : Int) + 1) = ⟨#[120, 102, 120]⟩ := by decide +kernel
  have e2 : tnameS (((1 : Nat) : Int) + 1) = ⟨#[120, 102, 121]⟩ := by decide +kernel
  have e3 : tnameS (((2 : Nat) : Int) + 1) = ⟨#[121, 102, 120]⟩ := by decide +kernel
  have e4 : tnameS (((3 : Nat) : Int) + 1) = ⟨#[102, 121]⟩ := by decide +kernel
  have e5 : tnameS (((4 : Nat) : Int) + 1) = ⟨#[102, 120]⟩ := by decide +kernel
  unfold typeOfI
  simp only [wantTo, e1, e2, e3, e4, e5]
  by_cases h1 : s = ⟨#[120, 102, 120]⟩
  · subst h1; decide +kernel
  by_cases h2 : s = ⟨#[120, 102, 121]⟩
  · subst h2; decide +kernel
  by_cases h3 : s = ⟨#[121, 102, 120]⟩
  · subst h3; decide +kernel
  by_cases h4 : s = ⟨#[102, 121]⟩
  · subst h4; decide +kernel
  by_cases h5 : s = ⟨#[102, 120]⟩
  · subst h5; decide +kernel
  rw [if_neg (Ne.symm h5), if_neg (Ne.symm h4), if_neg (Ne.symm h3), if_neg (Ne.symm h2), if_neg (Ne.symm h1), if_neg h1, if_neg h2, if_neg h3, if_neg h4, if_neg h5]

theorem sides_keep {w w0 a b : World} {p t : Int} {s : ByteArray} (k : Ext a b) (h : (a.cell? ⟨w.heap.size, 0, none⟩ = some (.int .i64 p) ∧ a.cell? ⟨w.heap.size, 1, none⟩ = some (.int .i64 t) ∧ a.cell? ⟨w.heap.size, 2, none⟩ = some (.string s) ∧ Hid (Ext w0 a))) : (b.cell? ⟨w.heap.size, 0, none⟩ = some (.int .i64 p) ∧ b.cell? ⟨w.heap.size, 1, none⟩ = some (.int .i64 t) ∧ b.cell? ⟨w.heap.size, 2, none⟩ = some (.string s) ∧ Hid (Ext w0 b)) := by
  obtain ⟨h1, h2, h3, h4⟩ := h
  exact ⟨k.cell h1, k.cell h2, k.cell h3, Ext.trans (Hid.out h4) k⟩

abbrev SidesS (w w0 : World) (p t : Int) (s : ByteArray) (V : World) : Prop := (V.cell? ⟨w.heap.size, 0, none⟩ = some (.int .i64 p) ∧ V.cell? ⟨w.heap.size, 1, none⟩ = some (.int .i64 t) ∧ V.cell? ⟨w.heap.size, 2, none⟩ = some (.string s) ∧ Hid (Ext w0 V))
theorem SidesS.ext {w w0 V : World} {p t : Int} {s : ByteArray} (h : SidesS w w0 p t s V) : Ext w0 V := Hid.out h.2.2.2

set_option maxRecDepth 100000 in
set_option maxHeartbeats 4000000 in
theorem sides_any (p t : Int) (s nm : ByteArray) (w : World) (hT : TypesAt 0 w) (hs : nm.size ≤ 9223372036854775807) :
    Calls Tryd.prog 4 #[.agg #[.int .i64 p, .int .i64 t, .string s], .string nm] w fun e w' => e = .returned (.bool true) ∧ Ext w w' := by
  have HT := Lib.hid hT
  clear hT
  by_cases hlen : 1000 < nm.size
  · go_enter Tryd.func4, Tryd.ntmps4
    go_wp2_with (go_at_call 10; refine (lives_any _ (HT.out.ext (ext_box _ _))).mono ?_; rintro e W5 ⟨rfl, y⟩)
    go_ret
    exact ⟨rfl, (ext_box _ _).trans y⟩
  · go_enter Tryd.func4, Tryd.ntmps4
    go_upto_region 3 with fail
    refine wp_abs (fun W => Ext w W ∧ W.cell? ⟨w.heap.size, 0, none⟩ = some (.int .i64 p) ∧ W.cell? ⟨w.heap.size, 1, none⟩ = some (.int .i64 t) ∧ W.cell? ⟨w.heap.size, 2, none⟩ = some (.string s)) ⟨ext_box _ _, new_cell (Ext.refl _) 0, new_cell (Ext.refl _) 1, new_cell (Ext.refl _) 2⟩ ?_
    rintro W ⟨x, a0, a1, a2⟩
    go_wp2_with fail
    go_loopw [5, 6] (fun v i wr => ∃ n : Nat, n ≤ 5 ∧ i = .int .i64 ((n : Int) + 1) ∧ v = .int .i64 (wantTo nm n) ∧ Hid (Ext W wr)) (fun _ i _ => (6 - intOf i).toNat)
    case atStart => exact ⟨0, by omega, rfl, rfl, Ext.refl _⟩
    case round =>
      obtain ⟨n, hn, rfl, rfl, HX⟩ := hrel
      by_cases hlt : n < 5
      · by_cases he : tnameS ((n : Int) + 1) = nm
        · have e1 := isR_beq he
          have HE := Lib.hid he
          clear he
          go_wp2_with (go_at_call 17; refine (rTypeName_any _ _).mono ?_; rintro e w' ⟨rfl, y⟩)
          go_roundw
          case rel => exact ⟨n + 1, by omega, by go_num, by unfold wantTo; rw [if_pos HE.out], HX.out.trans y⟩
          case measure => simp [intOf]; omega
        · have e1 := isR_bne he
          have HE := Lib.hid he
          clear he
          go_wp2_with (go_at_call 17; refine (rTypeName_any _ _).mono ?_; rintro e w' ⟨rfl, y⟩)
          go_roundw
          case rel => exact ⟨n + 1, by omega, by go_num, by rw [wantTo, if_neg HE.out], HX.out.trans y⟩
          case measure => simp [intOf]; omega
      · obtain rfl : n = 5 := by omega
        have hq : (typeOfI nm == wantTo nm 5) = true := by rw [want_all]; simp
        go_wp2_with fail
        have hS0 := sides_keep (w := w) (HX.out.drew) ⟨a0, a1, a2, x⟩
        have hl := fun V (h : SidesS w w p t s V) => lives_any V (HT.out.ext h.ext)
        have hpl := fun V (h : SidesS w w p t s V) => pLeft_any p t s V (HT.out.ext h.ext)
        have hpr := fun V (h : SidesS w w p t s V) => pRight_any p t s V (HT.out.ext h.ext)
        have hpt := fun V (h : SidesS w w p t s V) => pTypeName_any t V (HT.out.ext h.ext)
        have hpo := fun V (h : SidesS w w p t s V) => typeOf_any nm V (HT.out.ext h.ext)
        have hrl := fun V => rLeft_any p t s V
        have hrr := fun V => rRight_any p t s V
        have hrt := fun V => rTypeName_any t V
        go_region_held3 (fun w' => w'.cell? ⟨w.heap.size, 0, none⟩ = some (.int .i64 p) ∧ w'.cell? ⟨w.heap.size, 1, none⟩ = some (.int .i64 t) ∧ w'.cell? ⟨w.heap.size, 2, none⟩ = some (.string s) ∧ Hid (Ext w w'))
          (first | assumption | (exact sides_keep (by assumption) (by assumption)) | (exact sides_keep (ext_box _ _) (by assumption)) | (exact sides_keep ((Ext.refl _).drew) (by assumption)))
          (first | (go_at_call 10; refine (hl _ (by assumption)).mono ?_; clear hl; rintro e w1 ⟨rfl, x1⟩) | (go_at_call 18; refine (hpl _ (by assumption)).mono ?_; clear hpl; rintro e w2 ⟨rfl, x2⟩) | (go_at_call 19; refine (hrl _).mono ?_; clear hrl; rintro e w3 ⟨rfl, x3⟩) | (go_at_call 20; refine (hpr _ (by assumption)).mono ?_; clear hpr; rintro e w4 ⟨rfl, x4⟩) | (go_at_call 21; refine (hrr _).mono ?_; clear hrr; rintro e w5 ⟨rfl, x5⟩) | (go_at_call 22; refine (hpt _ (by assumption)).mono ?_; clear hpt; rintro e w6 ⟨rfl, rfl⟩) | (go_at_call 17; refine (hrt _).mono ?_; clear hrt; rintro e w7 ⟨rfl, x7⟩) | (go_at_call 23; refine (hpo _ (by assumption)).mono ?_; clear hpo; rintro e w8 ⟨rfl, rfl⟩))
        go_wp2_with fail
        go_ret
        exact ⟨rfl, SidesS.ext (w := w) (p := p) (t := t) (s := s) (by assumption)⟩

end Go.Proofs.YtckkbghmiomfiaaDoor
