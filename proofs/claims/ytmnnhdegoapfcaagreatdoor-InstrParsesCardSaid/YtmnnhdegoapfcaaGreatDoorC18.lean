/- Layer 8, the program: the walk of row. -/
import Derived.Test.YtmnnhdegoapfcaaGreatDoorC09
namespace Go.Proofs.YtmnnhdegoapfcaaGreatDoor
open Go.RowKit Go.El

theorem quiet_left {P : Program} {f : FuncId} {args : Array Value} {w : World} {n : Nat} {v : Value} (h : Calls P f args (w.drewN n) fun e w' => e = .returned v ∧ w.drewN n = w') : Calls P f args (w.drewN n) fun e w'' => e = .returned v ∧ ∃ m, w'' = w.drewN m :=
  h.mono fun _ _ ⟨he, hw⟩ => ⟨he, n, hw.symm⟩
theorem in8_any (c : UInt8) (s : ByteArray) (w : World) :
    Calls Tryz.prog 146 #[.int .u8 (c.toNat : Int), .string s] w fun e w' => e = .returned (.bool (hasB s c)) ∧ w = w' := by
  have := in_any (c.toNat : Int) s w
  simpa using this

/-- The place of a scanner, read off its block. -/
def placeOf (w : World) (sb : Nat) : Nat := (intOf ((w.cell? ⟨sb, 1, none⟩).getD undef)).toNat
theorem place_at {w : World} {sb b off cap : Nat} {B : List UInt8} {i : Nat} (h : ScAt w sb b off cap B i) : placeOf w sb = i := by
  unfold placeOf
  rw [h.c1]
  simp [intOf]

/-- The string of a part of a scanner's text. -/
theorem ScAt.conv {w : World} {sb b off cap : Nat} {B : List UInt8} {i : Nat} (h : ScAt w sb b off cap B i) (j k : Nat) (hjk : j ≤ k) (hk : k ≤ B.length) : (convert 61 9 (.slice (some ⟨b, off + j, none⟩) (k - j) (cap - j))).run Tryz.prog w = .ok (.string (strB (sub B j k))) w := by
  have h2 := conv_str (cap - j) (bytes_sub h.src j k hjk hk)
  rw [sub_length hk] at h2
  exact h2
theorem conv0 (w : World) (b off c : Nat) : (convert 61 9 (.slice (some ⟨b, off, none⟩) 0 c)).run Tryz.prog w = .ok (.string ⟨#[]⟩) w :=
  conv_str (l := []) c (El.Src.none w (some ⟨b, off, none⟩) 1)
theorem ScAt.frozen {w : World} {sb b off cap : Nat} {B : List UInt8} {i : Nat} (h : ScAt w sb b off cap B i) : w.frozen? ⟨sb, 1, none⟩ = false := h.blk.frozen 1
theorem ScAt.cells {w : World} {sb b off cap : Nat} {B : List UInt8} {i : Nat} (h : ScAt w sb b off cap B i) {j : Nat} {c : UInt8} (hj : B[j]? = some c) : w.cell? ⟨b, off + j, none⟩ = some (.int .u8 (c.toNat : Int)) := by
  obtain ⟨b', off', he, hc⟩ := bytes_at h.src (List.getElem?_eq_some_iff.1 hj).1
  injection he with he
  injection he with he1 he2
  subst he1 he2
  exact hc j c hj

theorem ScAt.to {w : World} {sb b off cap : Nat} {B : List UInt8} {i : Nat} (h : ScAt w sb b off cap B i) {j : Nat} {v : Int} (hj : j ≤ B.length) (hv : v = (j : Int)) : ScAt (w.setCell ⟨sb, 1, none⟩ (.int .i64 v)) sb b off cap B j := by
  subst hv
  exact h.move hj
/-- A scanner in a later world of a call: at a place; nothing else turned. -/
structure ScIn (w wr : World) (sb b off cap : Nat) (B : List UInt8) (k : Nat) : Prop where
  sc : ScAt wr sb b off cap B k
  mods : Mods [sb] w wr
theorem ScIn.go {w wr V : World} {sb b off cap : Nat} {B : List UInt8} {k : Nat} (h : ScIn w wr sb b off cap B k) (x : Ext wr V) : ScIn w V sb b off cap B k := ⟨h.sc.ext x, h.mods.trans (Mods.ext x)⟩
theorem ScIn.drewN {w wr : World} {sb b off cap : Nat} {B : List UInt8} {k : Nat} (h : ScIn w wr sb b off cap B k) (n : Nat) : ScIn w (wr.drewN n) sb b off cap B k := h.go ((Ext.refl wr).drewN n)
theorem ScIn.to {w wr : World} {sb b off cap : Nat} {B : List UInt8} {k : Nat} (h : ScIn w wr sb b off cap B k) {j : Nat} {v : Int} (hj : j ≤ B.length) (hv : v = (j : Int)) : ScIn w (wr.setCell ⟨sb, 1, none⟩ (.int .i64 v)) sb b off cap B j := ⟨h.sc.to hj hv, h.mods.setCell (.inl (by simp)) _⟩
theorem ScIn.then {w wr V : World} {sb b off cap : Nat} {B : List UInt8} {k j : Nat} (h : ScIn w wr sb b off cap B k) (g : ScIn wr V sb b off cap B j) : ScIn w V sb b off cap B j := ⟨g.sc, h.mods.trans g.mods⟩
theorem ScIn.start {w : World} {sb b off cap : Nat} {B : List UInt8} {k : Nat} (h : ScAt w sb b off cap B k) : ScIn w w sb b off cap B k := ⟨h, Mods.refl _ _⟩

set_option maxRecDepth 100000 in
set_option maxHeartbeats 4000000 in
theorem row_any (sb b off cap : Nat) (B : List UInt8) (i : Nat) (cs : ByteArray) (p : UInt8 → Bool) (hp : ∀ c, hasB cs c = p c) (w : World) (h : ScAt w sb b off cap B i) :
    Calls Tryz.prog 210 #[.pointer (some ⟨sb, 0, none⟩), .string cs] w fun e w' => e = .returned (.string (strB (sub B i (rowTo p B i)))) ∧ ScIn w w' sb b off cap B (rowTo p B i) := by
  have c0 := h.c0
  have c1 := h.c1
  have hat := h.at_
  have hcp := h.cap
  have hlen := h.len
  have H := Lib.hid h
  have HP := Lib.hid hp
  clear h hp
  go_enter Tryz.func210, Tryz.ntmps210
  go_wp2_with fail
  go_loopw [40] (fun _ wr => ∃ k : Nat, i ≤ k ∧ Hid (ScIn w wr sb b off cap B k) ∧ Hid (rowTo p B i = rowTo p B k)) (fun _ wr => B.length - placeOf wr sb)
  case atStart => exact ⟨i, Nat.le_refl _, ScIn.start H.out, rfl⟩
  case round =>
    obtain ⟨k, hik, HS, HR⟩ := hrel
    have d1 := HS.out.sc.c0
    have d2 := HS.out.sc.c1
    have hkl := HS.out.sc.at_
    by_cases hlt : k < B.length
    · have ho : B[k]? = some B[k] := List.getElem?_eq_getElem hlt
      generalize B[k] = c at ho
      have d0 := HS.out.sc.cells ho
      have hin := HP.out c
      have hci : ¬ cap = i := by omega
      cases hb : p c
      · have HN := Lib.hid (HR.out.trans (rowTo_no ho hb))
        rw [hb] at hin
        clear ho hb
        go_upto_region 2 with fail
        go_quiet ((go_at_call 146; exact quiet_left (in8_any _ _ _)))
        go_upto_region 4 with fail
        refine wp_abs (fun V => ScIn w V sb b off cap B k) (HS.out.drewN _) ?_
        clear d0 d1 d2 HS
        rintro V hV
        have d1 := hV.sc.c0
        have d2 := hV.sc.c1
        have hcv := fun n => (hV.drewN n).sc.conv i k hik hkl
        generalize hgs : strB (sub B i k) = z at hcv
        have HZ := Lib.hid hgs
        have HV := Lib.hid hV
        clear hgs hV
        go_quiet (fail)
        go_wp2_with fail
        go_ret
        exact ⟨by rw [HN.out, HZ.out]; rfl, by rw [HN.out]; exact HV.out.drewN _⟩
      · have HN := Lib.hid (HR.out.trans (rowTo_yes ho hb))
        rw [hb] at hin
        clear ho hb
        go_upto_region 2 with fail
        go_quiet ((go_at_call 146; exact quiet_left (in8_any _ _ _)))
        go_upto_region 3 with fail
        have hplace := place_at HS.out.sc
        refine wp_abs (fun V => ScIn w V sb b off cap B k) (HS.out.drewN _) ?_
        clear d0 d1 d2
        rintro V hV
        have d1 := hV.sc.c0
        have d2 := hV.sc.c1
        have f2 := hV.sc.frozen
        have HV := Lib.hid hV
        clear hV
        go_wp2_with fail
        go_roundw
        case rel => exact ⟨k + 1, by omega, HV.out.to hlt (by omega), HN.out⟩
        case measure =>
          have h2 := place_at (HV.out.to (j := k + 1) (v := (k : Int) + 1) hlt (by omega)).sc
          rw [h2, hplace]
          omega
    · obtain rfl : k = B.length := by omega
      have HN := Lib.hid (HR.out.trans (rowTo_end (List.getElem?_eq_none (Nat.le_refl _))))
      go_upto_region 2 with fail
      go_quiet (fail)
      go_upto_region 4 with fail
      refine wp_abs (fun V => ScIn w V sb b off cap B B.length) (HS.out.drewN _) ?_
      clear d1 d2 HS
      rintro V hV
      have d1 := hV.sc.c0
      have d2 := hV.sc.c1
      by_cases hci : cap = i
      · have hii : i = B.length := by omega
        have hcv := fun n => conv0 (V.drewN n) b off 0
        have HV := Lib.hid hV
        have hz : strB (sub B i B.length) = ⟨#[]⟩ := by rw [hii]; simp [sub, strB]
        have HZ := Lib.hid hz
        subst hii
        subst hci
        clear hV hz
        go_quiet (fail)
        go_wp2_with fail
        go_ret
        exact ⟨by rw [HN.out, HZ.out]; rfl, by rw [HN.out]; exact HV.out.drewN _⟩
      · have hcv := fun n => (hV.drewN n).sc.conv i B.length hik hkl
        generalize hgs : strB (sub B i B.length) = z at hcv
        have HZ := Lib.hid hgs
        have HV := Lib.hid hV
        clear hgs hV
        go_quiet (fail)
        go_wp2_with fail
        go_ret
        exact ⟨by rw [HN.out, HZ.out]; rfl, by rw [HN.out]; exact HV.out.drewN _⟩

end Go.Proofs.YtmnnhdegoapfcaaGreatDoor
