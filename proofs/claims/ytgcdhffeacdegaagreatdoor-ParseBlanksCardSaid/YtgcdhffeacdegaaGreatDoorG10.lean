/- Layer 8, the reference: the walk of one: great, digit. -/
import Derived.Test.YtgcdhffeacdegaaGreatDoorG08
namespace Go.Proofs.YtgcdhffeacdegaaGreatDoor
open Go.RowKit Go.El

set_option maxRecDepth 100000 in
set_option maxHeartbeats 4000000 in
theorem rOne_great (b off cap : Nat) (B : List UInt8) (i : Nat) (c : UInt8) (w : World) (h : OneAt b off cap B i c w) (hk : isGreat c = true) :
    Calls Tryz.prog 71 #[.slice (some ⟨b, off, none⟩) B.length cap, .int .i64 (i : Int)] w fun e w' => e = .returned (oneV i (oneS B i c)) ∧ Ext w w' := by
  have hlt := h.lt
  have hcap := h.cap
  have hB := h.len
  have d0 := h.cells i c h.at_
  have d1 : ∀ o, (w.alloc o).cell? ⟨b, off + i, none⟩ = some (.int .u8 (c.toNat : Int)) := fun o => (ext_box w o).cell d0
  have hci : ¬ cap = i := by omega
  obtain ⟨g1, g2, g3, g4, g5, g6, g7⟩ := great_not c hk
  have hsm : smallN c.toNat = false := by rw [← isSmall_nat]; exact g2
  have hsg : hasB signS c = false := g3
  have q46 := u8_ne' (c := c) (n := 46) (z := 46) rfl (by omega) (g1)
  have q33 := u8_ne' (c := c) (n := 33) (z := 33) rfl (by omega) (g4)
  have q59 := u8_ne' (c := c) (n := 59) (z := 59) rfl (by omega) (g5)
  have hdg : c.toNat < 48 ∨ (48 ≤ c.toNat ∧ 57 < c.toNat) := by
    have := isDigit_nat c
    rw [g6] at this
    have : ¬ (48 ≤ c.toNat ∧ c.toNat ≤ 57) := by simpa using this
    omega
  have hwd : wordN c.toNat = true := by rw [← isWord_nat]; exact g7
  clear g1 g2 g3 g4 g5 g6 g7
  have hle : rowTo isWord B i ≤ B.length := rowTo_le (by omega)
  have hge := rowTo_ge isWord B i
  have hsl := sub_length (l := B) (i := i) hle
  have hsz := strB_size (sub B i (rowTo isWord B i))
  rw [hsl] at hsz
  have HS := Lib.hid (oneS_great (B := B) (i := i) hk)
  have HR := fun x y => Lib.hid (h.row 1 isWord (by simp) x y)
  have hcv := fun y => h.conv _ hge hle (.cells #[.int .i64 0, .string ⟨#[]⟩, .int .i64 0, .int .i64 0, .bool false] 55) y
  have hce : rowTo isWord B i ≤ cap := by omega
  have hN1 : 64 < (sub B i (rowTo isWord B i)).length → oneS B i c = .error 3 := fun g => HS.out.trans (nameS_long g)
  have hN2 : ¬ 64 < (sub B i (rowTo isWord B i)).length → oneS B i c = .ok (3, sub B i (rowTo isWord B i), 0, rowTo isWord B i) := fun g => HS.out.trans (nameS_ok g)
  generalize rowTo isWord B i = e at *
  have HL := Lib.hid hsl
  generalize hgs : strB (sub B i e) = s at hsz hcv
  have HGS := Lib.hid hgs
  clear hgs hsl hk
  by_cases hlong : 64 < e - i
  · have HN := Lib.hid (hN1 (by rw [HL.out]; exact hlong))
    clear hN1 hN2 HL HS h
    rcases hdg with hd1 | ⟨hd1, hd2⟩
    all_goals
      go_enter Tryz.func71, Tryz.ntmps71
      go_wp2_with (first | (go_at_call 88; refine (rSmall_any _ _).mono ?_; rintro e w' ⟨rfl, rfl⟩) | (go_at_call 90; refine (rSign_any _ _).mono ?_; rintro e w' ⟨rfl, rfl⟩) | (go_at_call 89; refine (rWord_any _ _).mono ?_; rintro e w' ⟨rfl, rfl⟩) | (go_at_call 107; refine (HR _ _).out.mono ?_; rintro e w' ⟨rfl, rfl⟩))
      refine bodyPost_ret (v := oneV i (oneS B i c)) ?_ rfl ⟨rfl, ext_box2 _ _ _⟩
      rw [HN.out]
      simp [results, Tryz.results71, go_sem, oneV, tokV_eq, zeroT]
  · have HN := Lib.hid (hN2 (by rw [HL.out]; exact hlong))
    clear hN1 hN2 HL HS h
    rcases hdg with hd1 | ⟨hd1, hd2⟩
    all_goals
      go_enter Tryz.func71, Tryz.ntmps71
      go_wp2_with (first | (go_at_call 88; refine (rSmall_any _ _).mono ?_; rintro e w' ⟨rfl, rfl⟩) | (go_at_call 90; refine (rSign_any _ _).mono ?_; rintro e w' ⟨rfl, rfl⟩) | (go_at_call 89; refine (rWord_any _ _).mono ?_; rintro e w' ⟨rfl, rfl⟩) | (go_at_call 107; refine (HR _ _).out.mono ?_; rintro e w' ⟨rfl, rfl⟩))
      refine bodyPost_ret (v := oneV i (oneS B i c)) ?_ rfl ⟨rfl, ext_box2 _ _ _⟩
      rw [HN.out]
      simp [results, Tryz.results71, go_sem, oneV, tokV_eq, HGS.out]

set_option maxRecDepth 100000 in
set_option maxHeartbeats 4000000 in
theorem rOne_digit (b off cap : Nat) (B : List UInt8) (i : Nat) (c : UInt8) (w : World) (h : OneAt b off cap B i c w) (hk : isDigit c = true) :
    Calls Tryz.prog 71 #[.slice (some ⟨b, off, none⟩) B.length cap, .int .i64 (i : Int)] w fun e w' => e = .returned (oneV i (oneS B i c)) ∧ Ext w w' := by
  have hlt := h.lt
  have hcap := h.cap
  have hB := h.len
  have d0 := h.cells i c h.at_
  have d1 : ∀ o, (w.alloc o).cell? ⟨b, off + i, none⟩ = some (.int .u8 (c.toNat : Int)) := fun o => (ext_box w o).cell d0
  have hci : ¬ cap = i := by omega
  obtain ⟨g1, g2, g3, g4, g5, g7⟩ := digit_not c hk
  have hsm : smallN c.toNat = false := by rw [← isSmall_nat]; exact g2
  have hsg : hasB signS c = false := g3
  have q46 := u8_ne' (c := c) (n := 46) (z := 46) rfl (by omega) (g1)
  have q33 := u8_ne' (c := c) (n := 33) (z := 33) rfl (by omega) (g4)
  have q59 := u8_ne' (c := c) (n := 59) (z := 59) rfl (by omega) (g5)
  obtain ⟨hd1, hd2⟩ : 48 ≤ c.toNat ∧ c.toNat ≤ 57 := by
    have := isDigit_nat c
    rw [hk] at this
    simpa using this
  clear g1 g2 g3 g4 g5 g7
  have hle : rowTo isDigit B i ≤ B.length := rowTo_le (by omega)
  have hge := rowTo_ge isDigit B i
  have hsl := sub_length (l := B) (i := i) hle
  have HS := Lib.hid (oneS_digit (B := B) (i := i) hk)
  have HR := fun x y => Lib.hid (h.row 3 isDigit (by simp) x y)
  have hce : rowTo isDigit B i ≤ cap := by omega
  have HNM : ∀ x y, Calls Tryz.prog 108 #[.slice (some ⟨b, off + i, none⟩) (rowTo isDigit B i - i) (cap - i)] ((w.alloc x).alloc y) fun e w' => e = .returned (.int .i64 (numI (sub B i (rowTo isDigit B i)))) ∧ ((w.alloc x).alloc y) = w' := fun x y => by
    have h1 := rNumber_any _ (cap - i) _ _ ((bytes_sub h.src i _ hge hle).ext (ext_box2 w x y)) (by omega) (sub_row_all isDigit B i)
    rw [hsl] at h1
    exact h1
  by_cases hbig : numV (sub B i (rowTo isDigit B i)) ≤ 9007199254740991
  · have HN := Lib.hid (HS.out.trans (if_pos hbig))
    have hn := numI_ok hbig
    rw [hn] at HNM
    generalize numV (sub B i (rowTo isDigit B i)) = n at *
    generalize rowTo isDigit B i = e at *
    have HM := Lib.hid HNM
    clear HNM hsl HS h hk hbig hn
    go_enter Tryz.func71, Tryz.ntmps71
    go_wp2_with (first | (go_at_call 88; refine (rSmall_any _ _).mono ?_; rintro e w' ⟨rfl, rfl⟩) | (go_at_call 90; refine (rSign_any _ _).mono ?_; rintro e w' ⟨rfl, rfl⟩) | (go_at_call 89; refine (rWord_any _ _).mono ?_; rintro e w' ⟨rfl, rfl⟩) | (go_at_call 107; refine (HR _ _).out.mono ?_; rintro e w' ⟨rfl, rfl⟩) | (go_at_call 108; refine (HM.out _ _).mono ?_; rintro e w' ⟨rfl, rfl⟩))
    refine bodyPost_ret (v := oneV i (oneS B i c)) ?_ rfl ⟨rfl, ext_box2 _ _ _⟩
    rw [HN.out]
    simp [results, Tryz.results71, go_sem, oneV, tokV_eq, strB]
  · have HN := Lib.hid (HS.out.trans (if_neg hbig))
    have hn : numI (sub B i (rowTo isDigit B i)) = -1 := if_neg hbig
    rw [hn] at HNM
    generalize rowTo isDigit B i = e at *
    have HM := Lib.hid HNM
    clear HNM hsl HS h hk hbig hn
    go_enter Tryz.func71, Tryz.ntmps71
    go_wp2_with (first | (go_at_call 88; refine (rSmall_any _ _).mono ?_; rintro e w' ⟨rfl, rfl⟩) | (go_at_call 90; refine (rSign_any _ _).mono ?_; rintro e w' ⟨rfl, rfl⟩) | (go_at_call 89; refine (rWord_any _ _).mono ?_; rintro e w' ⟨rfl, rfl⟩) | (go_at_call 107; refine (HR _ _).out.mono ?_; rintro e w' ⟨rfl, rfl⟩) | (go_at_call 108; refine (HM.out _ _).mono ?_; rintro e w' ⟨rfl, rfl⟩))
    refine bodyPost_ret (v := oneV i (oneS B i c)) ?_ rfl ⟨rfl, ext_box2 _ _ _⟩
    rw [HN.out]
    simp [results, Tryz.results71, go_sem, oneV, tokV_eq, zeroT]

end Go.Proofs.YtgcdhffeacdegaaGreatDoor

/- Layer 8, the reference: the walk of one: other. -/
namespace Go.Proofs.YtgcdhffeacdegaaGreatDoor
open Go.RowKit Go.El

set_option maxRecDepth 100000 in
set_option maxHeartbeats 4000000 in
theorem rOne_other (b off cap : Nat) (B : List UInt8) (i : Nat) (c : UInt8) (w : World) (h : OneAt b off cap B i c w) (hk : isOther c = true) :
    Calls Tryz.prog 71 #[.slice (some ⟨b, off, none⟩) B.length cap, .int .i64 (i : Int)] w fun e w' => e = .returned (oneV i (oneS B i c)) ∧ Ext w w' := by
  have hlt := h.lt
  have hcap := h.cap
  have hB := h.len
  have d0 := h.cells i c h.at_
  have d1 : ∀ o, (w.alloc o).cell? ⟨b, off + i, none⟩ = some (.int .u8 (c.toNat : Int)) := fun o => (ext_box w o).cell d0
  have hci : ¬ cap = i := by omega
  obtain ⟨g1, g2, g3, g4, g5, g6, g7, g8, g9⟩ := other_not c hk
  have hsm : smallN c.toNat = false := by rw [← isSmall_nat]; exact g2
  have hsg : hasB signS c = false := g3
  have q46 := u8_ne' (c := c) (n := 46) (z := 46) rfl (by omega) (g1)
  have q33 := u8_ne' (c := c) (n := 33) (z := 33) rfl (by omega) (g4)
  have q59 := u8_ne' (c := c) (n := 59) (z := 59) rfl (by omega) (g5)
  have hdg : c.toNat < 48 ∨ (48 ≤ c.toNat ∧ 57 < c.toNat) := by
    have := isDigit_nat c
    rw [g6] at this
    have : ¬ (48 ≤ c.toNat ∧ c.toNat ≤ 57) := by simpa using this
    omega
  have hwd : wordN c.toNat = false := by rw [← isWord_nat]; exact g7
  have hpu : c ≠ 40 ∧ c ≠ 41 ∧ c ≠ 91 ∧ c ≠ 93 ∧ c ≠ 123 ∧ c ≠ 125 ∧ c ≠ 44 ∧ c ≠ 124 := by
    simpa [isPunct, and_assoc] using g8
  obtain ⟨p40, p41, p91, p93, p123, p125, p44, p124⟩ := hpu
  have q40 := u8_ne' (c := c) (n := 40) (z := 40) rfl (by omega) (p40)
  have q41 := u8_ne' (c := c) (n := 41) (z := 41) rfl (by omega) (p41)
  have q91 := u8_ne' (c := c) (n := 91) (z := 91) rfl (by omega) (p91)
  have q93 := u8_ne' (c := c) (n := 93) (z := 93) rfl (by omega) (p93)
  have q123 := u8_ne' (c := c) (n := 123) (z := 123) rfl (by omega) (p123)
  have q125 := u8_ne' (c := c) (n := 125) (z := 125) rfl (by omega) (p125)
  have q44 := u8_ne' (c := c) (n := 44) (z := 44) rfl (by omega) (p44)
  have q124 := u8_ne' (c := c) (n := 124) (z := 124) rfl (by omega) (p124)
  have q39 := u8_ne' (c := c) (n := 39) (z := 39) rfl (by omega) (g9)
  have HN := Lib.hid (oneS_other (B := B) (i := i) hk)
  clear g1 g2 g3 g4 g5 g6 g7 g8 g9 p40 p41 p91 p93 p123 p125 p44 p124 hk h
  rcases hdg with hd1 | ⟨hd1, hd2⟩
  all_goals
    go_enter Tryz.func71, Tryz.ntmps71
    go_wp2_with (first | (go_at_call 88; refine (rSmall_any _ _).mono ?_; rintro e w' ⟨rfl, rfl⟩) | (go_at_call 90; refine (rSign_any _ _).mono ?_; rintro e w' ⟨rfl, rfl⟩) | (go_at_call 89; refine (rWord_any _ _).mono ?_; rintro e w' ⟨rfl, rfl⟩))
    refine bodyPost_ret (v := oneV i (oneS B i c)) ?_ rfl ⟨rfl, ext_box2 _ _ _⟩
    rw [HN.out]
    simp [results, Tryz.results71, go_sem, oneV, tokV_eq, zeroT]

end Go.Proofs.YtgcdhffeacdegaaGreatDoor

/- Layer 8, the reference: the walk of one: s33, s59, end0, end1, end2, dot. -/
namespace Go.Proofs.YtgcdhffeacdegaaGreatDoor
open Go.RowKit Go.El

set_option maxRecDepth 100000 in
set_option maxHeartbeats 4000000 in
theorem rOne_s33 (b off cap : Nat) (B : List UInt8) (i : Nat) (c : UInt8) (w : World) (h : OneAt b off cap B i c w) (hk : c = 33) :
    Calls Tryz.prog 71 #[.slice (some ⟨b, off, none⟩) B.length cap, .int .i64 (i : Int)] w fun e w' => e = .returned (oneV i (oneS B i c)) ∧ Ext w w' := by
  have hlt := h.lt
  have hcap := h.cap
  have hB := h.len
  have d0 := h.cells i c h.at_
  have d1 : ∀ o, (w.alloc o).cell? ⟨b, off + i, none⟩ = some (.int .u8 (c.toNat : Int)) := fun o => (ext_box w o).cell d0
  have hci : ¬ cap = i := by omega
  have hsm : smallN c.toNat = false := by rw [hk]; rfl
  have hsg : hasB signS c = false := by rw [hk]; rfl
  have q46 : ((c.toNat : Int) == (46 : Int)) = false := by rw [hk]; rfl
  have q33 : ((c.toNat : Int) == (33 : Int)) = true := by rw [hk]; rfl
  have hcv := fun y => h.conv (i + 1) (by omega) (by omega) (.cells #[.int .i64 0, .string ⟨#[]⟩, .int .i64 0, .int .i64 0, .bool false] 55) y
  rw [sub_one h.at_] at hcv
  have hsz : (strB [c]).size = 1 := strB_size [c]
  have hii : i + 1 - i = 1 := by omega
  rw [hii] at hcv
  have hce : i + 1 ≤ cap := by omega
  have HN := Lib.hid ((show oneS B i c = nameS 1 [c] (i + 1) from oneS_solo (by rw [hk]; decide)).trans (nameS_ok (by simp)))
  generalize hgs : strB [c] = s at hsz hcv
  have HGS := Lib.hid hgs
  clear hgs hk h
  go_enter Tryz.func71, Tryz.ntmps71
  go_wp2_with (first | (go_at_call 88; refine (rSmall_any _ _).mono ?_; rintro e w' ⟨rfl, rfl⟩) | (go_at_call 90; refine (rSign_any _ _).mono ?_; rintro e w' ⟨rfl, rfl⟩) | (go_at_call 89; refine (rWord_any _ _).mono ?_; rintro e w' ⟨rfl, rfl⟩))
  refine bodyPost_ret (v := oneV i (oneS B i c)) ?_ rfl ⟨rfl, ext_box2 _ _ _⟩
  rw [HN.out]
  simp [results, Tryz.results71, go_sem, oneV, tokV_eq, HGS.out]

set_option maxRecDepth 100000 in
set_option maxHeartbeats 4000000 in
theorem rOne_s59 (b off cap : Nat) (B : List UInt8) (i : Nat) (c : UInt8) (w : World) (h : OneAt b off cap B i c w) (hk : c = 59) :
    Calls Tryz.prog 71 #[.slice (some ⟨b, off, none⟩) B.length cap, .int .i64 (i : Int)] w fun e w' => e = .returned (oneV i (oneS B i c)) ∧ Ext w w' := by
  have hlt := h.lt
  have hcap := h.cap
  have hB := h.len
  have d0 := h.cells i c h.at_
  have d1 : ∀ o, (w.alloc o).cell? ⟨b, off + i, none⟩ = some (.int .u8 (c.toNat : Int)) := fun o => (ext_box w o).cell d0
  have hci : ¬ cap = i := by omega
  have hsm : smallN c.toNat = false := by rw [hk]; rfl
  have hsg : hasB signS c = false := by rw [hk]; rfl
  have q46 : ((c.toNat : Int) == (46 : Int)) = false := by rw [hk]; rfl
  have q33 : ((c.toNat : Int) == (33 : Int)) = false := by rw [hk]; rfl
  have q59 : ((c.toNat : Int) == (59 : Int)) = true := by rw [hk]; rfl
  have hcv := fun y => h.conv (i + 1) (by omega) (by omega) (.cells #[.int .i64 0, .string ⟨#[]⟩, .int .i64 0, .int .i64 0, .bool false] 55) y
  rw [sub_one h.at_] at hcv
  have hsz : (strB [c]).size = 1 := strB_size [c]
  have hii : i + 1 - i = 1 := by omega
  rw [hii] at hcv
  have hce : i + 1 ≤ cap := by omega
  have HN := Lib.hid ((show oneS B i c = nameS 1 [c] (i + 1) from oneS_solo (by rw [hk]; decide)).trans (nameS_ok (by simp)))
  generalize hgs : strB [c] = s at hsz hcv
  have HGS := Lib.hid hgs
  clear hgs hk h
  go_enter Tryz.func71, Tryz.ntmps71
  go_wp2_with (first | (go_at_call 88; refine (rSmall_any _ _).mono ?_; rintro e w' ⟨rfl, rfl⟩) | (go_at_call 90; refine (rSign_any _ _).mono ?_; rintro e w' ⟨rfl, rfl⟩) | (go_at_call 89; refine (rWord_any _ _).mono ?_; rintro e w' ⟨rfl, rfl⟩))
  refine bodyPost_ret (v := oneV i (oneS B i c)) ?_ rfl ⟨rfl, ext_box2 _ _ _⟩
  rw [HN.out]
  simp [results, Tryz.results71, go_sem, oneV, tokV_eq, HGS.out]

set_option maxRecDepth 100000 in
set_option maxHeartbeats 4000000 in
theorem rOne_end0 (b off cap : Nat) (B : List UInt8) (i : Nat) (c : UInt8) (w : World) (h : OneAt b off cap B i c w) (hk : c = 46 ∧ B.length ≤ i + 1) :
    Calls Tryz.prog 71 #[.slice (some ⟨b, off, none⟩) B.length cap, .int .i64 (i : Int)] w fun e w' => e = .returned (oneV i (oneS B i c)) ∧ Ext w w' := by
  have hlt := h.lt
  have hcap := h.cap
  have hB := h.len
  have d0 := h.cells i c h.at_
  have d1 : ∀ o, (w.alloc o).cell? ⟨b, off + i, none⟩ = some (.int .u8 (c.toNat : Int)) := fun o => (ext_box w o).cell d0
  have hci : ¬ cap = i := by omega
  have q46 : ((c.toNat : Int) == (46 : Int)) = true := by rw [hk.1]; rfl
  have hil2 : ((i : Int) + 1 == (B.length : Int)) = true := by simp; omega
  have hcv := fun y => h.conv (i + 1) (by omega) (by omega) (.cells #[.int .i64 0, .string ⟨#[]⟩, .int .i64 0, .int .i64 0, .bool false] 55) y
  rw [sub_one h.at_] at hcv
  have hsz : (strB [c]).size = 1 := strB_size [c]
  have hii : i + 1 - i = 1 := by omega
  rw [hii] at hcv
  have hce : i + 1 ≤ cap := by omega
  have HN := Lib.hid ((show oneS B i c = nameS 6 [c] (i + 1) from oneS_end (by unfold endsS; rw [hk.1, List.getElem?_eq_none hk.2]; rfl)).trans (nameS_ok (by simp)))
  generalize hgs : strB [c] = s at hsz hcv
  have HGS := Lib.hid hgs
  clear hgs hk h
  go_enter Tryz.func71, Tryz.ntmps71
  go_wp2_with (first | (go_at_call 88; refine (rSmall_any _ _).mono ?_; rintro e w' ⟨rfl, rfl⟩) | (go_at_call 90; refine (rSign_any _ _).mono ?_; rintro e w' ⟨rfl, rfl⟩) | (go_at_call 89; refine (rWord_any _ _).mono ?_; rintro e w' ⟨rfl, rfl⟩))
  refine bodyPost_ret (v := oneV i (oneS B i c)) ?_ rfl ⟨rfl, ext_box2 _ _ _⟩
  rw [HN.out]
  simp [results, Tryz.results71, go_sem, oneV, tokV_eq, HGS.out]

set_option maxRecDepth 100000 in
set_option maxHeartbeats 4000000 in
theorem rOne_end1 (b off cap : Nat) (B : List UInt8) (i : Nat) (c : UInt8) (w : World) (h : OneAt b off cap B i c w) (hk : c = 46 ∧ ∃ d, B[i + 1]? = some d ∧ isBlank d = true) :
    Calls Tryz.prog 71 #[.slice (some ⟨b, off, none⟩) B.length cap, .int .i64 (i : Int)] w fun e w' => e = .returned (oneV i (oneS B i c)) ∧ Ext w w' := by
  have hlt := h.lt
  have hcap := h.cap
  have hB := h.len
  have d0 := h.cells i c h.at_
  have d1 : ∀ o, (w.alloc o).cell? ⟨b, off + i, none⟩ = some (.int .u8 (c.toNat : Int)) := fun o => (ext_box w o).cell d0
  have hci : ¬ cap = i := by omega
  obtain ⟨hk, d, hd, hdk⟩ := hk
  have hd1 : i + 1 < B.length := (List.getElem?_eq_some_iff.1 hd).1
  have hil2 : ((i : Int) + 1 == (B.length : Int)) = false := by simp; omega
  have e1 : off + (i + 1) = off + i + 1 := by omega
  have d2 : ∀ o p, ((w.alloc o).alloc p).cell? ⟨b, off + (i + 1), none⟩ = some (.int .u8 (d.toNat : Int)) := fun o p => (ext_box2 w o p).cell (h.cells _ d hd)
  clear e1
  have q46 : ((c.toNat : Int) == (46 : Int)) = true := by rw [hk]; rfl
  have hcv := fun y => h.conv (i + 1) (by omega) (by omega) (.cells #[.int .i64 0, .string ⟨#[]⟩, .int .i64 0, .int .i64 0, .bool false] 55) y
  rw [sub_one h.at_] at hcv
  have hsz : (strB [c]).size = 1 := strB_size [c]
  have hii : i + 1 - i = 1 := by omega
  rw [hii] at hcv
  have hce : i + 1 ≤ cap := by omega
  have HN := Lib.hid ((show oneS B i c = nameS 6 [c] (i + 1) from oneS_end (by unfold endsS; rw [hk, hd]; simp [hdk])).trans (nameS_ok (by simp)))
  generalize hgs : strB [c] = s at hsz hcv
  have HGS := Lib.hid hgs
  clear hgs hk h hd
  go_enter Tryz.func71, Tryz.ntmps71
  go_wp2_with (first | (go_at_call 88; refine (rSmall_any _ _).mono ?_; rintro e w' ⟨rfl, rfl⟩) | (go_at_call 90; refine (rSign_any _ _).mono ?_; rintro e w' ⟨rfl, rfl⟩) | (go_at_call 89; refine (rWord_any _ _).mono ?_; rintro e w' ⟨rfl, rfl⟩) | (go_at_call 106; refine (rBlank_any d _).mono ?_; rintro e w' ⟨rfl, rfl⟩))
  refine bodyPost_ret (v := oneV i (oneS B i c)) ?_ rfl ⟨rfl, ext_box2 _ _ _⟩
  rw [HN.out]
  simp [results, Tryz.results71, go_sem, oneV, tokV_eq, HGS.out]

set_option maxRecDepth 100000 in
set_option maxHeartbeats 4000000 in
theorem rOne_end2 (b off cap : Nat) (B : List UInt8) (i : Nat) (c : UInt8) (w : World) (h : OneAt b off cap B i c w) (hk : c = 46 ∧ ∃ d, B[i + 1]? = some d ∧ isBlank d = false ∧ d = 37) :
    Calls Tryz.prog 71 #[.slice (some ⟨b, off, none⟩) B.length cap, .int .i64 (i : Int)] w fun e w' => e = .returned (oneV i (oneS B i c)) ∧ Ext w w' := by
  have hlt := h.lt
  have hcap := h.cap
  have hB := h.len
  have d0 := h.cells i c h.at_
  have d1 : ∀ o, (w.alloc o).cell? ⟨b, off + i, none⟩ = some (.int .u8 (c.toNat : Int)) := fun o => (ext_box w o).cell d0
  have hci : ¬ cap = i := by omega
  obtain ⟨hk, d, hd, hdk⟩ := hk
  have hd1 : i + 1 < B.length := (List.getElem?_eq_some_iff.1 hd).1
  have hil2 : ((i : Int) + 1 == (B.length : Int)) = false := by simp; omega
  have e1 : off + (i + 1) = off + i + 1 := by omega
  have d2 : ∀ o p, ((w.alloc o).alloc p).cell? ⟨b, off + (i + 1), none⟩ = some (.int .u8 (d.toNat : Int)) := fun o p => (ext_box2 w o p).cell (h.cells _ d hd)
  clear e1
  have q46 : ((c.toNat : Int) == (46 : Int)) = true := by rw [hk]; rfl
  have q37 : ((d.toNat : Int) == (37 : Int)) = true := by rw [hdk.2]; rfl
  have hdb := hdk.1
  have hcv := fun y => h.conv (i + 1) (by omega) (by omega) (.cells #[.int .i64 0, .string ⟨#[]⟩, .int .i64 0, .int .i64 0, .bool false] 55) y
  rw [sub_one h.at_] at hcv
  have hsz : (strB [c]).size = 1 := strB_size [c]
  have hii : i + 1 - i = 1 := by omega
  rw [hii] at hcv
  have hce : i + 1 ≤ cap := by omega
  have HN := Lib.hid ((show oneS B i c = nameS 6 [c] (i + 1) from oneS_end (by unfold endsS; rw [hk, hd]; simp [hdk])).trans (nameS_ok (by simp)))
  generalize hgs : strB [c] = s at hsz hcv
  have HGS := Lib.hid hgs
  clear hgs hk h hdk hd
  go_enter Tryz.func71, Tryz.ntmps71
  go_wp2_with (first | (go_at_call 88; refine (rSmall_any _ _).mono ?_; rintro e w' ⟨rfl, rfl⟩) | (go_at_call 90; refine (rSign_any _ _).mono ?_; rintro e w' ⟨rfl, rfl⟩) | (go_at_call 89; refine (rWord_any _ _).mono ?_; rintro e w' ⟨rfl, rfl⟩) | (go_at_call 106; refine (rBlank_any d _).mono ?_; rintro e w' ⟨rfl, rfl⟩))
  refine bodyPost_ret (v := oneV i (oneS B i c)) ?_ rfl ⟨rfl, ext_box2 _ _ _⟩
  rw [HN.out]
  simp [results, Tryz.results71, go_sem, oneV, tokV_eq, HGS.out]

set_option maxRecDepth 100000 in
set_option maxHeartbeats 4000000 in
theorem rOne_dot (b off cap : Nat) (B : List UInt8) (i : Nat) (c : UInt8) (w : World) (h : OneAt b off cap B i c w) (hk : c = 46 ∧ ∃ d, B[i + 1]? = some d ∧ isBlank d = false ∧ d ≠ 37) :
    Calls Tryz.prog 71 #[.slice (some ⟨b, off, none⟩) B.length cap, .int .i64 (i : Int)] w fun e w' => e = .returned (oneV i (oneS B i c)) ∧ Ext w w' := by
  have hlt := h.lt
  have hcap := h.cap
  have hB := h.len
  have d0 := h.cells i c h.at_
  have d1 : ∀ o, (w.alloc o).cell? ⟨b, off + i, none⟩ = some (.int .u8 (c.toNat : Int)) := fun o => (ext_box w o).cell d0
  have hci : ¬ cap = i := by omega
  obtain ⟨hk, d, hd, hdk⟩ := hk
  have hd1 : i + 1 < B.length := (List.getElem?_eq_some_iff.1 hd).1
  have hil2 : ((i : Int) + 1 == (B.length : Int)) = false := by simp; omega
  have e1 : off + (i + 1) = off + i + 1 := by omega
  have d2 : ∀ o p, ((w.alloc o).alloc p).cell? ⟨b, off + (i + 1), none⟩ = some (.int .u8 (d.toNat : Int)) := fun o p => (ext_box2 w o p).cell (h.cells _ d hd)
  clear e1
  have hsm : smallN c.toNat = false := by rw [hk]; rfl
  have hsg : hasB signS c = true := by rw [hk]; rfl
  have q46 : ((c.toNat : Int) == (46 : Int)) = true := by rw [hk]; rfl
  have q37 := u8_ne' (c := d) (n := 37) (z := 37) rfl (by omega) hdk.2
  have hdb := hdk.1
  have hle : rowTo isSign B i ≤ B.length := rowTo_le (by omega)
  have hge := rowTo_ge isSign B i
  have hsl := sub_length (l := B) (i := i) hle
  have hsz := strB_size (sub B i (rowTo isSign B i))
  rw [hsl] at hsz
  have HS := Lib.hid (oneS_sign (B := B) (i := i) (c := c) (by unfold endsS; rw [hk, hd]; simp [hdk]) (by rw [hk]; rfl))
  have HR := fun x y => Lib.hid (h.row 2 isSign (by simp) x y)
  have hcv := fun y => h.conv _ hge hle (.cells #[.int .i64 0, .string ⟨#[]⟩, .int .i64 0, .int .i64 0, .bool false] 55) y
  have hce : rowTo isSign B i ≤ cap := by omega
  have hN1 : 64 < (sub B i (rowTo isSign B i)).length → oneS B i c = .error 3 := fun g => HS.out.trans (nameS_long g)
  have hN2 : ¬ 64 < (sub B i (rowTo isSign B i)).length → oneS B i c = .ok (1, sub B i (rowTo isSign B i), 0, rowTo isSign B i) := fun g => HS.out.trans (nameS_ok g)
  generalize rowTo isSign B i = e at *
  have HL := Lib.hid hsl
  generalize hgs : strB (sub B i e) = s at hsz hcv
  have HGS := Lib.hid hgs
  clear hgs hsl hk hdk hd
  by_cases hlong : 64 < e - i
  · have HN := Lib.hid (hN1 (by rw [HL.out]; exact hlong))
    clear hN1 hN2 HL HS h
    go_enter Tryz.func71, Tryz.ntmps71
    go_wp2_with (first | (go_at_call 106; refine (rBlank_any d _).mono ?_; rintro e w' ⟨rfl, rfl⟩) | (go_at_call 88; refine (rSmall_any _ _).mono ?_; rintro e w' ⟨rfl, rfl⟩) | (go_at_call 90; refine (rSign_any _ _).mono ?_; rintro e w' ⟨rfl, rfl⟩) | (go_at_call 89; refine (rWord_any _ _).mono ?_; rintro e w' ⟨rfl, rfl⟩) | (go_at_call 107; refine (HR _ _).out.mono ?_; rintro e w' ⟨rfl, rfl⟩))
    refine bodyPost_ret (v := oneV i (oneS B i c)) ?_ rfl ⟨rfl, ext_box2 _ _ _⟩
    rw [HN.out]
    simp [results, Tryz.results71, go_sem, oneV, tokV_eq, zeroT]
  · have HN := Lib.hid (hN2 (by rw [HL.out]; exact hlong))
    clear hN1 hN2 HL HS h
    go_enter Tryz.func71, Tryz.ntmps71
    go_wp2_with (first | (go_at_call 106; refine (rBlank_any d _).mono ?_; rintro e w' ⟨rfl, rfl⟩) | (go_at_call 88; refine (rSmall_any _ _).mono ?_; rintro e w' ⟨rfl, rfl⟩) | (go_at_call 90; refine (rSign_any _ _).mono ?_; rintro e w' ⟨rfl, rfl⟩) | (go_at_call 89; refine (rWord_any _ _).mono ?_; rintro e w' ⟨rfl, rfl⟩) | (go_at_call 107; refine (HR _ _).out.mono ?_; rintro e w' ⟨rfl, rfl⟩))
    refine bodyPost_ret (v := oneV i (oneS B i c)) ?_ rfl ⟨rfl, ext_box2 _ _ _⟩
    rw [HN.out]
    simp [results, Tryz.results71, go_sem, oneV, tokV_eq, HGS.out]

end Go.Proofs.YtgcdhffeacdegaaGreatDoor

/- Layer 8, the reference: the walk of one: p40, p41, p91, p93. -/
namespace Go.Proofs.YtgcdhffeacdegaaGreatDoor
open Go.RowKit Go.El

set_option maxRecDepth 100000 in
set_option maxHeartbeats 4000000 in
theorem rOne_p40 (b off cap : Nat) (B : List UInt8) (i : Nat) (c : UInt8) (w : World) (h : OneAt b off cap B i c w) (hk : c = 40) :
    Calls Tryz.prog 71 #[.slice (some ⟨b, off, none⟩) B.length cap, .int .i64 (i : Int)] w fun e w' => e = .returned (oneV i (oneS B i c)) ∧ Ext w w' := by
  have hlt := h.lt
  have hcap := h.cap
  have hB := h.len
  have d0 := h.cells i c h.at_
  have d1 : ∀ o, (w.alloc o).cell? ⟨b, off + i, none⟩ = some (.int .u8 (c.toNat : Int)) := fun o => (ext_box w o).cell d0
  have hci : ¬ cap = i := by omega
  have hsm : smallN c.toNat = false := by rw [hk]; rfl
  have hsg : hasB signS c = false := by rw [hk]; rfl
  have hwd : wordN c.toNat = false := by rw [hk]; rfl
  have hd1 : c.toNat < 48 := by rw [hk]; decide
  have q46 : ((c.toNat : Int) == (46 : Int)) = false := by rw [hk]; rfl
  have q33 : ((c.toNat : Int) == (33 : Int)) = false := by rw [hk]; rfl
  have q59 : ((c.toNat : Int) == (59 : Int)) = false := by rw [hk]; rfl
  have q40 : ((c.toNat : Int) == (40 : Int)) = true := by rw [hk]; rfl
  have hcv := fun y => h.conv (i + 1) (by omega) (by omega) (.cells #[.int .i64 0, .string ⟨#[]⟩, .int .i64 0, .int .i64 0, .bool false] 55) y
  rw [sub_one h.at_] at hcv
  have hsz : (strB [c]).size = 1 := strB_size [c]
  have hii : i + 1 - i = 1 := by omega
  rw [hii] at hcv
  have hce : i + 1 ≤ cap := by omega
  have HN := Lib.hid ((show oneS B i c = nameS 5 [c] (i + 1) from oneS_punct (by rw [hk]; rfl)).trans (nameS_ok (by simp)))
  generalize hgs : strB [c] = s at hsz hcv
  have HGS := Lib.hid hgs
  clear hgs hk h
  go_enter Tryz.func71, Tryz.ntmps71
  go_wp2_with (first | (go_at_call 88; refine (rSmall_any _ _).mono ?_; rintro e w' ⟨rfl, rfl⟩) | (go_at_call 90; refine (rSign_any _ _).mono ?_; rintro e w' ⟨rfl, rfl⟩) | (go_at_call 89; refine (rWord_any _ _).mono ?_; rintro e w' ⟨rfl, rfl⟩))
  refine bodyPost_ret (v := oneV i (oneS B i c)) ?_ rfl ⟨rfl, ext_box2 _ _ _⟩
  rw [HN.out]
  simp [results, Tryz.results71, go_sem, oneV, tokV_eq, HGS.out]

set_option maxRecDepth 100000 in
set_option maxHeartbeats 4000000 in
theorem rOne_p41 (b off cap : Nat) (B : List UInt8) (i : Nat) (c : UInt8) (w : World) (h : OneAt b off cap B i c w) (hk : c = 41) :
    Calls Tryz.prog 71 #[.slice (some ⟨b, off, none⟩) B.length cap, .int .i64 (i : Int)] w fun e w' => e = .returned (oneV i (oneS B i c)) ∧ Ext w w' := by
  have hlt := h.lt
  have hcap := h.cap
  have hB := h.len
  have d0 := h.cells i c h.at_
  have d1 : ∀ o, (w.alloc o).cell? ⟨b, off + i, none⟩ = some (.int .u8 (c.toNat : Int)) := fun o => (ext_box w o).cell d0
  have hci : ¬ cap = i := by omega
  have hsm : smallN c.toNat = false := by rw [hk]; rfl
  have hsg : hasB signS c = false := by rw [hk]; rfl
  have hwd : wordN c.toNat = false := by rw [hk]; rfl
  have hd1 : c.toNat < 48 := by rw [hk]; decide
  have q46 : ((c.toNat : Int) == (46 : Int)) = false := by rw [hk]; rfl
  have q33 : ((c.toNat : Int) == (33 : Int)) = false := by rw [hk]; rfl
  have q59 : ((c.toNat : Int) == (59 : Int)) = false := by rw [hk]; rfl
  have q40 : ((c.toNat : Int) == (40 : Int)) = false := by rw [hk]; rfl
  have q41 : ((c.toNat : Int) == (41 : Int)) = true := by rw [hk]; rfl
  have hcv := fun y => h.conv (i + 1) (by omega) (by omega) (.cells #[.int .i64 0, .string ⟨#[]⟩, .int .i64 0, .int .i64 0, .bool false] 55) y
  rw [sub_one h.at_] at hcv
  have hsz : (strB [c]).size = 1 := strB_size [c]
  have hii : i + 1 - i = 1 := by omega
  rw [hii] at hcv
  have hce : i + 1 ≤ cap := by omega
  have HN := Lib.hid ((show oneS B i c = nameS 5 [c] (i + 1) from oneS_punct (by rw [hk]; rfl)).trans (nameS_ok (by simp)))
  generalize hgs : strB [c] = s at hsz hcv
  have HGS := Lib.hid hgs
  clear hgs hk h
  go_enter Tryz.func71, Tryz.ntmps71
  go_wp2_with (first | (go_at_call 88; refine (rSmall_any _ _).mono ?_; rintro e w' ⟨rfl, rfl⟩) | (go_at_call 90; refine (rSign_any _ _).mono ?_; rintro e w' ⟨rfl, rfl⟩) | (go_at_call 89; refine (rWord_any _ _).mono ?_; rintro e w' ⟨rfl, rfl⟩))
  refine bodyPost_ret (v := oneV i (oneS B i c)) ?_ rfl ⟨rfl, ext_box2 _ _ _⟩
  rw [HN.out]
  simp [results, Tryz.results71, go_sem, oneV, tokV_eq, HGS.out]

set_option maxRecDepth 100000 in
set_option maxHeartbeats 4000000 in
theorem rOne_p91 (b off cap : Nat) (B : List UInt8) (i : Nat) (c : UInt8) (w : World) (h : OneAt b off cap B i c w) (hk : c = 91) :
    Calls Tryz.prog 71 #[.slice (some ⟨b, off, none⟩) B.length cap, .int .i64 (i : Int)] w fun e w' => e = .returned (oneV i (oneS B i c)) ∧ Ext w w' := by
  have hlt := h.lt
  have hcap := h.cap
  have hB := h.len
  have d0 := h.cells i c h.at_
  have d1 : ∀ o, (w.alloc o).cell? ⟨b, off + i, none⟩ = some (.int .u8 (c.toNat : Int)) := fun o => (ext_box w o).cell d0
  have hci : ¬ cap = i := by omega
  have hsm : smallN c.toNat = false := by rw [hk]; rfl
  have hsg : hasB signS c = false := by rw [hk]; rfl
  have hwd : wordN c.toNat = false := by rw [hk]; rfl
  have hd1 : 48 ≤ c.toNat := by rw [hk]; decide
  have hd2 : 57 < c.toNat := by rw [hk]; decide
  have q46 : ((c.toNat : Int) == (46 : Int)) = false := by rw [hk]; rfl
  have q33 : ((c.toNat : Int) == (33 : Int)) = false := by rw [hk]; rfl
  have q59 : ((c.toNat : Int) == (59 : Int)) = false := by rw [hk]; rfl
  have q40 : ((c.toNat : Int) == (40 : Int)) = false := by rw [hk]; rfl
  have q41 : ((c.toNat : Int) == (41 : Int)) = false := by rw [hk]; rfl
  have q91 : ((c.toNat : Int) == (91 : Int)) = true := by rw [hk]; rfl
  have hcv := fun y => h.conv (i + 1) (by omega) (by omega) (.cells #[.int .i64 0, .string ⟨#[]⟩, .int .i64 0, .int .i64 0, .bool false] 55) y
  rw [sub_one h.at_] at hcv
  have hsz : (strB [c]).size = 1 := strB_size [c]
  have hii : i + 1 - i = 1 := by omega
  rw [hii] at hcv
  have hce : i + 1 ≤ cap := by omega
  have HN := Lib.hid ((show oneS B i c = nameS 5 [c] (i + 1) from oneS_punct (by rw [hk]; rfl)).trans (nameS_ok (by simp)))
  generalize hgs : strB [c] = s at hsz hcv
  have HGS := Lib.hid hgs
  clear hgs hk h
  go_enter Tryz.func71, Tryz.ntmps71
  go_wp2_with (first | (go_at_call 88; refine (rSmall_any _ _).mono ?_; rintro e w' ⟨rfl, rfl⟩) | (go_at_call 90; refine (rSign_any _ _).mono ?_; rintro e w' ⟨rfl, rfl⟩) | (go_at_call 89; refine (rWord_any _ _).mono ?_; rintro e w' ⟨rfl, rfl⟩))
  refine bodyPost_ret (v := oneV i (oneS B i c)) ?_ rfl ⟨rfl, ext_box2 _ _ _⟩
  rw [HN.out]
  simp [results, Tryz.results71, go_sem, oneV, tokV_eq, HGS.out]

set_option maxRecDepth 100000 in
set_option maxHeartbeats 4000000 in
theorem rOne_p93 (b off cap : Nat) (B : List UInt8) (i : Nat) (c : UInt8) (w : World) (h : OneAt b off cap B i c w) (hk : c = 93) :
    Calls Tryz.prog 71 #[.slice (some ⟨b, off, none⟩) B.length cap, .int .i64 (i : Int)] w fun e w' => e = .returned (oneV i (oneS B i c)) ∧ Ext w w' := by
  have hlt := h.lt
  have hcap := h.cap
  have hB := h.len
  have d0 := h.cells i c h.at_
  have d1 : ∀ o, (w.alloc o).cell? ⟨b, off + i, none⟩ = some (.int .u8 (c.toNat : Int)) := fun o => (ext_box w o).cell d0
  have hci : ¬ cap = i := by omega
  have hsm : smallN c.toNat = false := by rw [hk]; rfl
  have hsg : hasB signS c = false := by rw [hk]; rfl
  have hwd : wordN c.toNat = false := by rw [hk]; rfl
  have hd1 : 48 ≤ c.toNat := by rw [hk]; decide
  have hd2 : 57 < c.toNat := by rw [hk]; decide
  have q46 : ((c.toNat : Int) == (46 : Int)) = false := by rw [hk]; rfl
  have q33 : ((c.toNat : Int) == (33 : Int)) = false := by rw [hk]; rfl
  have q59 : ((c.toNat : Int) == (59 : Int)) = false := by rw [hk]; rfl
  have q40 : ((c.toNat : Int) == (40 : Int)) = false := by rw [hk]; rfl
  have q41 : ((c.toNat : Int) == (41 : Int)) = false := by rw [hk]; rfl
  have q91 : ((c.toNat : Int) == (91 : Int)) = false := by rw [hk]; rfl
  have q93 : ((c.toNat : Int) == (93 : Int)) = true := by rw [hk]; rfl
  have hcv := fun y => h.conv (i + 1) (by omega) (by omega) (.cells #[.int .i64 0, .string ⟨#[]⟩, .int .i64 0, .int .i64 0, .bool false] 55) y
  rw [sub_one h.at_] at hcv
  have hsz : (strB [c]).size = 1 := strB_size [c]
  have hii : i + 1 - i = 1 := by omega
  rw [hii] at hcv
  have hce : i + 1 ≤ cap := by omega
  have HN := Lib.hid ((show oneS B i c = nameS 5 [c] (i + 1) from oneS_punct (by rw [hk]; rfl)).trans (nameS_ok (by simp)))
  generalize hgs : strB [c] = s at hsz hcv
  have HGS := Lib.hid hgs
  clear hgs hk h
  go_enter Tryz.func71, Tryz.ntmps71
  go_wp2_with (first | (go_at_call 88; refine (rSmall_any _ _).mono ?_; rintro e w' ⟨rfl, rfl⟩) | (go_at_call 90; refine (rSign_any _ _).mono ?_; rintro e w' ⟨rfl, rfl⟩) | (go_at_call 89; refine (rWord_any _ _).mono ?_; rintro e w' ⟨rfl, rfl⟩))
  refine bodyPost_ret (v := oneV i (oneS B i c)) ?_ rfl ⟨rfl, ext_box2 _ _ _⟩
  rw [HN.out]
  simp [results, Tryz.results71, go_sem, oneV, tokV_eq, HGS.out]

end Go.Proofs.YtgcdhffeacdegaaGreatDoor

/- Layer 8, the reference: the walk of one: p123, p125, p44, p124. -/
namespace Go.Proofs.YtgcdhffeacdegaaGreatDoor
open Go.RowKit Go.El

set_option maxRecDepth 100000 in
set_option maxHeartbeats 4000000 in
theorem rOne_p123 (b off cap : Nat) (B : List UInt8) (i : Nat) (c : UInt8) (w : World) (h : OneAt b off cap B i c w) (hk : c = 123) :
    Calls Tryz.prog 71 #[.slice (some ⟨b, off, none⟩) B.length cap, .int .i64 (i : Int)] w fun e w' => e = .returned (oneV i (oneS B i c)) ∧ Ext w w' := by
  have hlt := h.lt
  have hcap := h.cap
  have hB := h.len
  have d0 := h.cells i c h.at_
  have d1 : ∀ o, (w.alloc o).cell? ⟨b, off + i, none⟩ = some (.int .u8 (c.toNat : Int)) := fun o => (ext_box w o).cell d0
  have hci : ¬ cap = i := by omega
  have hsm : smallN c.toNat = false := by rw [hk]; rfl
  have hsg : hasB signS c = false := by rw [hk]; rfl
  have hwd : wordN c.toNat = false := by rw [hk]; rfl
  have hd1 : 48 ≤ c.toNat := by rw [hk]; decide
  have hd2 : 57 < c.toNat := by rw [hk]; decide
  have q46 : ((c.toNat : Int) == (46 : Int)) = false := by rw [hk]; rfl
  have q33 : ((c.toNat : Int) == (33 : Int)) = false := by rw [hk]; rfl
  have q59 : ((c.toNat : Int) == (59 : Int)) = false := by rw [hk]; rfl
  have q40 : ((c.toNat : Int) == (40 : Int)) = false := by rw [hk]; rfl
  have q41 : ((c.toNat : Int) == (41 : Int)) = false := by rw [hk]; rfl
  have q91 : ((c.toNat : Int) == (91 : Int)) = false := by rw [hk]; rfl
  have q93 : ((c.toNat : Int) == (93 : Int)) = false := by rw [hk]; rfl
  have q123 : ((c.toNat : Int) == (123 : Int)) = true := by rw [hk]; rfl
  have hcv := fun y => h.conv (i + 1) (by omega) (by omega) (.cells #[.int .i64 0, .string ⟨#[]⟩, .int .i64 0, .int .i64 0, .bool false] 55) y
  rw [sub_one h.at_] at hcv
  have hsz : (strB [c]).size = 1 := strB_size [c]
  have hii : i + 1 - i = 1 := by omega
  rw [hii] at hcv
  have hce : i + 1 ≤ cap := by omega
  have HN := Lib.hid ((show oneS B i c = nameS 5 [c] (i + 1) from oneS_punct (by rw [hk]; rfl)).trans (nameS_ok (by simp)))
  generalize hgs : strB [c] = s at hsz hcv
  have HGS := Lib.hid hgs
  clear hgs hk h
  go_enter Tryz.func71, Tryz.ntmps71
  go_wp2_with (first | (go_at_call 88; refine (rSmall_any _ _).mono ?_; rintro e w' ⟨rfl, rfl⟩) | (go_at_call 90; refine (rSign_any _ _).mono ?_; rintro e w' ⟨rfl, rfl⟩) | (go_at_call 89; refine (rWord_any _ _).mono ?_; rintro e w' ⟨rfl, rfl⟩))
  refine bodyPost_ret (v := oneV i (oneS B i c)) ?_ rfl ⟨rfl, ext_box2 _ _ _⟩
  rw [HN.out]
  simp [results, Tryz.results71, go_sem, oneV, tokV_eq, HGS.out]

set_option maxRecDepth 100000 in
set_option maxHeartbeats 4000000 in
theorem rOne_p125 (b off cap : Nat) (B : List UInt8) (i : Nat) (c : UInt8) (w : World) (h : OneAt b off cap B i c w) (hk : c = 125) :
    Calls Tryz.prog 71 #[.slice (some ⟨b, off, none⟩) B.length cap, .int .i64 (i : Int)] w fun e w' => e = .returned (oneV i (oneS B i c)) ∧ Ext w w' := by
  have hlt := h.lt
  have hcap := h.cap
  have hB := h.len
  have d0 := h.cells i c h.at_
  have d1 : ∀ o, (w.alloc o).cell? ⟨b, off + i, none⟩ = some (.int .u8 (c.toNat : Int)) := fun o => (ext_box w o).cell d0
  have hci : ¬ cap = i := by omega
  have hsm : smallN c.toNat = false := by rw [hk]; rfl
  have hsg : hasB signS c = false := by rw [hk]; rfl
  have hwd : wordN c.toNat = false := by rw [hk]; rfl
  have hd1 : 48 ≤ c.toNat := by rw [hk]; decide
  have hd2 : 57 < c.toNat := by rw [hk]; decide
  have q46 : ((c.toNat : Int) == (46 : Int)) = false := by rw [hk]; rfl
  have q33 : ((c.toNat : Int) == (33 : Int)) = false := by rw [hk]; rfl
  have q59 : ((c.toNat : Int) == (59 : Int)) = false := by rw [hk]; rfl
  have q40 : ((c.toNat : Int) == (40 : Int)) = false := by rw [hk]; rfl
  have q41 : ((c.toNat : Int) == (41 : Int)) = false := by rw [hk]; rfl
  have q91 : ((c.toNat : Int) == (91 : Int)) = false := by rw [hk]; rfl
  have q93 : ((c.toNat : Int) == (93 : Int)) = false := by rw [hk]; rfl
  have q123 : ((c.toNat : Int) == (123 : Int)) = false := by rw [hk]; rfl
  have q125 : ((c.toNat : Int) == (125 : Int)) = true := by rw [hk]; rfl
  have hcv := fun y => h.conv (i + 1) (by omega) (by omega) (.cells #[.int .i64 0, .string ⟨#[]⟩, .int .i64 0, .int .i64 0, .bool false] 55) y
  rw [sub_one h.at_] at hcv
  have hsz : (strB [c]).size = 1 := strB_size [c]
  have hii : i + 1 - i = 1 := by omega
  rw [hii] at hcv
  have hce : i + 1 ≤ cap := by omega
  have HN := Lib.hid ((show oneS B i c = nameS 5 [c] (i + 1) from oneS_punct (by rw [hk]; rfl)).trans (nameS_ok (by simp)))
  generalize hgs : strB [c] = s at hsz hcv
  have HGS := Lib.hid hgs
  clear hgs hk h
  go_enter Tryz.func71, Tryz.ntmps71
  go_wp2_with (first | (go_at_call 88; refine (rSmall_any _ _).mono ?_; rintro e w' ⟨rfl, rfl⟩) | (go_at_call 90; refine (rSign_any _ _).mono ?_; rintro e w' ⟨rfl, rfl⟩) | (go_at_call 89; refine (rWord_any _ _).mono ?_; rintro e w' ⟨rfl, rfl⟩))
  refine bodyPost_ret (v := oneV i (oneS B i c)) ?_ rfl ⟨rfl, ext_box2 _ _ _⟩
  rw [HN.out]
  simp [results, Tryz.results71, go_sem, oneV, tokV_eq, HGS.out]

set_option maxRecDepth 100000 in
set_option maxHeartbeats 4000000 in
theorem rOne_p44 (b off cap : Nat) (B : List UInt8) (i : Nat) (c : UInt8) (w : World) (h : OneAt b off cap B i c w) (hk : c = 44) :
    Calls Tryz.prog 71 #[.slice (some ⟨b, off, none⟩) B.length cap, .int .i64 (i : Int)] w fun e w' => e = .returned (oneV i (oneS B i c)) ∧ Ext w w' := by
  have hlt := h.lt
  have hcap := h.cap
  have hB := h.len
  have d0 := h.cells i c h.at_
  have d1 : ∀ o, (w.alloc o).cell? ⟨b, off + i, none⟩ = some (.int .u8 (c.toNat : Int)) := fun o => (ext_box w o).cell d0
  have hci : ¬ cap = i := by omega
  have hsm : smallN c.toNat = false := by rw [hk]; rfl
  have hsg : hasB signS c = false := by rw [hk]; rfl
  have hwd : wordN c.toNat = false := by rw [hk]; rfl
  have hd1 : c.toNat < 48 := by rw [hk]; decide
  have q46 : ((c.toNat : Int) == (46 : Int)) = false := by rw [hk]; rfl
  have q33 : ((c.toNat : Int) == (33 : Int)) = false := by rw [hk]; rfl
  have q59 : ((c.toNat : Int) == (59 : Int)) = false := by rw [hk]; rfl
  have q40 : ((c.toNat : Int) == (40 : Int)) = false := by rw [hk]; rfl
  have q41 : ((c.toNat : Int) == (41 : Int)) = false := by rw [hk]; rfl
  have q91 : ((c.toNat : Int) == (91 : Int)) = false := by rw [hk]; rfl
  have q93 : ((c.toNat : Int) == (93 : Int)) = false := by rw [hk]; rfl
  have q123 : ((c.toNat : Int) == (123 : Int)) = false := by rw [hk]; rfl
  have q125 : ((c.toNat : Int) == (125 : Int)) = false := by rw [hk]; rfl
  have q44 : ((c.toNat : Int) == (44 : Int)) = true := by rw [hk]; rfl
  have hcv := fun y => h.conv (i + 1) (by omega) (by omega) (.cells #[.int .i64 0, .string ⟨#[]⟩, .int .i64 0, .int .i64 0, .bool false] 55) y
  rw [sub_one h.at_] at hcv
  have hsz : (strB [c]).size = 1 := strB_size [c]
  have hii : i + 1 - i = 1 := by omega
  rw [hii] at hcv
  have hce : i + 1 ≤ cap := by omega
  have HN := Lib.hid ((show oneS B i c = nameS 5 [c] (i + 1) from oneS_punct (by rw [hk]; rfl)).trans (nameS_ok (by simp)))
  generalize hgs : strB [c] = s at hsz hcv
  have HGS := Lib.hid hgs
  clear hgs hk h
  go_enter Tryz.func71, Tryz.ntmps71
  go_wp2_with (first | (go_at_call 88; refine (rSmall_any _ _).mono ?_; rintro e w' ⟨rfl, rfl⟩) | (go_at_call 90; refine (rSign_any _ _).mono ?_; rintro e w' ⟨rfl, rfl⟩) | (go_at_call 89; refine (rWord_any _ _).mono ?_; rintro e w' ⟨rfl, rfl⟩))
  refine bodyPost_ret (v := oneV i (oneS B i c)) ?_ rfl ⟨rfl, ext_box2 _ _ _⟩
  rw [HN.out]
  simp [results, Tryz.results71, go_sem, oneV, tokV_eq, HGS.out]

set_option maxRecDepth 100000 in
set_option maxHeartbeats 4000000 in
theorem rOne_p124 (b off cap : Nat) (B : List UInt8) (i : Nat) (c : UInt8) (w : World) (h : OneAt b off cap B i c w) (hk : c = 124) :
    Calls Tryz.prog 71 #[.slice (some ⟨b, off, none⟩) B.length cap, .int .i64 (i : Int)] w fun e w' => e = .returned (oneV i (oneS B i c)) ∧ Ext w w' := by
  have hlt := h.lt
  have hcap := h.cap
  have hB := h.len
  have d0 := h.cells i c h.at_
  have d1 : ∀ o, (w.alloc o).cell? ⟨b, off + i, none⟩ = some (.int .u8 (c.toNat : Int)) := fun o => (ext_box w o).cell d0
  have hci : ¬ cap = i := by omega
  have hsm : smallN c.toNat = false := by rw [hk]; rfl
  have hsg : hasB signS c = false := by rw [hk]; rfl
  have hwd : wordN c.toNat = false := by rw [hk]; rfl
  have hd1 : 48 ≤ c.toNat := by rw [hk]; decide
  have hd2 : 57 < c.toNat := by rw [hk]; decide
  have q46 : ((c.toNat : Int) == (46 : Int)) = false := by rw [hk]; rfl
  have q33 : ((c.toNat : Int) == (33 : Int)) = false := by rw [hk]; rfl
  have q59 : ((c.toNat : Int) == (59 : Int)) = false := by rw [hk]; rfl
  have q40 : ((c.toNat : Int) == (40 : Int)) = false := by rw [hk]; rfl
  have q41 : ((c.toNat : Int) == (41 : Int)) = false := by rw [hk]; rfl
  have q91 : ((c.toNat : Int) == (91 : Int)) = false := by rw [hk]; rfl
  have q93 : ((c.toNat : Int) == (93 : Int)) = false := by rw [hk]; rfl
  have q123 : ((c.toNat : Int) == (123 : Int)) = false := by rw [hk]; rfl
  have q125 : ((c.toNat : Int) == (125 : Int)) = false := by rw [hk]; rfl
  have q44 : ((c.toNat : Int) == (44 : Int)) = false := by rw [hk]; rfl
  have q124 : ((c.toNat : Int) == (124 : Int)) = true := by rw [hk]; rfl
  have hcv := fun y => h.conv (i + 1) (by omega) (by omega) (.cells #[.int .i64 0, .string ⟨#[]⟩, .int .i64 0, .int .i64 0, .bool false] 55) y
  rw [sub_one h.at_] at hcv
  have hsz : (strB [c]).size = 1 := strB_size [c]
  have hii : i + 1 - i = 1 := by omega
  rw [hii] at hcv
  have hce : i + 1 ≤ cap := by omega
  have HN := Lib.hid ((show oneS B i c = nameS 5 [c] (i + 1) from oneS_punct (by rw [hk]; rfl)).trans (nameS_ok (by simp)))
  generalize hgs : strB [c] = s at hsz hcv
  have HGS := Lib.hid hgs
  clear hgs hk h
  go_enter Tryz.func71, Tryz.ntmps71
  go_wp2_with (first | (go_at_call 88; refine (rSmall_any _ _).mono ?_; rintro e w' ⟨rfl, rfl⟩) | (go_at_call 90; refine (rSign_any _ _).mono ?_; rintro e w' ⟨rfl, rfl⟩) | (go_at_call 89; refine (rWord_any _ _).mono ?_; rintro e w' ⟨rfl, rfl⟩))
  refine bodyPost_ret (v := oneV i (oneS B i c)) ?_ rfl ⟨rfl, ext_box2 _ _ _⟩
  rw [HN.out]
  simp [results, Tryz.results71, go_sem, oneV, tokV_eq, HGS.out]

end Go.Proofs.YtgcdhffeacdegaaGreatDoor
