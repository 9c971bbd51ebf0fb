/- Layer 8, the reference: the walk of one at a quote; one, whole. -/
import Derived.Test.YtgjdajkkncdhmaaDoorRT7b
namespace Go.Proofs.YtgjdajkkncdhmaaDoor
open Go.RowKit Go.El

theorem cell_set_ne {w : World} {p q : Addr} {v : Value} (h : p.block ≠ q.block) : (w.setCell p v).cell? q = w.cell? q := by
  exact World.cell?_of_block (Below.heap_setCell w p v q.block (Ne.symm h))

set_option maxRecDepth 100000 in
set_option maxHeartbeats 4000000 in
theorem rOne_quote (b off cap : Nat) (B : List UInt8) (i : Nat) (c : UInt8) (w : World) (h : OneAt b off cap B i c w) (hk : c = 39) :
    Calls Tryd.prog 30 #[.slice (some ⟨b, off, none⟩) B.length cap, .int .i64 (i : Int)] w fun e w' => e = .returned (oneV i (oneS B i c)) ∧ Ext w w' := by
  have hlt := h.lt
  have hcap := h.cap
  have hB := h.len
  have d0 := h.cells i c h.at_
  have d1 : ∀ o, (w.alloc o).cell? ⟨b, off + i, none⟩ = some (.int .u8 (c.toNat : Int)) := fun o => (ext_box w o).cell d0
  have hci : ¬ cap = i := by omega
  have hsm : smallN c.toNat = false := by rw [hk]; rfl
  have hsg : hasB signS c = false := by rw [hk]; rfl
  have hwd : wordN c.toNat = false := by rw [hk]; rfl
  have hd1 : c.toNat < 48 := by rw [hk]; decide
  have q46 : ((c.toNat : Int) == (46 : Int)) = false := by rw [hk]; rfl
  have q33 : ((c.toNat : Int) == (33 : Int)) = false := by rw [hk]; rfl
  have q59 : ((c.toNat : Int) == (59 : Int)) = false := by rw [hk]; rfl
  have q40 : ((c.toNat : Int) == (40 : Int)) = false := by rw [hk]; rfl
  have q41 : ((c.toNat : Int) == (41 : Int)) = false := by rw [hk]; rfl
  have q91 : ((c.toNat : Int) == (91 : Int)) = false := by rw [hk]; rfl
  have q93 : ((c.toNat : Int) == (93 : Int)) = false := by rw [hk]; rfl
  have q123 : ((c.toNat : Int) == (123 : Int)) = false := by rw [hk]; rfl
  have q125 : ((c.toNat : Int) == (125 : Int)) = false := by rw [hk]; rfl
  have q44 : ((c.toNat : Int) == (44 : Int)) = false := by rw [hk]; rfl
  have q124 : ((c.toNat : Int) == (124 : Int)) = false := by rw [hk]; rfl
  have q39 : ((c.toNat : Int) == (39 : Int)) = true := by rw [hk]; rfl
  have HS : Hid (oneS B i c = match quoS B (i + 1) [] with | none => .error 80 | some (s, e) => nameS 2 s e) := by rw [hk]; exact oneS_quote
  have HR := fun x y => Lib.hid (rQuoted_any b off cap B i ((w.alloc x).alloc y) (h.src.ext (ext_box2 _ _ _)) hlt hB)
  cases hq : quoS B (i + 1) [] with
  | none =>
    have HN := Lib.hid (HS.out.trans (by rw [hq]))
    have HQ := Lib.hid hq
    clear hq h hk HS
    go_enter Tryd.func30, Tryd.ntmps30
    go_wp2_with (first | (go_at_call 24; refine (rSmall_any _ _).mono ?_; rintro e w' ⟨rfl, rfl⟩) | (go_at_call 26; refine (rSign_any _ _).mono ?_; rintro e w' ⟨rfl, rfl⟩) | (go_at_call 25; refine (rWord_any _ _).mono ?_; rintro e w' ⟨rfl, rfl⟩) | (go_at_call 46; refine (HR _ _).out.mono ?_; rw [HQ.out]; simp only [quoV]; rintro e w' ⟨rfl, hx⟩; have ka := ((Blk.new w 30 #[.int .i64 0, .string ⟨#[]⟩, .int .i64 0, .int .i64 0, .bool false]).alloc _).ext hx; have kac := ka.cell; have kaf := ka.frozen; have kx := Lib.hid ((ext_box2 w _ _).trans hx); have KA := Lib.hid ka; clear ka hx))
    have kb := ((((KA.out.set_ 0 (.int .i64 0)).set_ 1 (.string ⟨#[]⟩)).set_ 2 (.int .i64 0)).set_ 3 (.int .i64 0)).set_ 4 (.bool false)
    have kc := kb.cell
    refine bodyPost_ret (v := oneV i (oneS B i c)) ?_ rfl ⟨rfl, ((((kx.out.setCell (Nat.le_refl _) _).setCell (Nat.le_refl _) _).setCell (Nat.le_refl _) _).setCell (Nat.le_refl _) _).setCell (Nat.le_refl _) _⟩
    rw [HN.out]
    simp [results, Tryd.results30, go_sem, oneV, tokV_eq, zeroT, kc]
  | some p =>
    obtain ⟨s, e⟩ := p
    have hN1 : 64 < s.length → oneS B i c = .error 3 := fun g => HS.out.trans (by rw [hq]; exact nameS_long g)
    have hN2 : ¬ 64 < s.length → oneS B i c = .ok (2, s, 0, e) := fun g => HS.out.trans (by rw [hq]; exact nameS_ok g)
    have HQ := Lib.hid hq
    have hsz := strB_size s
    clear hq h hk HS
    by_cases hlong : 64 < s.length
    · have HN := Lib.hid (hN1 hlong)
      clear hN1 hN2
      generalize hsn : strB s = z at hsz
      have HZ := Lib.hid hsn
      clear hsn
      go_enter Tryd.func30, Tryd.ntmps30
      go_wp2_with (first | (go_at_call 24; refine (rSmall_any _ _).mono ?_; rintro e w' ⟨rfl, rfl⟩) | (go_at_call 26; refine (rSign_any _ _).mono ?_; rintro e w' ⟨rfl, rfl⟩) | (go_at_call 25; refine (rWord_any _ _).mono ?_; rintro e w' ⟨rfl, rfl⟩) | (go_at_call 46; refine (HR _ _).out.mono ?_; rw [HQ.out]; simp only [quoV]; rw [HZ.out]; rintro e1 w' ⟨rfl, hx⟩; have ka := ((Blk.new w 30 #[.int .i64 0, .string ⟨#[]⟩, .int .i64 0, .int .i64 0, .bool false]).alloc _).ext hx; have kb := (Blk.new (w.alloc (.cells #[.int .i64 0, .string ⟨#[]⟩, .int .i64 0, .int .i64 0, .bool false] 30)) 30 #[.int .i64 0, .string ⟨#[]⟩, .int .i64 0, .int .i64 (i : Int), .bool false]).ext hx; rw [World.size_alloc] at kb; have kac := ka.cell; have kaf := ka.frozen; have kbc := kb.cell; have kbf := kb.frozen; have kx := Lib.hid ((ext_box2 w _ _).trans hx); have KA := Lib.hid ka; have KB := Lib.hid kb; clear ka kb hx))
      have kb := ((((((KA.out.far (p := ⟨w.heap.size + 1, 0, none⟩) (show w.heap.size ≠ w.heap.size + 1 by omega) (.int .i64 2)).far (p := ⟨w.heap.size + 1, 1, none⟩) (show w.heap.size ≠ w.heap.size + 1 by omega) (.string z)).set_ 0 (.int .i64 0)).set_ 1 (.string ⟨#[]⟩)).set_ 2 (.int .i64 0)).set_ 3 (.int .i64 0)).set_ 4 (.bool false)
      have kc := kb.cell
      refine bodyPost_ret (v := oneV i (oneS B i c)) ?_ rfl ⟨rfl, ((((((kx.out.setCell (p := ⟨w.heap.size + 1, 0, none⟩) (Nat.le_succ _) (.int .i64 2)).setCell (p := ⟨w.heap.size + 1, 1, none⟩) (Nat.le_succ _) (.string z)).setCell (p := ⟨w.heap.size, 0, none⟩) (Nat.le_refl _) (.int .i64 0)).setCell (p := ⟨w.heap.size, 1, none⟩) (Nat.le_refl _) (.string ⟨#[]⟩)).setCell (p := ⟨w.heap.size, 2, none⟩) (Nat.le_refl _) (.int .i64 0)).setCell (p := ⟨w.heap.size, 3, none⟩) (Nat.le_refl _) (.int .i64 0)).setCell (p := ⟨w.heap.size, 4, none⟩) (Nat.le_refl _) (.bool false)⟩
      rw [HN.out]
      simp [results, Tryd.results30, go_sem, oneV, tokV_eq, zeroT, kc]
    · have HN := Lib.hid (hN2 hlong)
      clear hN1 hN2
      generalize hsn : strB s = z at hsz
      have HZ := Lib.hid hsn
      clear hsn
      go_enter Tryd.func30, Tryd.ntmps30
      go_wp2_with (first | (go_at_call 24; refine (rSmall_any _ _).mono ?_; rintro e w' ⟨rfl, rfl⟩) | (go_at_call 26; refine (rSign_any _ _).mono ?_; rintro e w' ⟨rfl, rfl⟩) | (go_at_call 25; refine (rWord_any _ _).mono ?_; rintro e w' ⟨rfl, rfl⟩) | (go_at_call 46; refine (HR _ _).out.mono ?_; rw [HQ.out]; simp only [quoV]; rw [HZ.out]; rintro e1 w' ⟨rfl, hx⟩; have ka := ((Blk.new w 30 #[.int .i64 0, .string ⟨#[]⟩, .int .i64 0, .int .i64 0, .bool false]).alloc _).ext hx; have kb := (Blk.new (w.alloc (.cells #[.int .i64 0, .string ⟨#[]⟩, .int .i64 0, .int .i64 0, .bool false] 30)) 30 #[.int .i64 0, .string ⟨#[]⟩, .int .i64 0, .int .i64 (i : Int), .bool false]).ext hx; rw [World.size_alloc] at kb; have kac := ka.cell; have kaf := ka.frozen; have kbc := kb.cell; have kbf := kb.frozen; have kx := Lib.hid ((ext_box2 w _ _).trans hx); have KA := Lib.hid ka; have KB := Lib.hid kb; clear ka kb hx))
      have kb := ((((((KA.out.far (p := ⟨w.heap.size + 1, 0, none⟩) (show w.heap.size ≠ w.heap.size + 1 by omega) (.int .i64 2)).far (p := ⟨w.heap.size + 1, 1, none⟩) (show w.heap.size ≠ w.heap.size + 1 by omega) (.string z)).set_ 0 (.int .i64 2)).set_ 1 (.string z)).set_ 2 (.int .i64 0)).set_ 3 (.int .i64 (i : Int))).set_ 4 (.bool false)
      have kc := kb.cell
      refine bodyPost_ret (v := oneV i (oneS B i c)) ?_ rfl ⟨rfl, ((((((kx.out.setCell (p := ⟨w.heap.size + 1, 0, none⟩) (Nat.le_succ _) (.int .i64 2)).setCell (p := ⟨w.heap.size + 1, 1, none⟩) (Nat.le_succ _) (.string z)).setCell (p := ⟨w.heap.size, 0, none⟩) (Nat.le_refl _) (.int .i64 2)).setCell (p := ⟨w.heap.size, 1, none⟩) (Nat.le_refl _) (.string z)).setCell (p := ⟨w.heap.size, 2, none⟩) (Nat.le_refl _) (.int .i64 0)).setCell (p := ⟨w.heap.size, 3, none⟩) (Nat.le_refl _) (.int .i64 (i : Int))).setCell (p := ⟨w.heap.size, 4, none⟩) (Nat.le_refl _) (.bool false)⟩
      rw [HN.out]
      simp [results, Tryd.results30, go_sem, oneV, tokV_eq, HZ.out, kc]

theorem rOne_any (b off cap : Nat) (B : List UInt8) (i : Nat) (c : UInt8) (w : World) (h : OneAt b off cap B i c w) :
    Calls Tryd.prog 30 #[.slice (some ⟨b, off, none⟩) B.length cap, .int .i64 (i : Int)] w fun e w' => e = .returned (oneV i (oneS B i c)) ∧ Ext w w' := by
  rcases byte_kinds c with hk | hk | hk | hk | hk | hk | hk | hk | hk
  · by_cases h1 : i + 1 < B.length
    · have hd : B[i + 1]? = some B[i + 1] := List.getElem?_eq_getElem h1
      generalize B[i + 1] = d at hd
      cases hb : isBlank d
      · by_cases h37 : d = 37
        · exact rOne_end2 b off cap B i c w h ⟨hk, d, hd, hb, h37⟩
        · exact rOne_dot b off cap B i c w h ⟨hk, d, hd, hb, h37⟩
      · exact rOne_end1 b off cap B i c w h ⟨hk, d, hd, hb⟩
    · exact rOne_end0 b off cap B i c w h ⟨hk, by omega⟩
  · exact rOne_small b off cap B i c w h hk
  · exact rOne_sign b off cap B i c w h hk
  · rcases hk with hk | hk
    · exact rOne_s33 b off cap B i c w h hk
    · exact rOne_s59 b off cap B i c w h hk
  · exact rOne_digit b off cap B i c w h hk
  · exact rOne_great b off cap B i c w h hk
  · have : c = 40 ∨ c = 41 ∨ c = 91 ∨ c = 93 ∨ c = 123 ∨ c = 125 ∨ c = 44 ∨ c = 124 := by simpa [isPunct, or_assoc] using hk
    rcases this with hk | hk | hk | hk | hk | hk | hk | hk
    · exact rOne_p40 b off cap B i c w h hk
    · exact rOne_p41 b off cap B i c w h hk
    · exact rOne_p91 b off cap B i c w h hk
    · exact rOne_p93 b off cap B i c w h hk
    · exact rOne_p123 b off cap B i c w h hk
    · exact rOne_p125 b off cap B i c w h hk
    · exact rOne_p44 b off cap B i c w h hk
    · exact rOne_p124 b off cap B i c w h hk
  · exact rOne_quote b off cap B i c w h hk
  · exact rOne_other b off cap B i c w h hk

end Go.Proofs.YtgjdajkkncdhmaaDoor
