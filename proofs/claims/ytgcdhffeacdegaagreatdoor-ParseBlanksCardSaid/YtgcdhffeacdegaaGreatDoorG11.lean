/- Layer 8, the reference: the walk of one at a quote; one, whole. -/
import Derived.Test.YtgcdhffeacdegaaGreatDoorG10
import Derived.Test.YtgcdhffeacdegaaGreatDoorG03
namespace Go.Proofs.YtgcdhffeacdegaaGreatDoor
open Go.RowKit Go.El

theorem cell_set_ne {w : World} {p q : Addr} {v : Value} (h : p.block ≠ q.block) : (w.setCell p v).cell? q = w.cell? q := by
  exact World.cell?_of_block (Below.heap_setCell w p v q.block (Ne.symm h))

set_option maxRecDepth 100000 in
set_option maxHeartbeats 4000000 in
theorem rOne_quote (b off cap : Nat) (B : List UInt8) (i : Nat) (c : UInt8) (w : World) (h : OneAt b off cap B i c w) (hk : c = 39) :
    Calls Tryz.prog 71 #[.slice (some ⟨b, off, none⟩) B.length cap, .int .i64 (i : Int)] w fun e w' => e = .returned (oneV i (oneS B i c)) ∧ Ext w w' := by
  have hlt := h.lt
  have hcap := h.cap
  have hB := h.len
  have d0 := h.cells i c h.at_
  have d1 : ∀ o, (w.alloc o).cell? ⟨b, off + i, none⟩ = some (.int .u8 (c.toNat : Int)) := fun o => (ext_box w o).cell d0
  have hci : ¬ cap = i := by omega
  have hsm : smallN c.toNat = false := by rw [hk]; rfl
  have hsg : hasB signS c = false := by rw [hk]; rfl
  have hwd : wordN c.toNat = false := by rw [hk]; rfl
  have hd1 : c.toNat < 48 := by rw [hk]; decide
  have q46 : ((c.toNat : Int) == (46 : Int)) = false := by rw [hk]; rfl
  have q33 : ((c.toNat : Int) == (33 : Int)) = false := by rw [hk]; rfl
  have q59 : ((c.toNat : Int) == (59 : Int)) = false := by rw [hk]; rfl
  have q40 : ((c.toNat : Int) == (40 : Int)) = false := by rw [hk]; rfl
  have q41 : ((c.toNat : Int) == (41 : Int)) = false := by rw [hk]; rfl
  have q91 : ((c.toNat : Int) == (91 : Int)) = false := by rw [hk]; rfl
  have q93 : ((c.toNat : Int) == (93 : Int)) = false := by rw [hk]; rfl
  have q123 : ((c.toNat : Int) == (123 : Int)) = false := by rw [hk]; rfl
  have q125 : ((c.toNat : Int) == (125 : Int)) = false := by rw [hk]; rfl
  have q44 : ((c.toNat : Int) == (44 : Int)) = false := by rw [hk]; rfl
  have q124 : ((c.toNat : Int) == (124 : Int)) = false := by rw [hk]; rfl
  have q39 : ((c.toNat : Int) == (39 : Int)) = true := by rw [hk]; rfl
  have HS : Hid (oneS B i c = match quoS B (i + 1) [] with | none => .error 80 | some (s, e) => nameS 2 s e) := by rw [hk]; exact oneS_quote
  have HR := fun x y => Lib.hid (rQuoted_any b off cap B i ((w.alloc x).alloc y) (h.src.ext (ext_box2 _ _ _)) hlt hB)
  cases hq : quoS B (i + 1) [] with
  | none =>
    have HN := Lib.hid (HS.out.trans (by rw [hq]))
    have HQ := Lib.hid hq
    clear hq h hk HS
    go_enter Tryz.func71, Tryz.ntmps71
    go_wp2_with (first | (go_at_call 88; refine (rSmall_any _ _).mono ?_; rintro e w' ⟨rfl, rfl⟩) | (go_at_call 90; refine (rSign_any _ _).mono ?_; rintro e w' ⟨rfl, rfl⟩) | (go_at_call 89; refine (rWord_any _ _).mono ?_; rintro e w' ⟨rfl, rfl⟩) | (go_at_call 109; refine (HR _ _).out.mono ?_; rw [HQ.out]; simp only [quoV]; rintro e w' ⟨rfl, hx⟩; have ka := ((Blk.new w 55 #[.int .i64 0, .string ⟨#[]⟩, .int .i64 0, .int .i64 0, .bool false]).alloc _).ext hx; have kac := ka.cell; have kaf := ka.frozen; have kx := Lib.hid ((ext_box2 w _ _).trans hx); have KA := Lib.hid ka; clear ka hx))
    have kb := ((((KA.out.set_ 0 (.int .i64 0)).set_ 1 (.string ⟨#[]⟩)).set_ 2 (.int .i64 0)).set_ 3 (.int .i64 0)).set_ 4 (.bool false)
    have kc := kb.cell
    refine bodyPost_ret (v := oneV i (oneS B i c)) ?_ rfl ⟨rfl, ((((kx.out.setCell (Nat.le_refl _) _).setCell (Nat.le_refl _) _).setCell (Nat.le_refl _) _).setCell (Nat.le_refl _) _).setCell (Nat.le_refl _) _⟩
    rw [HN.out]
    simp [results, Tryz.results71, go_sem, oneV, tokV_eq, zeroT, kc]
  | some p =>
    obtain ⟨s, e⟩ := p
    have hN1 : 64 < s.length → oneS B i c = .error 3 := fun g => HS.out.trans (by rw [hq]; exact nameS_long g)
    have hN2 : ¬ 64 < s.length → oneS B i c = .ok (2, s, 0, e) := fun g => HS.out.trans (by rw [hq]; exact nameS_ok g)
    have HQ := Lib.hid hq
    have hsz := strB_size s
    clear hq h hk HS
    by_cases hlong : 64 < s.length
    · have HN := Lib.hid (hN1 hlong)
      clear hN1 hN2
      generalize hsn : strB s = z at hsz
      have HZ := Lib.hid hsn
      clear hsn
      go_enter Tryz.func71, Tryz.ntmps71
      go_wp2_with (first | (go_at_call 88; refine (rSmall_any _ _).mono ?_; rintro e w' ⟨rfl, rfl⟩) | (go_at_call 90; refine (rSign_any _ _).mono ?_; rintro e w' ⟨rfl, rfl⟩) | (go_at_call 89; refine (rWord_any _ _).mono ?_; rintro e w' ⟨rfl, rfl⟩) | (go_at_call 109; refine (HR _ _).out.mono ?_; rw [HQ.out]; simp only [quoV]; rw [HZ.out]; rintro e1 w' ⟨rfl, hx⟩; have ka := ((Blk.new w 55 #[.int .i64 0, .string ⟨#[]⟩, .int .i64 0, .int .i64 0, .bool false]).alloc _).ext hx; have kb := (Blk.new (w.alloc (.cells #[.int .i64 0, .string ⟨#[]⟩, .int .i64 0, .int .i64 0, .bool false] 55)) 55 #[.int .i64 0, .string ⟨#[]⟩, .int .i64 0, .int .i64 (i : Int), .bool false]).ext hx; rw [World.size_alloc] at kb; have kac := ka.cell; have kaf := ka.frozen; have kbc := kb.cell; have kbf := kb.frozen; have kx := Lib.hid ((ext_box2 w _ _).trans hx); have KA := Lib.hid ka; have KB := Lib.hid kb; clear ka kb hx))
      have kb := ((((((KA.out.far (p := ⟨w.heap.size + 1, 0, none⟩) (show w.heap.size ≠ w.heap.size + 1 by omega) (.int .i64 2)).far (p := ⟨w.heap.size + 1, 1, none⟩) (show w.heap.size ≠ w.heap.size + 1 by omega) (.string z)).set_ 0 (.int .i64 0)).set_ 1 (.string ⟨#[]⟩)).set_ 2 (.int .i64 0)).set_ 3 (.int .i64 0)).set_ 4 (.bool false)
      have kc := kb.cell
      refine bodyPost_ret (v := oneV i (oneS B i c)) ?_ rfl ⟨rfl, ((((((kx.out.setCell (p := ⟨w.heap.size + 1, 0, none⟩) (Nat.le_succ _) (.int .i64 2)).setCell (p := ⟨w.heap.size + 1, 1, none⟩) (Nat.le_succ _) (.string z)).setCell (p := ⟨w.heap.size, 0, none⟩) (Nat.le_refl _) (.int .i64 0)).setCell (p := ⟨w.heap.size, 1, none⟩) (Nat.le_refl _) (.string ⟨#[]⟩)).setCell (p := ⟨w.heap.size, 2, none⟩) (Nat.le_refl _) (.int .i64 0)).setCell (p := ⟨w.heap.size, 3, none⟩) (Nat.le_refl _) (.int .i64 0)).setCell (p := ⟨w.heap.size, 4, none⟩) (Nat.le_refl _) (.bool false)⟩
      rw [HN.out]
      simp [results, Tryz.results71, go_sem, oneV, tokV_eq, zeroT, kc]
    · have HN := Lib.hid (hN2 hlong)
      clear hN1 hN2
      generalize hsn : strB s = z at hsz
      have HZ := Lib.hid hsn
      clear hsn
      go_enter Tryz.func71, Tryz.ntmps71
      go_wp2_with (first | (go_at_call 88; refine (rSmall_any _ _).mono ?_; rintro e w' ⟨rfl, rfl⟩) | (go_at_call 90; refine (rSign_any _ _).mono ?_; rintro e w' ⟨rfl, rfl⟩) | (go_at_call 89; refine (rWord_any _ _).mono ?_; rintro e w' ⟨rfl, rfl⟩) | (go_at_call 109; refine (HR _ _).out.mono ?_; rw [HQ.out]; simp only [quoV]; rw [HZ.out]; rintro e1 w' ⟨rfl, hx⟩; have ka := ((Blk.new w 55 #[.int .i64 0, .string ⟨#[]⟩, .int .i64 0, .int .i64 0, .bool false]).alloc _).ext hx; have kb := (Blk.new (w.alloc (.cells #[.int .i64 0, .string ⟨#[]⟩, .int .i64 0, .int .i64 0, .bool false] 55)) 55 #[.int .i64 0, .string ⟨#[]⟩, .int .i64 0, .int .i64 (i : Int), .bool false]).ext hx; rw [World.size_alloc] at kb; have kac := ka.cell; have kaf := ka.frozen; have kbc := kb.cell; have kbf := kb.frozen; have kx := Lib.hid ((ext_box2 w _ _).trans hx); have KA := Lib.hid ka; have KB := Lib.hid kb; clear ka kb hx))
      have kb := ((((((KA.out.far (p := ⟨w.heap.size + 1, 0, none⟩) (show w.heap.size ≠ w.heap.size + 1 by omega) (.int .i64 2)).far (p := ⟨w.heap.size + 1, 1, none⟩) (show w.heap.size ≠ w.heap.size + 1 by omega) (.string z)).set_ 0 (.int .i64 2)).set_ 1 (.string z)).set_ 2 (.int .i64 0)).set_ 3 (.int .i64 (i : Int))).set_ 4 (.bool false)
      have kc := kb.cell
      refine bodyPost_ret (v := oneV i (oneS B i c)) ?_ rfl ⟨rfl, ((((((kx.out.setCell (p := ⟨w.heap.size + 1, 0, none⟩) (Nat.le_succ _) (.int .i64 2)).setCell (p := ⟨w.heap.size + 1, 1, none⟩) (Nat.le_succ _) (.string z)).setCell (p := ⟨w.heap.size, 0, none⟩) (Nat.le_refl _) (.int .i64 2)).setCell (p := ⟨w.heap.size, 1, none⟩) (Nat.le_refl _) (.string z)).setCell (p := ⟨w.heap.size, 2, none⟩) (Nat.le_refl _) (.int .i64 0)).setCell (p := ⟨w.heap.size, 3, none⟩) (Nat.le_refl _) (.int .i64 (i : Int))).setCell (p := ⟨w.heap.size, 4, none⟩) (Nat.le_refl _) (.bool false)⟩
      rw [HN.out]
      simp [results, Tryz.results71, go_sem, oneV, tokV_eq, HZ.out, kc]

theorem rOne_any (b off cap : Nat) (B : List UInt8) (i : Nat) (c : UInt8) (w : World) (h : OneAt b off cap B i c w) :
    Calls Tryz.prog 71 #[.slice (some ⟨b, off, none⟩) B.length cap, .int .i64 (i : Int)] w fun e w' => e = .returned (oneV i (oneS B i c)) ∧ Ext w w' := by
  rcases byte_kinds c with hk | hk | hk | hk | hk | hk | hk | hk | hk
  · by_cases h1 : i + 1 < B.length
    · have hd : B[i + 1]? = some B[i + 1] := List.getElem?_eq_getElem h1
      generalize B[i + 1] = d at hd
      cases hb : isBlank d
      · by_cases h37 : d = 37
        · exact rOne_end2 b off cap B i c w h ⟨hk, d, hd, hb, h37⟩
        · exact rOne_dot b off cap B i c w h ⟨hk, d, hd, hb, h37⟩
      · exact rOne_end1 b off cap B i c w h ⟨hk, d, hd, hb⟩
    · exact rOne_end0 b off cap B i c w h ⟨hk, by omega⟩
  · exact rOne_small b off cap B i c w h hk
  · exact rOne_sign b off cap B i c w h hk
  · rcases hk with hk | hk
    · exact rOne_s33 b off cap B i c w h hk
    · exact rOne_s59 b off cap B i c w h hk
  · exact rOne_digit b off cap B i c w h hk
  · exact rOne_great b off cap B i c w h hk
  · have : c = 40 ∨ c = 41 ∨ c = 91 ∨ c = 93 ∨ c = 123 ∨ c = 125 ∨ c = 44 ∨ c = 124 := by simpa [isPunct, or_assoc] using hk
    rcases this with hk | hk | hk | hk | hk | hk | hk | hk
    · exact rOne_p40 b off cap B i c w h hk
    · exact rOne_p41 b off cap B i c w h hk
    · exact rOne_p91 b off cap B i c w h hk
    · exact rOne_p93 b off cap B i c w h hk
    · exact rOne_p123 b off cap B i c w h hk
    · exact rOne_p125 b off cap B i c w h hk
    · exact rOne_p44 b off cap B i c w h hk
    · exact rOne_p124 b off cap B i c w h hk
  · exact rOne_quote b off cap B i c w h hk
  · exact rOne_other b off cap B i c w h hk

end Go.Proofs.YtgcdhffeacdegaaGreatDoor

/- Layer 8, the reference: the walk of Scan. -/
namespace Go.Proofs.YtgcdhffeacdegaaGreatDoor
open Go.RowKit Go.El

def scanV (x : TokV × Nat × Int) : Value := .tuple #[tokV x.1, .int .i64 (x.2.1 : Int), .int .i64 x.2.2]
theorem rSkip_at {B : List UInt8} {i k : Nat} {ok : Bool} (hs : skipTo B i = (k, ok)) (A : Option Addr) (cap : Nat) (w : World) (h : BytesAt w A B) (hi : i ≤ B.length) (hB : B.length ≤ 70000) :
    Calls Tryz.prog 70 #[.slice A B.length cap, .int .i64 (i : Int)] w fun e w' => e = .returned (.tuple #[.int .i64 (k : Int), .bool ok]) ∧ w = w' := by
  have := rSkip_any A cap B i w h hi hB
  rw [hs] at this
  exact this
theorem rOne_err {B : List UInt8} {k : Nat} {c : UInt8} {x : Int} (ho : oneS B k c = .error x) (b off cap : Nat) (w : World) (h : OneAt b off cap B k c w) :
    Calls Tryz.prog 71 #[.slice (some ⟨b, off, none⟩) B.length cap, .int .i64 (k : Int)] w fun e w' => e = .returned (.tuple #[.agg #[.int .i64 0, .string ⟨#[]⟩, .int .i64 0, .int .i64 0, .bool false], .int .i64 (k : Int), .int .i64 x]) ∧ Ext w w' := by
  have := rOne_any b off cap B k c w h
  rw [ho] at this
  exact this
theorem rOne_ok {B : List UInt8} {k : Nat} {c : UInt8} {kd : Int} {s : List UInt8} {n : Int} {e : Nat} (ho : oneS B k c = .ok (kd, s, n, e)) (b off cap : Nat) (w : World) (h : OneAt b off cap B k c w) :
    Calls Tryz.prog 71 #[.slice (some ⟨b, off, none⟩) B.length cap, .int .i64 (k : Int)] w fun e1 w' => e1 = .returned (.tuple #[.agg #[.int .i64 kd, .string (strB s), .int .i64 n, .int .i64 (k : Int), .bool false], .int .i64 (e : Int), .int .i64 0]) ∧ Ext w w' := by
  have := rOne_any b off cap B k c w h
  rw [ho] at this
  exact this
/-- A zero token's block, in a later world. -/
theorem zero_blk {w w' : World} (hx : Ext (w.alloc (.cells #[.int .i64 0, .string ⟨#[]⟩, .int .i64 0, .int .i64 0, .bool false] 55)) w') : Blk w' w.heap.size 55 #[.int .i64 0, .string ⟨#[]⟩, .int .i64 0, .int .i64 0, .bool false] := (Blk.new w 55 _).ext hx
theorem blk_set5 {w : World} {g : Nat} {t : TypeId} {a b c d e : Value} (h : Blk w g t #[a, b, c, d, e]) (a' b' c' d' e' : Value) : Blk (((((w.setCell ⟨g, 0, none⟩ a').setCell ⟨g, 1, none⟩ b').setCell ⟨g, 2, none⟩ c').setCell ⟨g, 3, none⟩ d').setCell ⟨g, 4, none⟩ e') g t #[a', b', c', d', e'] :=
  ((((h.set_ 0 a').set_ 1 b').set_ 2 c').set_ 3 d').set_ 4 e'
theorem ext_set5 {w w' : World} (h : Ext w w') {g : Nat} (hg : w.heap.size ≤ g) (a' b' c' d' e' : Value) : Ext w (((((w'.setCell ⟨g, 0, none⟩ a').setCell ⟨g, 1, none⟩ b').setCell ⟨g, 2, none⟩ c').setCell ⟨g, 3, none⟩ d').setCell ⟨g, 4, none⟩ e') :=
  (((((h.setCell (p := ⟨g, 0, none⟩) hg a').setCell (p := ⟨g, 1, none⟩) hg b').setCell (p := ⟨g, 2, none⟩) hg c').setCell (p := ⟨g, 3, none⟩) hg d').setCell (p := ⟨g, 4, none⟩) hg e')

set_option maxRecDepth 100000 in
set_option maxHeartbeats 4000000 in
theorem rScan_any (A : Option Addr) (cap : Nat) (B : List UInt8) (i : Nat) (w : World) (h : BytesAt w A B) (hi : i ≤ B.length) (hB : B.length ≤ 65536) (hcap : B.length ≤ cap) :
    Calls Tryz.prog 44 #[.slice A B.length cap, .int .i64 (i : Int)] w fun e w' => e = .returned (scanV (scanS B i)) ∧ Ext w w' := by
  have hskip := fun {k ok} (hs : skipTo B i = (k, ok)) => rSkip_at hs A cap (w.alloc (.cells #[.int .i64 0, .string ⟨#[]⟩, .int .i64 0, .int .i64 0, .bool false] 55)) (h.ext (ext_box _ _)) hi (by omega)
  have hib : ¬ B.length < i := by omega
  have hbig : ¬ 65536 < B.length := by omega
  rcases scanS_cases B i with ⟨k, hs, hn⟩ | ⟨k, hs, hk, hn⟩ | ⟨k, c, x, hs, hk, ho, hn⟩ | ⟨k, c, kd, s, n, e, hs, hk, ho, hn⟩
  · have HK := Lib.hid (hskip hs)
    have HN := Lib.hid hn
    clear hn hs hskip h
    go_enter Tryz.func44, Tryz.ntmps44
    go_wp2_with (go_at_call 70; refine HK.out.mono ?_; rintro e w' ⟨rfl, rfl⟩)
    refine bodyPost_ret (v := scanV (scanS B i)) ?_ rfl ⟨rfl, ext_box _ _⟩
    rw [HN.out]
    simp [results, Tryz.results44, go_sem, scanV, tokV_eq, zeroT]
  · have HK := Lib.hid (hskip hs)
    have hkl : k = B.length := by
      have h1 := skipTo_le hi
      rw [hs] at h1
      have h2 := List.getElem?_eq_none_iff.1 hk
      simp only at h1
      omega
    subst hkl
    have HN := Lib.hid hn
    clear hn hs hskip h hk
    go_enter Tryz.func44, Tryz.ntmps44
    go_wp2_with (go_at_call 70; refine HK.out.mono ?_; rintro e w' ⟨rfl, rfl⟩)
    refine bodyPost_ret (v := scanV (scanS B i)) ?_ rfl ⟨rfl, ext_box _ _⟩
    rw [HN.out]
    simp [results, Tryz.results44, go_sem, scanV, tokV_eq, zeroT]
  · have HK := Lib.hid (hskip hs)
    have HN := Lib.hid hn
    have hkl : k < B.length := (List.getElem?_eq_some_iff.1 hk).1
    have hke : ((k : Int) == (B.length : Int)) = false := by simp; omega
    obtain ⟨b, off, rfl, _⟩ := bytes_at h hkl
    have HO := Lib.hid (rOne_err ho b off cap (w.alloc (.cells #[.int .i64 0, .string ⟨#[]⟩, .int .i64 0, .int .i64 0, .bool false] 55)) ⟨h.ext (ext_box _ _), hk, by omega, hcap⟩)
    have hx3 := oneS_err ho
    clear hn hs hskip h hk ho
    rcases hx3 with rfl | rfl | rfl
    all_goals
      go_enter Tryz.func44, Tryz.ntmps44
      go_wp2_with (first | (go_at_call 70; refine HK.out.mono ?_; rintro e w' ⟨rfl, rfl⟩) | (go_at_call 71; refine HO.out.mono ?_; rintro e w' ⟨rfl, hx⟩; have ka := zero_blk hx; have kac := ka.cell; have kaf := ka.frozen; have hne : w'.heap.size ≠ w.heap.size := (Nat.ne_of_gt ka.lt); have hlt2 : w.heap.size < w'.heap.size := ka.lt; have kaa := fun o => (ka.alloc o).cell; have kff := fun o => (ka.alloc o).frozen; have kx := Lib.hid ((ext_box w _).trans hx); have KA := Lib.hid ka; clear ka hx))
      have kb := (blk_set5 KA.out (.int .i64 0) (.string ⟨#[]⟩) (.int .i64 0) (.int .i64 0) (.bool false)).alloc (.cells #[.int .i64 0, .string ⟨#[]⟩, .int .i64 0, .int .i64 0, .bool false] 55)
      have kc := kb.cell
      refine bodyPost_ret (v := scanV (scanS B i)) ?_ rfl ⟨rfl, (ext_set5 kx.out (Nat.le_refl _) _ _ _ _ _).alloc _⟩
      rw [HN.out]
      simp [results, Tryz.results44, go_sem, scanV, tokV_eq, zeroT, kc]
  · have HK := Lib.hid (hskip hs)
    have HN := Lib.hid hn
    have hkl : k < B.length := (List.getElem?_eq_some_iff.1 hk).1
    have hke : ((k : Int) == (B.length : Int)) = false := by simp; omega
    obtain ⟨b, off, rfl, _⟩ := bytes_at h hkl
    have HO := Lib.hid (rOne_ok ho b off cap (w.alloc (.cells #[.int .i64 0, .string ⟨#[]⟩, .int .i64 0, .int .i64 0, .bool false] 55)) ⟨h.ext (ext_box _ _), hk, by omega, hcap⟩)
    clear hn hs hskip h hk ho
    have hlay : decide ((i : Int) < (k : Int)) = decide (i < k) := by simp
    generalize hz : strB s = z at HO
    have HZ := Lib.hid hz
    clear hz
    go_enter Tryz.func44, Tryz.ntmps44
    go_wp2_with (first | (go_at_call 70; refine HK.out.mono ?_; rintro e w' ⟨rfl, rfl⟩) | (go_at_call 71; refine HO.out.mono ?_; rintro e w' ⟨rfl, hx⟩; have ka := zero_blk hx; have kac := ka.cell; have kaf := ka.frozen; have hne : w'.heap.size ≠ w.heap.size := (Nat.ne_of_gt ka.lt); have hlt2 : w.heap.size < w'.heap.size := ka.lt; have kaa := fun o => (ka.alloc o).cell; have kff := fun o => (ka.alloc o).frozen; have kx := Lib.hid ((ext_box w _).trans hx); have KA := Lib.hid ka; clear ka hx))
    have kb := (blk_set5 KA.out (.int .i64 kd) (.string z) (.int .i64 n) (.int .i64 k) (.bool (decide (i < k)))).alloc (.cells #[.int .i64 kd, .string z, .int .i64 n, .int .i64 k, .bool (decide (i < k))] 55)
    have kc := kb.cell
    refine bodyPost_ret (v := scanV (scanS B i)) ?_ rfl ⟨rfl, (ext_set5 kx.out (Nat.le_refl _) _ _ _ _ _).alloc _⟩
    have hv : scanV (scanS B i) = .tuple #[.agg #[.int .i64 kd, .string z, .int .i64 n, .int .i64 (k : Int), .bool (decide (i < k))], .int .i64 (e : Int), .int .i64 0] := by
      rw [HN.out, ← HZ.out]
      rfl
    rw [hv]
    simp [results, Tryz.results44, go_sem, kc]

end Go.Proofs.YtgcdhffeacdegaaGreatDoor

/- Layer 8, the reference: the walks of All, SameAll. -/
namespace Go.Proofs.YtgcdhffeacdegaaGreatDoor
open Go.RowKit Go.El

def tokCells (t : TokV) : List Value := [.int .i64 t.kind, .string t.s, .int .i64 t.n, .int .i64 t.at_, .bool t.lay]
theorem tokCells_len : ∀ t, (tokCells t).length = 5 := fun _ => rfl
theorem tokCells_one (t : TokV) : ∀ u ∈ tokCells t, u.oneCell' = true := by
  intro u hu
  simp only [tokCells, List.mem_cons, List.not_mem_nil, or_false] at hu
  rcases hu with rfl | rfl | rfl | rfl | rfl <;> rfl
theorem tokInfo : (Tryz.prog.info? 55).map (fun i => (i.zero, i.size, i.bytes)) = some (some (tokV zeroT), 5, 48) := by kernel_rfl

/-- Tokens that a call has gathered in a slice of its own. -/
structure GathT (X wr : World) (v : Value) (F : List TokV) : Prop where
  own : wr.ownsRow 0 55 5 v F.length (flat tokCells F)
  far : ∀ b, v.ownBlock = some b → X.heap.size ≤ b
  ext : Ext X wr
theorem GathT.start (X : World) : GathT X X (.slice none 0 0) [] := ⟨World.ownsRow_nil _ _ _ _, fun b hb => by simp [Value.ownBlock] at hb, Ext.refl _⟩
theorem GathT.nil {X w : World} (h : Ext X w) : GathT X w (.slice none 0 0) [] := ⟨World.ownsRow_nil _ _ _ _, fun b hb => by simp [Value.ownBlock] at hb, h⟩
theorem GathT.go {X wr w' : World} {v : Value} {F : List TokV} (h : GathT X wr v F) (x : Ext wr w') : GathT X w' v F := ⟨own_ext h.own x, h.far, h.ext.trans x⟩
theorem GathT.step {X wr V w' : World} {v v' : Value} {F : List TokV} {o : TokV} (h : GathT X wr v F) (x : Ext wr V) (ho : w'.ownsRow 0 55 5 v' (F.length + 1) (flat tokCells F ++ tokCells o)) (hm : Mods (ownL v) V w') (hb : v'.ownBlock = v.ownBlock ∨ v'.ownBlock = some V.heap.size) : GathT X w' v' (F ++ [o]) := by
  refine ⟨?_, fun b hb' => ?_, ext_mods (h.ext.trans x) hm (fun k hk => h.far k (mem_ownL hk))⟩
  · rw [flat_append, List.length_append]
    have e : flat tokCells [o] = tokCells o := by simp [flat]
    rw [e]
    exact ho
  · rcases hb with e | e
    · exact h.far b (e.symm.trans hb')
    · rw [e] at hb'
      injection hb' with hb'
      subst hb'
      exact Nat.le_trans h.ext.size x.size
/-- A slice that reads as these tokens. -/
def TokAt (w : World) (v : Value) (F : List TokV) : Prop := ∃ A c, v = .slice A F.length c ∧ F.length ≤ c ∧ El.Src w A F.length 5 (flat tokCells F)
theorem TokAt.ext {w w' : World} {v : Value} {F : List TokV} (h : TokAt w v F) (x : Ext w w') : TokAt w' v F := by
  obtain ⟨A, c, rfl, hc, hs⟩ := h
  exact ⟨A, c, rfl, hc, hs.ext x⟩
theorem GathT.slice {X wr : World} {v : Value} {F : List TokV} (h : GathT X wr v F) : TokAt wr v F := by
  obtain ⟨A, c, rfl⟩ := own_value h.own
  refine ⟨A, c, rfl, ?_, El.Src.of_own h.own⟩
  rcases h.own.2 with ⟨h1, h2⟩ | ⟨g, cap, cur, hv, _, _, hnc, _⟩
  · rw [h2]; omega
  · injection hv with _ _ hc
    subst hc
    exact hnc

theorem src_new2 (w : World) (o : Obj) (t : TokV) : El.Src ((w.alloc o).alloc (.cells #[.int .i64 t.kind, .string t.s, .int .i64 t.n, .int .i64 t.at_, .bool t.lay] 55)) (some ⟨w.heap.size + 1, 0, none⟩) 1 5 (tokCells t) := by
  have := El.Src.new (w.alloc o) #[.int .i64 t.kind, .string t.s, .int .i64 t.n, .int .i64 t.at_, .bool t.lay] 55 1 5 rfl
  rw [World.size_alloc] at this
  exact this

/-- What All hands back. -/
def AllOut (w : World) (x : List TokV × Nat × Int) (e : Ending) (w' : World) : Prop := ∃ v, e = .returned (.tuple #[v, .int .i64 (x.2.1 : Int), .int .i64 x.2.2]) ∧ TokAt w' v x.1 ∧ Ext w w'

theorem rScan_at {B : List UInt8} {i : Nat} {t : TokV} {k : Nat} {x : Int} (hs : scanS B i = (t, k, x)) (A : Option Addr) (cap : Nat) (w : World) (h : BytesAt w A B) (hi : i ≤ B.length) (hB : B.length ≤ 65536) (hcap : B.length ≤ cap) :
    Calls Tryz.prog 44 #[.slice A B.length cap, .int .i64 (i : Int)] w fun e w' => e = .returned (.tuple #[.agg #[.int .i64 t.kind, .string t.s, .int .i64 t.n, .int .i64 t.at_, .bool t.lay], .int .i64 (k : Int), .int .i64 x]) ∧ Ext w w' := by
  have := rScan_any A cap B i w h hi hB hcap
  rw [hs] at this
  exact this

set_option maxRecDepth 100000 in
set_option maxHeartbeats 4000000 in
theorem rAll_any (A : Option Addr) (cap : Nat) (B : List UInt8) (w : World) (h : BytesAt w A B) (hB : B.length ≤ 65536) (hcap : B.length ≤ cap) :
    Calls Tryz.prog 21 #[.slice A B.length cap] w (AllOut w (allS B)) := by
  obtain ⟨i1, hi1, hz0, hz1, hz2⟩ := infoP tokInfo
  have H := Lib.hid h
  clear h
  go_enter Tryz.func21, Tryz.ntmps21
  go_wp2_with fail
  go_loopw [5, 6] (fun v i wr => ∃ k : Nat, ∃ acc : List TokV, k ≤ B.length ∧ acc.length ≤ k ∧ i = .int .i64 k ∧ Hid (GathT w wr v acc) ∧ Hid (allS B = allT B k acc)) (fun _ i _ => B.length - (intOf i).toNat)
  case atStart => exact ⟨0, [], Nat.zero_le _, Nat.zero_le _, rfl, GathT.start w, rfl⟩
  case round =>
    obtain ⟨k, acc, hk, hak, rfl, HG, HS⟩ := hrel
    obtain ⟨A1, c1, rfl⟩ := own_value HG.out.own
    have HT := Lib.hid (allT_eq (acc := acc) hk)
    have h5 := scanS_err5 B k
    have hst := scanS_step (B := B) (i := k)
    have hle := scanS_le hk
    cases hsc : scanS B k with
    | mk t r =>
      obtain ⟨e, x⟩ := r
      have HC := Lib.hid (rScan_at hsc A cap wr (H.out.ext HG.out.ext) hk hB hcap)
      rw [hsc] at h5 hst hle
      have HSC := Lib.hid hsc
      simp only at h5 hst hle
      clear hsc
      rcases h5 with rfl | rfl | rfl | rfl | rfl
      · obtain ⟨he1, he2⟩ := hst rfl
        have HN := Lib.hid (HS.out.trans (HT.out.trans (show _ = allT B e (acc ++ [t]) from by rw [HSC.out]; rfl)))
        clear hst
        go_wp2_with (first | (go_at_call 44; refine HC.out.mono ?_; rintro e1 w' ⟨rfl, hx⟩; have kx := Lib.hid hx; clear hx) | (at_builtin; refine wpList_append_src (P := Tryz.prog) rfl _ _ 51 rfl 55 i1 _ 5 48 Tryz.underlying51 hi1 hz0 hz1 hz2 rfl (by omega) _ rfl _ _ _ rfl acc.length (flat tokCells acc) (own_ext HG.out.own ((kx.out.alloc _).alloc _)) (tokCells t) (src_new2 _ _ t) (tokCells_one t) (by unfold maxLen; omega) (by omega) ?_; intro v3 w3 ho3 hm3 hb3; have hG3 := Lib.hid (GathT.step HG.out ((kx.out.alloc _).alloc _) ho3 hm3 hb3); clear ho3 hm3 hb3))
        go_roundw
        case rel => exact ⟨e, acc ++ [t], he2, by simp; omega, rfl, hG3, HN.out⟩
        case measure => simp [intOf]; omega
      · have HN := Lib.hid (HS.out.trans (HT.out.trans (show _ = (([], e, 3) : List TokV × Nat × Int) from by rw [HSC.out]; rfl)))
        clear hst
        go_wp2_with (go_at_call 44; refine HC.out.mono ?_; rintro e1 w' ⟨rfl, hx⟩; have kx := Lib.hid hx; clear hx)
        go_ret3
        exact ⟨.slice none 0 0, by rw [HN.out] <;> rfl, by rw [HN.out]; exact (GathT.nil (Ext.refl _)).slice, (HG.out.ext.trans kx.out).alloc _⟩
      · have HN := Lib.hid (HS.out.trans (HT.out.trans (show _ = ((acc, e, 0) : List TokV × Nat × Int) from by rw [HSC.out]; rfl)))
        clear hst
        go_wp2_with (go_at_call 44; refine HC.out.mono ?_; rintro e1 w' ⟨rfl, hx⟩; have kx := Lib.hid hx; clear hx)
        go_ret3
        exact ⟨.slice A1 acc.length c1, by rw [HN.out] <;> rfl, by rw [HN.out]; exact HG.out.slice.ext (kx.out.alloc _), (HG.out.ext.trans kx.out).alloc _⟩
      · have HN := Lib.hid (HS.out.trans (HT.out.trans (show _ = (([], e, 80) : List TokV × Nat × Int) from by rw [HSC.out]; rfl)))
        clear hst
        go_wp2_with (go_at_call 44; refine HC.out.mono ?_; rintro e1 w' ⟨rfl, hx⟩; have kx := Lib.hid hx; clear hx)
        go_ret3
        exact ⟨.slice none 0 0, by rw [HN.out] <;> rfl, by rw [HN.out]; exact (GathT.nil (Ext.refl _)).slice, (HG.out.ext.trans kx.out).alloc _⟩
      · have HN := Lib.hid (HS.out.trans (HT.out.trans (show _ = (([], e, 81) : List TokV × Nat × Int) from by rw [HSC.out]; rfl)))
        clear hst
        go_wp2_with (go_at_call 44; refine HC.out.mono ?_; rintro e1 w' ⟨rfl, hx⟩; have kx := Lib.hid hx; clear hx)
        go_ret3
        exact ⟨.slice none 0 0, by rw [HN.out] <;> rfl, by rw [HN.out]; exact (GathT.nil (Ext.refl _)).slice, (HG.out.ext.trans kx.out).alloc _⟩

end Go.Proofs.YtgcdhffeacdegaaGreatDoor
