/- Layer 8, the reference: the walk of one at a quote; one, whole. -/
import Derived.Test.YtmnnhdegoapfcaaGreatDoorC24
import Derived.Test.YtmnnhdegoapfcaaGreatDoorC04
import Derived.Test.YtmnnhdegoapfcaaGreatDoorC22
namespace Go.Proofs.YtmnnhdegoapfcaaGreatDoor
open Go.RowKit Go.El

theorem cell_set_ne {w : World} {p q : Addr} {v : Value} (h : p.block ≠ q.block) : (w.setCell p v).cell? q = w.cell? q := by
  exact World.cell?_of_block (Below.heap_setCell w p v q.block (Ne.symm h))

set_option maxRecDepth 100000 in
set_option maxHeartbeats 4000000 in
theorem rOne_quote (b off cap : Nat) (B : List UInt8) (i : Nat) (c : UInt8) (w : World) (h : OneAt b off cap B i c w) (hk : c = 39) :
    Calls Tryz.prog 214 #[.slice (some ⟨b, off, none⟩) B.length cap, .int .i64 (i : Int)] w fun e w' => e = .returned (oneV i (oneS B i c)) ∧ Ext w w' := by
  have hlt := h.lt
  have hcap := h.cap
  have hB := h.len
  have d0 := h.cells i c h.at_
  have d1 : ∀ o, (w.alloc o).cell? ⟨b, off + i, none⟩ = some (.int .u8 (c.toNat : Int)) := fun o => (ext_box w o).cell d0
  have hci : ¬ cap = i := by omega
  have hsm : smallN c.toNat = false := by rw [hk]; rfl
  have hsg : hasB signS c = false := by rw [hk]; rfl
  have hwd : wordN c.toNat = false := by rw [hk]; rfl
  have hd1 : c.toNat < 48 := by rw [hk]; decide
  have q46 : ((c.toNat : Int) == (46 : Int)) = false := by rw [hk]; rfl
  have q33 : ((c.toNat : Int) == (33 : Int)) = false := by rw [hk]; rfl
  have q59 : ((c.toNat : Int) == (59 : Int)) = false := by rw [hk]; rfl
  have q40 : ((c.toNat : Int) == (40 : Int)) = false := by rw [hk]; rfl
  have q41 : ((c.toNat : Int) == (41 : Int)) = false := by rw [hk]; rfl
  have q91 : ((c.toNat : Int) == (91 : Int)) = false := by rw [hk]; rfl
  have q93 : ((c.toNat : Int) == (93 : Int)) = false := by rw [hk]; rfl
  have q123 : ((c.toNat : Int) == (123 : Int)) = false := by rw [hk]; rfl
  have q125 : ((c.toNat : Int) == (125 : Int)) = false := by rw [hk]; rfl
  have q44 : ((c.toNat : Int) == (44 : Int)) = false := by rw [hk]; rfl
  have q124 : ((c.toNat : Int) == (124 : Int)) = false := by rw [hk]; rfl
  have q39 : ((c.toNat : Int) == (39 : Int)) = true := by rw [hk]; rfl
  have HS : Hid (oneS B i c = match quoS B (i + 1) [] with | none => .error 80 | some (s, e) => nameS 2 s e) := by rw [hk]; exact oneS_quote
  have HR := fun x y => Lib.hid (rQuoted_any b off cap B i ((w.alloc x).alloc y) (h.src.ext (ext_box2 _ _ _)) hlt hB)
  cases hq : quoS B (i + 1) [] with
  | none =>
    have HN := Lib.hid (HS.out.trans (by rw [hq]))
    have HQ := Lib.hid hq
    clear hq h hk HS
    go_enter Tryz.func214, Tryz.ntmps214
    go_wp2_with (first | (go_at_call 151; refine (rSmall_any _ _).mono ?_; rintro e w' ⟨rfl, rfl⟩) | (go_at_call 153; refine (rSign_any _ _).mono ?_; rintro e w' ⟨rfl, rfl⟩) | (go_at_call 152; refine (rWord_any _ _).mono ?_; rintro e w' ⟨rfl, rfl⟩) | (go_at_call 237; refine (HR _ _).out.mono ?_; rw [HQ.out]; simp only [quoV]; rintro e w' ⟨rfl, hx⟩; have ka := ((Blk.new w 186 #[.int .i64 0, .string ⟨#[]⟩, .int .i64 0, .int .i64 0, .bool false]).alloc _).ext hx; have kac := ka.cell; have kaf := ka.frozen; have kx := Lib.hid ((ext_box2 w _ _).trans hx); have KA := Lib.hid ka; clear ka hx))
    have kb := ((((KA.out.set_ 0 (.int .i64 0)).set_ 1 (.string ⟨#[]⟩)).set_ 2 (.int .i64 0)).set_ 3 (.int .i64 0)).set_ 4 (.bool false)
    have kc := kb.cell
    refine bodyPost_ret (v := oneV i (oneS B i c)) ?_ rfl ⟨rfl, ((((kx.out.setCell (Nat.le_refl _) _).setCell (Nat.le_refl _) _).setCell (Nat.le_refl _) _).setCell (Nat.le_refl _) _).setCell (Nat.le_refl _) _⟩
    rw [HN.out]
    simp [results, Tryz.results214, go_sem, oneV, tokV_eq, zeroT, kc]
  | some p =>
    obtain ⟨s, e⟩ := p
    have hN1 : 64 < s.length → oneS B i c = .error 3 := fun g => HS.out.trans (by rw [hq]; exact nameS_long g)
    have hN2 : ¬ 64 < s.length → oneS B i c = .ok (2, s, 0, e) := fun g => HS.out.trans (by rw [hq]; exact nameS_ok g)
    have HQ := Lib.hid hq
    have hsz := strB_size s
    clear hq h hk HS
    by_cases hlong : 64 < s.length
    · have HN := Lib.hid (hN1 hlong)
      clear hN1 hN2
      generalize hsn : strB s = z at hsz
      have HZ := Lib.hid hsn
      clear hsn
      go_enter Tryz.func214, Tryz.ntmps214
      go_wp2_with (first | (go_at_call 151; refine (rSmall_any _ _).mono ?_; rintro e w' ⟨rfl, rfl⟩) | (go_at_call 153; refine (rSign_any _ _).mono ?_; rintro e w' ⟨rfl, rfl⟩) | (go_at_call 152; refine (rWord_any _ _).mono ?_; rintro e w' ⟨rfl, rfl⟩) | (go_at_call 237; refine (HR _ _).out.mono ?_; rw [HQ.out]; simp only [quoV]; rw [HZ.out]; rintro e1 w' ⟨rfl, hx⟩; have ka := ((Blk.new w 186 #[.int .i64 0, .string ⟨#[]⟩, .int .i64 0, .int .i64 0, .bool false]).alloc _).ext hx; have kb := (Blk.new (w.alloc (.cells #[.int .i64 0, .string ⟨#[]⟩, .int .i64 0, .int .i64 0, .bool false] 186)) 186 #[.int .i64 0, .string ⟨#[]⟩, .int .i64 0, .int .i64 (i : Int), .bool false]).ext hx; rw [World.size_alloc] at kb; have kac := ka.cell; have kaf := ka.frozen; have kbc := kb.cell; have kbf := kb.frozen; have kx := Lib.hid ((ext_box2 w _ _).trans hx); have KA := Lib.hid ka; have KB := Lib.hid kb; clear ka kb hx))
      have kb := ((((((KA.out.far (p := ⟨w.heap.size + 1, 0, none⟩) (show w.heap.size ≠ w.heap.size + 1 by omega) (.int .i64 2)).far (p := ⟨w.heap.size + 1, 1, none⟩) (show w.heap.size ≠ w.heap.size + 1 by omega) (.string z)).set_ 0 (.int .i64 0)).set_ 1 (.string ⟨#[]⟩)).set_ 2 (.int .i64 0)).set_ 3 (.int .i64 0)).set_ 4 (.bool false)
      have kc := kb.cell
      refine bodyPost_ret (v := oneV i (oneS B i c)) ?_ rfl ⟨rfl, ((((((kx.out.setCell (p := ⟨w.heap.size + 1, 0, none⟩) (Nat.le_succ _) (.int .i64 2)).setCell (p := ⟨w.heap.size + 1, 1, none⟩) (Nat.le_succ _) (.string z)).setCell (p := ⟨w.heap.size, 0, none⟩) (Nat.le_refl _) (.int .i64 0)).setCell (p := ⟨w.heap.size, 1, none⟩) (Nat.le_refl _) (.string ⟨#[]⟩)).setCell (p := ⟨w.heap.size, 2, none⟩) (Nat.le_refl _) (.int .i64 0)).setCell (p := ⟨w.heap.size, 3, none⟩) (Nat.le_refl _) (.int .i64 0)).setCell (p := ⟨w.heap.size, 4, none⟩) (Nat.le_refl _) (.bool false)⟩
      rw [HN.out]
      simp [results, Tryz.results214, go_sem, oneV, tokV_eq, zeroT, kc]
    · have HN := Lib.hid (hN2 hlong)
      clear hN1 hN2
      generalize hsn : strB s = z at hsz
      have HZ := Lib.hid hsn
      clear hsn
      go_enter Tryz.func214, Tryz.ntmps214
      go_wp2_with (first | (go_at_call 151; refine (rSmall_any _ _).mono ?_; rintro e w' ⟨rfl, rfl⟩) | (go_at_call 153; refine (rSign_any _ _).mono ?_; rintro e w' ⟨rfl, rfl⟩) | (go_at_call 152; refine (rWord_any _ _).mono ?_; rintro e w' ⟨rfl, rfl⟩) | (go_at_call 237; refine (HR _ _).out.mono ?_; rw [HQ.out]; simp only [quoV]; rw [HZ.out]; rintro e1 w' ⟨rfl, hx⟩; have ka := ((Blk.new w 186 #[.int .i64 0, .string ⟨#[]⟩, .int .i64 0, .int .i64 0, .bool false]).alloc _).ext hx; have kb := (Blk.new (w.alloc (.cells #[.int .i64 0, .string ⟨#[]⟩, .int .i64 0, .int .i64 0, .bool false] 186)) 186 #[.int .i64 0, .string ⟨#[]⟩, .int .i64 0, .int .i64 (i : Int), .bool false]).ext hx; rw [World.size_alloc] at kb; have kac := ka.cell; have kaf := ka.frozen; have kbc := kb.cell; have kbf := kb.frozen; have kx := Lib.hid ((ext_box2 w _ _).trans hx); have KA := Lib.hid ka; have KB := Lib.hid kb; clear ka kb hx))
      have kb := ((((((KA.out.far (p := ⟨w.heap.size + 1, 0, none⟩) (show w.heap.size ≠ w.heap.size + 1 by omega) (.int .i64 2)).far (p := ⟨w.heap.size + 1, 1, none⟩) (show w.heap.size ≠ w.heap.size + 1 by omega) (.string z)).set_ 0 (.int .i64 2)).set_ 1 (.string z)).set_ 2 (.int .i64 0)).set_ 3 (.int .i64 (i : Int))).set_ 4 (.bool false)
      have kc := kb.cell
      refine bodyPost_ret (v := oneV i (oneS B i c)) ?_ rfl ⟨rfl, ((((((kx.out.setCell (p := ⟨w.heap.size + 1, 0, none⟩) (Nat.le_succ _) (.int .i64 2)).setCell (p := ⟨w.heap.size + 1, 1, none⟩) (Nat.le_succ _) (.string z)).setCell (p := ⟨w.heap.size, 0, none⟩) (Nat.le_refl _) (.int .i64 2)).setCell (p := ⟨w.heap.size, 1, none⟩) (Nat.le_refl _) (.string z)).setCell (p := ⟨w.heap.size, 2, none⟩) (Nat.le_refl _) (.int .i64 0)).setCell (p := ⟨w.heap.size, 3, none⟩) (Nat.le_refl _) (.int .i64 (i : Int))).setCell (p := ⟨w.heap.size, 4, none⟩) (Nat.le_refl _) (.bool false)⟩
      rw [HN.out]
      simp [results, Tryz.results214, go_sem, oneV, tokV_eq, HZ.out, kc]

theorem rOne_any (b off cap : Nat) (B : List UInt8) (i : Nat) (c : UInt8) (w : World) (h : OneAt b off cap B i c w) :
    Calls Tryz.prog 214 #[.slice (some ⟨b, off, none⟩) B.length cap, .int .i64 (i : Int)] w fun e w' => e = .returned (oneV i (oneS B i c)) ∧ Ext w w' := by
  rcases byte_kinds c with hk | hk | hk | hk | hk | hk | hk | hk | hk
  · by_cases h1 : i + 1 < B.length
    · have hd : B[i + 1]? = some B[i + 1] := List.getElem?_eq_getElem h1
      generalize B[i + 1] = d at hd
      cases hb : isBlank d
      · by_cases h37 : d = 37
        · exact rOne_end2 b off cap B i c w h ⟨hk, d, hd, hb, h37⟩
        · exact rOne_dot b off cap B i c w h ⟨hk, d, hd, hb, h37⟩
      · exact rOne_end1 b off cap B i c w h ⟨hk, d, hd, hb⟩
    · exact rOne_end0 b off cap B i c w h ⟨hk, by omega⟩
  · exact rOne_small b off cap B i c w h hk
  · exact rOne_sign b off cap B i c w h hk
  · rcases hk with hk | hk
    · exact rOne_s33 b off cap B i c w h hk
    · exact rOne_s59 b off cap B i c w h hk
  · exact rOne_digit b off cap B i c w h hk
  · exact rOne_great b off cap B i c w h hk
  · have : c = 40 ∨ c = 41 ∨ c = 91 ∨ c = 93 ∨ c = 123 ∨ c = 125 ∨ c = 44 ∨ c = 124 := by simpa [isPunct, or_assoc] using hk
    rcases this with hk | hk | hk | hk | hk | hk | hk | hk
    · exact rOne_p40 b off cap B i c w h hk
    · exact rOne_p41 b off cap B i c w h hk
    · exact rOne_p91 b off cap B i c w h hk
    · exact rOne_p93 b off cap B i c w h hk
    · exact rOne_p123 b off cap B i c w h hk
    · exact rOne_p125 b off cap B i c w h hk
    · exact rOne_p44 b off cap B i c w h hk
    · exact rOne_p124 b off cap B i c w h hk
  · exact rOne_quote b off cap B i c w h hk
  · exact rOne_other b off cap B i c w h hk

end Go.Proofs.YtmnnhdegoapfcaaGreatDoor

/- Layer 8, the reference: the walk of Scan. -/
namespace Go.Proofs.YtmnnhdegoapfcaaGreatDoor
open Go.RowKit Go.El

def scanV (x : TokV × Nat × Int) : Value := .tuple #[tokV x.1, .int .i64 (x.2.1 : Int), .int .i64 x.2.2]
theorem rSkip_at {B : List UInt8} {i k : Nat} {ok : Bool} (hs : skipTo B i = (k, ok)) (A : Option Addr) (cap : Nat) (w : World) (h : BytesAt w A B) (hi : i ≤ B.length) (hB : B.length ≤ 70000) :
    Calls Tryz.prog 213 #[.slice A B.length cap, .int .i64 (i : Int)] w fun e w' => e = .returned (.tuple #[.int .i64 (k : Int), .bool ok]) ∧ w = w' := by
  have := rSkip_any A cap B i w h hi hB
  rw [hs] at this
  exact this
theorem rOne_err {B : List UInt8} {k : Nat} {c : UInt8} {x : Int} (ho : oneS B k c = .error x) (b off cap : Nat) (w : World) (h : OneAt b off cap B k c w) :
    Calls Tryz.prog 214 #[.slice (some ⟨b, off, none⟩) B.length cap, .int .i64 (k : Int)] w fun e w' => e = .returned (.tuple #[.agg #[.int .i64 0, .string ⟨#[]⟩, .int .i64 0, .int .i64 0, .bool false], .int .i64 (k : Int), .int .i64 x]) ∧ Ext w w' := by
  have := rOne_any b off cap B k c w h
  rw [ho] at this
  exact this
theorem rOne_ok {B : List UInt8} {k : Nat} {c : UInt8} {kd : Int} {s : List UInt8} {n : Int} {e : Nat} (ho : oneS B k c = .ok (kd, s, n, e)) (b off cap : Nat) (w : World) (h : OneAt b off cap B k c w) :
    Calls Tryz.prog 214 #[.slice (some ⟨b, off, none⟩) B.length cap, .int .i64 (k : Int)] w fun e1 w' => e1 = .returned (.tuple #[.agg #[.int .i64 kd, .string (strB s), .int .i64 n, .int .i64 (k : Int), .bool false], .int .i64 (e : Int), .int .i64 0]) ∧ Ext w w' := by
  have := rOne_any b off cap B k c w h
  rw [ho] at this
  exact this
/-- A zero token's block, in a later world. -/
theorem zero_blk {w w' : World} (hx : Ext (w.alloc (.cells #[.int .i64 0, .string ⟨#[]⟩, .int .i64 0, .int .i64 0, .bool false] 186)) w') : Blk w' w.heap.size 186 #[.int .i64 0, .string ⟨#[]⟩, .int .i64 0, .int .i64 0, .bool false] := (Blk.new w 186 _).ext hx
theorem blk_set5 {w : World} {g : Nat} {t : TypeId} {a b c d e : Value} (h : Blk w g t #[a, b, c, d, e]) (a' b' c' d' e' : Value) : Blk (((((w.setCell ⟨g, 0, none⟩ a').setCell ⟨g, 1, none⟩ b').setCell ⟨g, 2, none⟩ c').setCell ⟨g, 3, none⟩ d').setCell ⟨g, 4, none⟩ e') g t #[a', b', c', d', e'] :=
  ((((h.set_ 0 a').set_ 1 b').set_ 2 c').set_ 3 d').set_ 4 e'
theorem ext_set5 {w w' : World} (h : Ext w w') {g : Nat} (hg : w.heap.size ≤ g) (a' b' c' d' e' : Value) : Ext w (((((w'.setCell ⟨g, 0, none⟩ a').setCell ⟨g, 1, none⟩ b').setCell ⟨g, 2, none⟩ c').setCell ⟨g, 3, none⟩ d').setCell ⟨g, 4, none⟩ e') :=
  (((((h.setCell (p := ⟨g, 0, none⟩) hg a').setCell (p := ⟨g, 1, none⟩) hg b').setCell (p := ⟨g, 2, none⟩) hg c').setCell (p := ⟨g, 3, none⟩) hg d').setCell (p := ⟨g, 4, none⟩) hg e')

set_option maxRecDepth 100000 in
set_option maxHeartbeats 4000000 in
theorem rScan_any (A : Option Addr) (cap : Nat) (B : List UInt8) (i : Nat) (w : World) (h : BytesAt w A B) (hi : i ≤ B.length) (hB : B.length ≤ 65536) (hcap : B.length ≤ cap) :
    Calls Tryz.prog 176 #[.slice A B.length cap, .int .i64 (i : Int)] w fun e w' => e = .returned (scanV (scanS B i)) ∧ Ext w w' := by
  have hskip := fun {k ok} (hs : skipTo B i = (k, ok)) => rSkip_at hs A cap (w.alloc (.cells #[.int .i64 0, .string ⟨#[]⟩, .int .i64 0, .int .i64 0, .bool false] 186)) (h.ext (ext_box _ _)) hi (by omega)
  have hib : ¬ B.length < i := by omega
  have hbig : ¬ 65536 < B.length := by omega
  rcases scanS_cases B i with ⟨k, hs, hn⟩ | ⟨k, hs, hk, hn⟩ | ⟨k, c, x, hs, hk, ho, hn⟩ | ⟨k, c, kd, s, n, e, hs, hk, ho, hn⟩
  · have HK := Lib.hid (hskip hs)
    have HN := Lib.hid hn
    clear hn hs hskip h
    go_enter Tryz.func176, Tryz.ntmps176
    go_wp2_with (go_at_call 213; refine HK.out.mono ?_; rintro e w' ⟨rfl, rfl⟩)
    refine bodyPost_ret (v := scanV (scanS B i)) ?_ rfl ⟨rfl, ext_box _ _⟩
    rw [HN.out]
    simp [results, Tryz.results176, go_sem, scanV, tokV_eq, zeroT]
  · have HK := Lib.hid (hskip hs)
    have hkl : k = B.length := by
      have h1 := skipTo_le hi
      rw [hs] at h1
      have h2 := List.getElem?_eq_none_iff.1 hk
      simp only at h1
      omega
    subst hkl
    have HN := Lib.hid hn
    clear hn hs hskip h hk
    go_enter Tryz.func176, Tryz.ntmps176
    go_wp2_with (go_at_call 213; refine HK.out.mono ?_; rintro e w' ⟨rfl, rfl⟩)
    refine bodyPost_ret (v := scanV (scanS B i)) ?_ rfl ⟨rfl, ext_box _ _⟩
    rw [HN.out]
    simp [results, Tryz.results176, go_sem, scanV, tokV_eq, zeroT]
  · have HK := Lib.hid (hskip hs)
    have HN := Lib.hid hn
    have hkl : k < B.length := (List.getElem?_eq_some_iff.1 hk).1
    have hke : ((k : Int) == (B.length : Int)) = false := by simp; omega
    obtain ⟨b, off, rfl, _⟩ := bytes_at h hkl
    have HO := Lib.hid (rOne_err ho b off cap (w.alloc (.cells #[.int .i64 0, .string ⟨#[]⟩, .int .i64 0, .int .i64 0, .bool false] 186)) ⟨h.ext (ext_box _ _), hk, by omega, hcap⟩)
    have hx3 := oneS_err ho
    clear hn hs hskip h hk ho
    rcases hx3 with rfl | rfl | rfl
    all_goals
      go_enter Tryz.func176, Tryz.ntmps176
      go_wp2_with (first | (go_at_call 213; refine HK.out.mono ?_; rintro e w' ⟨rfl, rfl⟩) | (go_at_call 214; refine HO.out.mono ?_; rintro e w' ⟨rfl, hx⟩; have ka := zero_blk hx; have kac := ka.cell; have kaf := ka.frozen; have hne : w'.heap.size ≠ w.heap.size := (Nat.ne_of_gt ka.lt); have hlt2 : w.heap.size < w'.heap.size := ka.lt; have kaa := fun o => (ka.alloc o).cell; have kff := fun o => (ka.alloc o).frozen; have kx := Lib.hid ((ext_box w _).trans hx); have KA := Lib.hid ka; clear ka hx))
      have kb := (blk_set5 KA.out (.int .i64 0) (.string ⟨#[]⟩) (.int .i64 0) (.int .i64 0) (.bool false)).alloc (.cells #[.int .i64 0, .string ⟨#[]⟩, .int .i64 0, .int .i64 0, .bool false] 186)
      have kc := kb.cell
      refine bodyPost_ret (v := scanV (scanS B i)) ?_ rfl ⟨rfl, (ext_set5 kx.out (Nat.le_refl _) _ _ _ _ _).alloc _⟩
      rw [HN.out]
      simp [results, Tryz.results176, go_sem, scanV, tokV_eq, zeroT, kc]
  · have HK := Lib.hid (hskip hs)
    have HN := Lib.hid hn
    have hkl : k < B.length := (List.getElem?_eq_some_iff.1 hk).1
    have hke : ((k : Int) == (B.length : Int)) = false := by simp; omega
    obtain ⟨b, off, rfl, _⟩ := bytes_at h hkl
    have HO := Lib.hid (rOne_ok ho b off cap (w.alloc (.cells #[.int .i64 0, .string ⟨#[]⟩, .int .i64 0, .int .i64 0, .bool false] 186)) ⟨h.ext (ext_box _ _), hk, by omega, hcap⟩)
    clear hn hs hskip h hk ho
    have hlay : decide ((i : Int) < (k : Int)) = decide (i < k) := by simp
    generalize hz : strB s = z at HO
    have HZ := Lib.hid hz
    clear hz
    go_enter Tryz.func176, Tryz.ntmps176
    go_wp2_with (first | (go_at_call 213; refine HK.out.mono ?_; rintro e w' ⟨rfl, rfl⟩) | (go_at_call 214; refine HO.out.mono ?_; rintro e w' ⟨rfl, hx⟩; have ka := zero_blk hx; have kac := ka.cell; have kaf := ka.frozen; have hne : w'.heap.size ≠ w.heap.size := (Nat.ne_of_gt ka.lt); have hlt2 : w.heap.size < w'.heap.size := ka.lt; have kaa := fun o => (ka.alloc o).cell; have kff := fun o => (ka.alloc o).frozen; have kx := Lib.hid ((ext_box w _).trans hx); have KA := Lib.hid ka; clear ka hx))
    have kb := (blk_set5 KA.out (.int .i64 kd) (.string z) (.int .i64 n) (.int .i64 k) (.bool (decide (i < k)))).alloc (.cells #[.int .i64 kd, .string z, .int .i64 n, .int .i64 k, .bool (decide (i < k))] 186)
    have kc := kb.cell
    refine bodyPost_ret (v := scanV (scanS B i)) ?_ rfl ⟨rfl, (ext_set5 kx.out (Nat.le_refl _) _ _ _ _ _).alloc _⟩
    have hv : scanV (scanS B i) = .tuple #[.agg #[.int .i64 kd, .string z, .int .i64 n, .int .i64 (k : Int), .bool (decide (i < k))], .int .i64 (e : Int), .int .i64 0] := by
      rw [HN.out, ← HZ.out]
      rfl
    rw [hv]
    simp [results, Tryz.results176, go_sem, kc]

end Go.Proofs.YtmnnhdegoapfcaaGreatDoor

/- Layer 8, the program: the walks of alone, ends, integer. -/
namespace Go.Proofs.YtmnnhdegoapfcaaGreatDoor
open Go.RowKit Go.El

/-- The blocks that a scanner stands on are older than a call. -/
structure Old (w : World) (sb b : Nat) : Prop where
  ls : sb < w.heap.size
  lb : b < w.heap.size
  lm : 1 < w.heap.size
  le : 3 < w.heap.size
theorem ScIn.set {w wr : World} {sb b off cap : Nat} {B : List UInt8} {k : Nat} (h : ScIn w wr sb b off cap B k) (o : Old w sb b) {p : Addr} (hp : w.heap.size ≤ p.block) (v : Value) : ScIn w (wr.setCell p v) sb b off cap B k := by
  have hm : Mods [p.block] wr (wr.setCell p v) := (Mods.refl _ wr).setCell (.inl (by simp)) v
  have hno : ∀ y, y < w.heap.size → y ∉ [p.block] := fun y hy hm => by rw [List.mem_singleton] at hm; omega
  exact ⟨h.sc.far hm (hno _ o.ls) (hno _ o.lb) (hno _ o.lm) (hno _ o.le), Mods.step h.mods hm (fun y hy => .inr (by rw [List.mem_singleton] at hy; omega))⟩
theorem ScIn.set5 {w wr : World} {sb b off cap : Nat} {B : List UInt8} {k : Nat} (h : ScIn w wr sb b off cap B k) (o : Old w sb b) {g : Nat} (hg : w.heap.size ≤ g) (a' b' c' d' e' : Value) : ScIn w (((((wr.setCell ⟨g, 0, none⟩ a').setCell ⟨g, 1, none⟩ b').setCell ⟨g, 2, none⟩ c').setCell ⟨g, 3, none⟩ d').setCell ⟨g, 4, none⟩ e') sb b off cap B k :=
  ((((h.set o (p := ⟨g, 0, none⟩) hg a').set o (p := ⟨g, 1, none⟩) hg b').set o (p := ⟨g, 2, none⟩) hg c').set o (p := ⟨g, 3, none⟩) hg d').set o (p := ⟨g, 4, none⟩) hg e'
/-- A zero token's block, behind a scanner's moves. -/
theorem zero_in {w w' : World} {sb : Nat} (hs : sb < w.heap.size) (hm : Mods [sb] (w.alloc (.cells #[.int .i64 0, .string ⟨#[]⟩, .int .i64 0, .int .i64 0, .bool false] 186)) w') : Blk w' w.heap.size 186 #[.int .i64 0, .string ⟨#[]⟩, .int .i64 0, .int .i64 0, .bool false] :=
  (Blk.new w 186 _).mods hm (by simp; omega)

set_option maxRecDepth 100000 in
set_option maxHeartbeats 4000000 in
theorem alone_any (sb b off cap : Nat) (B : List UInt8) (i : Nat) (c : UInt8) (w : World) (h : ScAt w sb b off cap B i) (ho : B[i]? = some c) :
    Calls Tryz.prog 209 #[.pointer (some ⟨sb, 0, none⟩)] w fun e w' => e = .returned (.string (strB [c])) ∧ ScIn w w' sb b off cap B (i + 1) := by
  have d1 := h.c0
  have d2 := h.c1
  have f2 := h.frozen
  have hlt : i < B.length := (List.getElem?_eq_some_iff.1 ho).1
  have hcp := h.cap
  have hlen := h.len
  have HS := Lib.hid ((ScIn.start h).to (j := i + 1) (v := (i : Int) + 1) hlt (by omega))
  have HO := Lib.hid ho
  clear h ho
  go_enter Tryz.func209, Tryz.ntmps209
  go_upto_region 2 with fail
  refine wp_abs (fun V => ScIn w V sb b off cap B (i + 1)) HS.out ?_
  clear d1 d2 f2 HS
  rintro V hV
  have d1 := hV.sc.c0
  have d2 := hV.sc.c1
  have hcv := fun n => (hV.drewN n).sc.conv i (i + 1) (by omega) hlt
  rw [sub_one HO.out] at hcv
  have e1 : i + 1 - i = 1 := by omega
  rw [e1] at hcv
  have hci : ¬ cap = i := by omega
  have hm1 : ((i + 1 : Nat) : Int) - 1 = (i : Int) := by omega
  have hm2 : (i : Int) + 1 - 1 = (i : Int) := by omega
  have hw1 : IntKind.i64.wrap (i : Int) = (i : Int) := IntWalk.i64_in _ (by omega)
  have hce : i + 1 ≤ cap := by omega
  generalize hgs : strB [c] = z at hcv
  have HZ := Lib.hid hgs
  have HV := Lib.hid hV
  clear hgs hV
  go_quiet (fail)
  go_wp2_with fail
  go_ret
  exact ⟨by rw [HZ.out]; rfl, HV.out.drewN _⟩

end Go.Proofs.YtmnnhdegoapfcaaGreatDoor
