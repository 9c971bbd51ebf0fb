/- Layer 8, the reference: the walk of Scan. -/
import Derived.Test.YtgjdajkkncdhmaaDoorRT8
import Derived.Test.YtgjdajkkncdhmaaDoorT08
namespace Go.Proofs.YtgjdajkkncdhmaaDoor
open Go.RowKit Go.El

def scanV (x : TokV × Nat × Int) : Value := .tuple #[tokV x.1, .int .i64 (x.2.1 : Int), .int .i64 x.2.2]
theorem rSkip_at {B : List UInt8} {i k : Nat} {ok : Bool} (hs : skipTo B i = (k, ok)) (A : Option Addr) (cap : Nat) (w : World) (h : BytesAt w A B) (hi : i ≤ B.length) (hB : B.length ≤ 70000) :
    Calls Tryd.prog 29 #[.slice A B.length cap, .int .i64 (i : Int)] w fun e w' => e = .returned (.tuple #[.int .i64 (k : Int), .bool ok]) ∧ w = w' := by
  have := rSkip_any A cap B i w h hi hB
  rw [hs] at this
  exact this
theorem rOne_err {B : List UInt8} {k : Nat} {c : UInt8} {x : Int} (ho : oneS B k c = .error x) (b off cap : Nat) (w : World) (h : OneAt b off cap B k c w) :
    Calls Tryd.prog 30 #[.slice (some ⟨b, off, none⟩) B.length cap, .int .i64 (k : Int)] w fun e w' => e = .returned (.tuple #[.agg #[.int .i64 0, .string ⟨#[]⟩, .int .i64 0, .int .i64 0, .bool false], .int .i64 (k : Int), .int .i64 x]) ∧ Ext w w' := by
  have := rOne_any b off cap B k c w h
  rw [ho] at this
  exact this
theorem rOne_ok {B : List UInt8} {k : Nat} {c : UInt8} {kd : Int} {s : List UInt8} {n : Int} {e : Nat} (ho : oneS B k c = .ok (kd, s, n, e)) (b off cap : Nat) (w : World) (h : OneAt b off cap B k c w) :
    Calls Tryd.prog 30 #[.slice (some ⟨b, off, none⟩) B.length cap, .int .i64 (k : Int)] w fun e1 w' => e1 = .returned (.tuple #[.agg #[.int .i64 kd, .string (strB s), .int .i64 n, .int .i64 (k : Int), .bool false], .int .i64 (e : Int), .int .i64 0]) ∧ Ext w w' := by
  have := rOne_any b off cap B k c w h
  rw [ho] at this
  exact this
/-- A zero token's block, in a later world. -/
theorem zero_blk {w w' : World} (hx : Ext (w.alloc (.cells #[.int .i64 0, .string ⟨#[]⟩, .int .i64 0, .int .i64 0, .bool false] 30)) w') : Blk w' w.heap.size 30 #[.int .i64 0, .string ⟨#[]⟩, .int .i64 0, .int .i64 0, .bool false] := (Blk.new w 30 _).ext hx
theorem blk_set5 {w : World} {g : Nat} {t : TypeId} {a b c d e : Value} (h : Blk w g t #[a, b, c, d, e]) (a' b' c' d' e' : Value) : Blk (((((w.setCell ⟨g, 0, none⟩ a').setCell ⟨g, 1, none⟩ b').setCell ⟨g, 2, none⟩ c').setCell ⟨g, 3, none⟩ d').setCell ⟨g, 4, none⟩ e') g t #[a', b', c', d', e'] :=
  ((((h.set_ 0 a').set_ 1 b').set_ 2 c').set_ 3 d').set_ 4 e'
theorem ext_set5 {w w' : World} (h : Ext w w') {g : Nat} (hg : w.heap.size ≤ g) (a' b' c' d' e' : Value) : Ext w (((((w'.setCell ⟨g, 0, none⟩ a').setCell ⟨g, 1, none⟩ b').setCell ⟨g, 2, none⟩ c').setCell ⟨g, 3, none⟩ d').setCell ⟨g, 4, none⟩ e') :=
  (((((h.setCell (p := ⟨g, 0, none⟩) hg a').setCell (p := ⟨g, 1, none⟩) hg b').setCell (p := ⟨g, 2, none⟩) hg c').setCell (p := ⟨g, 3, none⟩) hg d').setCell (p := ⟨g, 4, none⟩) hg e')

set_option maxRecDepth 100000 in
set_option maxHeartbeats 4000000 in
theorem rScan_any (A : Option Addr) (cap : Nat) (B : List UInt8) (i : Nat) (w : World) (h : BytesAt w A B) (hi : i ≤ B.length) (hB : B.length ≤ 65536) (hcap : B.length ≤ cap) :
    Calls Tryd.prog 16 #[.slice A B.length cap, .int .i64 (i : Int)] w fun e w' => e = .returned (scanV (scanS B i)) ∧ Ext w w' := by
  have hskip := fun {k ok} (hs : skipTo B i = (k, ok)) => rSkip_at hs A cap (w.alloc (.cells #[.int .i64 0, .string ⟨#[]⟩, .int .i64 0, .int .i64 0, .bool false] 30)) (h.ext (ext_box _ _)) hi (by omega)
  have hib : ¬ B.length < i := by omega
  have hbig : ¬ 65536 < B.length := by omega
  rcases scanS_cases B i with ⟨k, hs, hn⟩ | ⟨k, hs, hk, hn⟩ | ⟨k, c, x, hs, hk, ho, hn⟩ | ⟨k, c, kd, s, n, e, hs, hk, ho, hn⟩
  · have HK := Lib.hid (hskip hs)
    have HN := Lib.hid hn
    clear hn hs hskip h
    go_enter Tryd.func16, Tryd.ntmps16
    go_wp2_with (go_at_call 29; refine HK.out.mono ?_; rintro e w' ⟨rfl, rfl⟩)
    refine bodyPost_ret (v := scanV (scanS B i)) ?_ rfl ⟨rfl, ext_box _ _⟩
    rw [HN.out]
    simp [results, Tryd.results16, go_sem, scanV, tokV_eq, zeroT]
  · have HK := Lib.hid (hskip hs)
    have hkl : k = B.length := by
      have h1 := skipTo_le hi
      rw [hs] at h1
      have h2 := List.getElem?_eq_none_iff.1 hk
      simp only at h1
      omega
    subst hkl
    have HN := Lib.hid hn
    clear hn hs hskip h hk
    go_enter Tryd.func16, Tryd.ntmps16
    go_wp2_with (go_at_call 29; refine HK.out.mono ?_; rintro e w' ⟨rfl, rfl⟩)
    refine bodyPost_ret (v := scanV (scanS B i)) ?_ rfl ⟨rfl, ext_box _ _⟩
    rw [HN.out]
    simp [results, Tryd.results16, go_sem, scanV, tokV_eq, zeroT]
  · have HK := Lib.hid (hskip hs)
    have HN := Lib.hid hn
    have hkl : k < B.length := (List.getElem?_eq_some_iff.1 hk).1
    have hke : ((k : Int) == (B.length : Int)) = false := by simp; omega
    obtain ⟨b, off, rfl, _⟩ := bytes_at h hkl
    have HO := Lib.hid (rOne_err ho b off cap (w.alloc (.cells #[.int .i64 0, .string ⟨#[]⟩, .int .i64 0, .int .i64 0, .bool false] 30)) ⟨h.ext (ext_box _ _), hk, by omega, hcap⟩)
    have hx3 := oneS_err ho
    clear hn hs hskip h hk ho
    rcases hx3 with rfl | rfl | rfl
    all_goals
      go_enter Tryd.func16, Tryd.ntmps16
      go_wp2_with (first | (go_at_call 29; refine HK.out.mono ?_; rintro e w' ⟨rfl, rfl⟩) | (go_at_call 30; refine HO.out.mono ?_; rintro e w' ⟨rfl, hx⟩; have ka := zero_blk hx; have kac := ka.cell; have kaf := ka.frozen; have hne : w'.heap.size ≠ w.heap.size := (Nat.ne_of_gt ka.lt); have hlt2 : w.heap.size < w'.heap.size := ka.lt; have kaa := fun o => (ka.alloc o).cell; have kff := fun o => (ka.alloc o).frozen; have kx := Lib.hid ((ext_box w _).trans hx); have KA := Lib.hid ka; clear ka hx))
      have kb := (blk_set5 KA.out (.int .i64 0) (.string ⟨#[]⟩) (.int .i64 0) (.int .i64 0) (.bool false)).alloc (.cells #[.int .i64 0, .string ⟨#[]⟩, .int .i64 0, .int .i64 0, .bool false] 30)
      have kc := kb.cell
      refine bodyPost_ret (v := scanV (scanS B i)) ?_ rfl ⟨rfl, (ext_set5 kx.out (Nat.le_refl _) _ _ _ _ _).alloc _⟩
      rw [HN.out]
      simp [results, Tryd.results16, go_sem, scanV, tokV_eq, zeroT, kc]
  · have HK := Lib.hid (hskip hs)
    have HN := Lib.hid hn
    have hkl : k < B.length := (List.getElem?_eq_some_iff.1 hk).1
    have hke : ((k : Int) == (B.length : Int)) = false := by simp; omega
    obtain ⟨b, off, rfl, _⟩ := bytes_at h hkl
    have HO := Lib.hid (rOne_ok ho b off cap (w.alloc (.cells #[.int .i64 0, .string ⟨#[]⟩, .int .i64 0, .int .i64 0, .bool false] 30)) ⟨h.ext (ext_box _ _), hk, by omega, hcap⟩)
    clear hn hs hskip h hk ho
    have hlay : decide ((i : Int) < (k : Int)) = decide (i < k) := by simp
    generalize hz : strB s = z at HO
    have HZ := Lib.hid hz
    clear hz
    go_enter Tryd.func16, Tryd.ntmps16
    go_wp2_with (first | (go_at_call 29; refine HK.out.mono ?_; rintro e w' ⟨rfl, rfl⟩) | (go_at_call 30; refine HO.out.mono ?_; rintro e w' ⟨rfl, hx⟩; have ka := zero_blk hx; have kac := ka.cell; have kaf := ka.frozen; have hne : w'.heap.size ≠ w.heap.size := (Nat.ne_of_gt ka.lt); have hlt2 : w.heap.size < w'.heap.size := ka.lt; have kaa := fun o => (ka.alloc o).cell; have kff := fun o => (ka.alloc o).frozen; have kx := Lib.hid ((ext_box w _).trans hx); have KA := Lib.hid ka; clear ka hx))
    have kb := (blk_set5 KA.out (.int .i64 kd) (.string z) (.int .i64 n) (.int .i64 k) (.bool (decide (i < k)))).alloc (.cells #[.int .i64 kd, .string z, .int .i64 n, .int .i64 k, .bool (decide (i < k))] 30)
    have kc := kb.cell
    refine bodyPost_ret (v := scanV (scanS B i)) ?_ rfl ⟨rfl, (ext_set5 kx.out (Nat.le_refl _) _ _ _ _ _).alloc _⟩
    have hv : scanV (scanS B i) = .tuple #[.agg #[.int .i64 kd, .string z, .int .i64 n, .int .i64 (k : Int), .bool (decide (i < k))], .int .i64 (e : Int), .int .i64 0] := by
      rw [HN.out, ← HZ.out]
      rfl
    rw [hv]
    simp [results, Tryd.results16, go_sem, kc]

end Go.Proofs.YtgjdajkkncdhmaaDoor
