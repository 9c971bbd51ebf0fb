/- Layer 8, the library: FormatUint at base 16, of a byte. -/
import Derived.Test.YtnedihbffiddpaaGreatDoorWB
namespace Go.Proofs.YtnedihbffiddpaaGreatDoor
open Go.RowKit Go.El

/-- What TrailingZeros reads at 16. -/
def TzAt (w : World) : Prop := w.cell? ⟨4, 15, none⟩ = some (.int .u8 4)

set_option maxRecDepth 100000 in
theorem pow_16 (w : World) : Calls Tryz.prog 120 #[.int .i64 16] w fun e w' => e = .returned (.bool true) ∧ w' = w := by
  go_enter Tryz.func120, Tryz.ntmps120
  go_wp2_with fail
  go_ret
  exact ⟨rfl, rfl⟩

set_option maxRecDepth 100000 in
theorem tz64_16 (w : World) (h : TzAt w) : Calls Tryz.prog 125 #[.int .u64 16] w fun e w' => e = .returned (.int .i64 4) ∧ w' = w := by
  unfold TzAt at h
  have e1 : bits BinOp.and IntKind.u64 16 (IntKind.u64.wrap (-16)) = 16 := by decide +kernel
  have e2 : IntKind.u64.wrap (16 * 285870213051353865) = 4573923408821661840 := by decide +kernel
  have e3 : (4573923408821661840 / 288230376151711744 : Int) = 15 := by decide +kernel
  have e4 : (15 : Int).toNat = 15 := rfl
  go_enter Tryz.func125, Tryz.ntmps125
  go_wp2_with fail
  go_ret
  exact ⟨rfl, rfl⟩

set_option maxRecDepth 100000 in
theorem tz_16 (w : World) (h : TzAt w) : Calls Tryz.prog 121 #[.int .u64 16] w fun e w' => e = .returned (.int .i64 4) ∧ w' = w := by
  go_enter Tryz.func121, Tryz.ntmps121
  go_wp2_with (go_at_call 125; refine (tz64_16 _ h).mono ?_; rintro e w' ⟨rfl, rfl⟩)
  go_ret
  exact ⟨rfl, rfl⟩

theorem zero91 : Tryz.zeroCells139 = Array.replicate 65 (.int .u8 0) := by kernel_rfl
theorem zero91_at (i : Nat) (h : i < 65) : Tryz.zeroCells139[i]? = some (.int .u8 0) := by
  rw [zero91, Array.getElem?_replicate, if_pos h]
theorem and_15 (n : Nat) (h : n < 256) : bits BinOp.and IntKind.u64 (n : Int) 15 = ((n % 16 : Nat) : Int) := by
  have key : ∀ n : Fin 256, bits BinOp.and IntKind.u64 ((n.val : Nat) : Int) 15 = ((n.val % 16 : Nat) : Int) := by decide +kernel
  exact key ⟨n, h⟩

theorem dig_lit (m : Nat) (hm : m < 16) (h : m < (⟨#[48, 49, 50, 51, 52, 53, 54, 55, 56, 57, 97, 98, 99, 100, 101, 102, 103, 104, 105, 106, 107, 108, 109, 110, 111, 112, 113, 114, 115, 116, 117, 118, 119, 120, 121, 122]⟩ : ByteArray).size) : ((⟨#[48, 49, 50, 51, 52, 53, 54, 55, 56, 57, 97, 98, 99, 100, 101, 102, 103, 104, 105, 106, 107, 108, 109, 110, 111, 112, 113, 114, 115, 116, 117, 118, 119, 120, 121, 122]⟩ : ByteArray)[m]'h).toNat = (hexD m).toNat := by
  have key : ∀ i : Fin 16, ((#[48, 49, 50, 51, 52, 53, 54, 55, 56, 57, 97, 98, 99, 100, 101, 102, 103, 104, 105, 106, 107, 108, 109, 110, 111, 112, 113, 114, 115, 116, 117, 118, 119, 120, 121, 122] : Array UInt8)[i.val]'(Nat.lt_trans i.isLt (by decide))).toNat = (hexD i.val).toNat := by decide +kernel
  exact key ⟨m, hm⟩

theorem conv1 {wr : World} {g : Nat} {cs : Array Value} (hB : Blk wr g 139 cs) (hz : 64 < cs.size) (m : Nat) (hm : m < 16) (h : m < (⟨#[48, 49, 50, 51, 52, 53, 54, 55, 56, 57, 97, 98, 99, 100, 101, 102, 103, 104, 105, 106, 107, 108, 109, 110, 111, 112, 113, 114, 115, 116, 117, 118, 119, 120, 121, 122]⟩ : ByteArray).size) : (convert 51 9 (.slice (some ⟨g, 64, none⟩) 1 1)).run Tryz.prog (wr.setCell ⟨g, 64, none⟩ (.int .u8 (((⟨#[48, 49, 50, 51, 52, 53, 54, 55, 56, 57, 97, 98, 99, 100, 101, 102, 103, 104, 105, 106, 107, 108, 109, 110, 111, 112, 113, 114, 115, 116, 117, 118, 119, 120, 121, 122]⟩ : ByteArray)[m]'h).toNat : Int))) = .ok (.string (strB [hexD m])) (wr.setCell ⟨g, 64, none⟩ (.int .u8 (((⟨#[48, 49, 50, 51, 52, 53, 54, 55, 56, 57, 97, 98, 99, 100, 101, 102, 103, 104, 105, 106, 107, 108, 109, 110, 111, 112, 113, 114, 115, 116, 117, 118, 119, 120, 121, 122]⟩ : ByteArray)[m]'h).toNat : Int))) := by
  refine run_convert_bytes_back _ 51 9 5 ⟨g, 64, none⟩ 1 [hexD m] Tryz.underlying51 Tryz.underlying5 Tryz.underlying9 fun j hj => ?_
  have hj0 : j = 0 := by simp at hj; omega
  subst hj0
  have := (hB.set_ 64 (.int .u8 (((⟨#[48, 49, 50, 51, 52, 53, 54, 55, 56, 57, 97, 98, 99, 100, 101, 102, 103, 104, 105, 106, 107, 108, 109, 110, 111, 112, 113, 114, 115, 116, 117, 118, 119, 120, 121, 122]⟩ : ByteArray)[m]'h).toNat : Int))).cell 64
  rw [Array.getElem?_setIfInBounds, if_pos rfl, if_pos hz, dig_lit m hm h] at this
  rw [dig_lit m hm h]
  simpa [Addr.add] using this

theorem conv2 {wr : World} {g : Nat} {cs : Array Value} {d : Nat} (hB : Blk wr g 139 cs) (hz : 64 < cs.size) (hd : cs[64]? = some (.int .u8 ((hexD d).toNat : Int))) (m : Nat) (hm : m < 16) (h : m < (⟨#[48, 49, 50, 51, 52, 53, 54, 55, 56, 57, 97, 98, 99, 100, 101, 102, 103, 104, 105, 106, 107, 108, 109, 110, 111, 112, 113, 114, 115, 116, 117, 118, 119, 120, 121, 122]⟩ : ByteArray).size) : (convert 51 9 (.slice (some ⟨g, 63, none⟩) 2 2)).run Tryz.prog (wr.setCell ⟨g, 63, none⟩ (.int .u8 (((⟨#[48, 49, 50, 51, 52, 53, 54, 55, 56, 57, 97, 98, 99, 100, 101, 102, 103, 104, 105, 106, 107, 108, 109, 110, 111, 112, 113, 114, 115, 116, 117, 118, 119, 120, 121, 122]⟩ : ByteArray)[m]'h).toNat : Int))) = .ok (.string (strB [hexD m, hexD d])) (wr.setCell ⟨g, 63, none⟩ (.int .u8 (((⟨#[48, 49, 50, 51, 52, 53, 54, 55, 56, 57, 97, 98, 99, 100, 101, 102, 103, 104, 105, 106, 107, 108, 109, 110, 111, 112, 113, 114, 115, 116, 117, 118, 119, 120, 121, 122]⟩ : ByteArray)[m]'h).toNat : Int))) := by
  refine run_convert_bytes_back _ 51 9 5 ⟨g, 63, none⟩ 2 [hexD m, hexD d] Tryz.underlying51 Tryz.underlying5 Tryz.underlying9 fun j hj => ?_
  have hj0 : j = 0 ∨ j = 1 := by simp at hj; omega
  have h3 := (hB.set_ 63 (.int .u8 (((⟨#[48, 49, 50, 51, 52, 53, 54, 55, 56, 57, 97, 98, 99, 100, 101, 102, 103, 104, 105, 106, 107, 108, 109, 110, 111, 112, 113, 114, 115, 116, 117, 118, 119, 120, 121, 122]⟩ : ByteArray)[m]'h).toNat : Int))).cell 63
  have h4 := (hB.set_ 63 (.int .u8 (((⟨#[48, 49, 50, 51, 52, 53, 54, 55, 56, 57, 97, 98, 99, 100, 101, 102, 103, 104, 105, 106, 107, 108, 109, 110, 111, 112, 113, 114, 115, 116, 117, 118, 119, 120, 121, 122]⟩ : ByteArray)[m]'h).toNat : Int))).cell 64
  rw [Array.getElem?_setIfInBounds, if_pos rfl, if_pos (by omega), dig_lit m hm h] at h3
  rw [Array.getElem?_setIfInBounds, if_neg (by omega), hd, dig_lit m hm h] at h4
  rw [dig_lit m hm h]
  rcases hj0 with rfl | rfl
  · simpa [Addr.add] using h3
  · simpa [Addr.add] using h4

set_option maxRecDepth 100000 in
set_option maxHeartbeats 4000000 in
theorem bits_any (n : Nat) (hn : n < 256) (w : World) (h : TzAt w) : Calls Tryz.prog 110 #[.slice none 0 0, .int .u64 (n : Int), .int .i64 16, .bool false, .bool false] w fun e w' => e = .returned (.tuple #[.slice none 0 0, .string (strB (if n < 16 then [hexD n] else [hexD (n / 16), hexD (n % 16)]))]) ∧ Ext w w' := by
  have H := Lib.hid h
  clear h
  go_enter Tryz.func110, Tryz.ntmps110
  go_upto_region 4 with fail
  refine wp_abs (fun V => Hid (Blk V w.heap.size 139 Tryz.zeroCells139) ∧ Hid (Ext w V)) ⟨Blk.new w _ _, (Ext.refl w).alloc _⟩ ?_
  rintro V ⟨HB, HX⟩
  go_wp2_with (first | (go_at_call 120; refine (pow_16 _).mono ?_; rintro e w' ⟨rfl, rfl⟩) | (go_at_call 121; refine (tz_16 _ (HX.out.cell H.out)).mono ?_; rintro e w' ⟨rfl, rfl⟩))
  go_loopw [1, 13] (fun u i wr => ∃ m j : Nat, m < 256 ∧ u = .int .u64 m ∧ i = .int .i64 j ∧ ((m = n ∧ j = 65 ∧ Hid (Blk wr w.heap.size 139 Tryz.zeroCells139)) ∨ (16 ≤ n ∧ m = n / 16 ∧ j = 64 ∧ Hid (Blk wr w.heap.size 139 (Tryz.zeroCells139.setIfInBounds 64 (.int .u8 ((hexD (n % 16)).toNat : Int)))))) ∧ Hid (Ext w wr)) (fun _ i _ => (intOf i).toNat)
  case atStart => exact ⟨n, 65, hn, rfl, rfl, .inl ⟨rfl, rfl, HB.out⟩, HX.out⟩
  case round =>
    obtain ⟨m, j, hm, rfl, rfl, hor, HY⟩ := hrel
    rcases hor with ⟨rfl, rfl, HC⟩ | ⟨h16, rfl, rfl, HC⟩
    · by_cases hlt : m < 16
      · have hf := HC.out.frozen 64
        have hc := (HC.out.cell 64).trans (zero91_at 64 (by omega))
        have hcv := conv1 HC.out (by rw [zero91]; simp) m hlt
        go_wp2_with fail
        go_ret2
        refine ⟨?_, HY.out.setCell (Nat.le_refl _) _⟩
        (try rw [if_pos hlt])
        rfl
      · have hf := HC.out.frozen 64
        have hc := (HC.out.cell 64).trans (zero91_at 64 (by omega))
        have ha := and_15 m hm
        go_wp2_with fail
        go_roundw
        case rel =>
          refine ⟨m / 16, 64, by omega, by go_num, rfl, .inr ⟨by omega, rfl, rfl, ?_⟩, HY.out.setCell (Nat.le_refl _) _⟩
          rw [dig_lit (m % 16) (by omega)]
          exact HC.out.set_ 64 _
        case measure => simp [intOf]
    · have hlt : n / 16 < 16 := by omega
      have hf := HC.out.frozen 63
      have hc : wr.cell? ⟨w.heap.size, 63, none⟩ = some (.int .u8 0) := by
        rw [HC.out.cell 63, Array.getElem?_setIfInBounds, if_neg (by omega)]
        exact zero91_at 63 (by omega)
      have hcv := conv2 HC.out (by rw [Array.size_setIfInBounds, zero91]; simp) (d := n % 16) (by rw [Array.getElem?_setIfInBounds, if_pos rfl, if_pos (by rw [zero91]; simp)]) (n / 16) hlt
      go_wp2_with fail
      go_ret2
      have hn16 : ¬ n < 16 := by omega
      refine ⟨?_, HY.out.setCell (Nat.le_refl _) _⟩
      (try rw [if_neg hn16])
      rfl

set_option maxRecDepth 100000 in
theorem ifmt_any (n : Nat) (hn : n < 256) (w : World) (h : TzAt w) : Calls Tryz.prog 111 #[.int .u64 (n : Int), .int .i64 16] w fun e w' => e = .returned (.string (strB (if n < 16 then [hexD n] else [hexD (n / 16), hexD (n % 16)]))) ∧ Ext w w' := by
  have HF := Lib.hid (bits_any n hn w h)
  generalize (if n < 16 then [hexD n] else [hexD (n / 16), hexD (n % 16)]) = s at *
  go_enter Tryz.func111, Tryz.ntmps111
  go_wp2_with (go_at_call 110; refine HF.out.mono ?_; rintro e w' ⟨rfl, hx⟩; have HX := Lib.hid hx; clear hx)
  go_ret
  exact ⟨rfl, HX.out⟩

set_option maxRecDepth 100000 in
theorem fmt_any (n : Nat) (hn : n < 256) (w : World) (h : TzAt w) : Calls Tryz.prog 94 #[.int .u64 (n : Int), .int .i64 16] w fun e w' => e = .returned (.string (strB (if n < 16 then [hexD n] else [hexD (n / 16), hexD (n % 16)]))) ∧ Ext w w' := by
  have HF := Lib.hid (ifmt_any n hn w h)
  generalize (if n < 16 then [hexD n] else [hexD (n / 16), hexD (n % 16)]) = s at *
  go_enter Tryz.func94, Tryz.ntmps94
  go_wp2_with (go_at_call 111; refine HF.out.mono ?_; rintro e w' ⟨rfl, hx⟩; have HX := Lib.hid hx; clear hx)
  go_ret
  exact ⟨rfl, HX.out⟩

end Go.Proofs.YtnedihbffiddpaaGreatDoor
