/- Layer 8, the library: FormatUint at base 16, of a byte. -/
import Derived.Test.YtlkpiigdmmhkpaaGreatDoorC11
import Derived.Test.YtlkpiigdmmhkpaaGreatDoorC06
import Derived.Test.YtlkpiigdmmhkpaaGreatDoorC03
import Derived.Test.YtlkpiigdmmhkpaaGreatDoorC07
import Derived.Test.YtlkpiigdmmhkpaaGreatDoorC10
import Derived.Lib.AppendIntMem
import Derived.Lib.ItoaLen
namespace Go.Proofs.YtlkpiigdmmhkpaaGreatDoor
open Go.RowKit Go.El

/-- What TrailingZeros reads at 16. -/
def TzAt (w : World) : Prop := w.cell? ⟨6, 15, none⟩ = some (.int .u8 4)

set_option maxRecDepth 100000 in
theorem pow_16 (w : World) : Calls Tryz.prog 106 #[.int .i64 16] w fun e w' => e = .returned (.bool true) ∧ w' = w := by
  go_enter Tryz.func106, Tryz.ntmps106
  go_wp2_with fail
  go_ret
  exact ⟨rfl, rfl⟩

set_option maxRecDepth 100000 in
theorem tz64_16 (w : World) (h : TzAt w) : Calls Tryz.prog 125 #[.int .u64 16] w fun e w' => e = .returned (.int .i64 4) ∧ w' = w := by
  unfold TzAt at h
  have e1 : bits BinOp.and IntKind.u64 16 (IntKind.u64.wrap (-16)) = 16 := by decide +kernel
  have e2 : IntKind.u64.wrap (16 * 285870213051353865) = 4573923408821661840 := by decide +kernel
  have e3 : (4573923408821661840 / 288230376151711744 : Int) = 15 := by decide +kernel
  have e4 : (15 : Int).toNat = 15 := rfl
  go_enter Tryz.func125, Tryz.ntmps125
  go_wp2_with fail
  go_ret
  exact ⟨rfl, rfl⟩

set_option maxRecDepth 100000 in
theorem tz_16 (w : World) (h : TzAt w) : Calls Tryz.prog 107 #[.int .u64 16] w fun e w' => e = .returned (.int .i64 4) ∧ w' = w := by
  go_enter Tryz.func107, Tryz.ntmps107
  go_wp2_with (go_at_call 125; refine (tz64_16 _ h).mono ?_; rintro e w' ⟨rfl, rfl⟩)
  go_ret
  exact ⟨rfl, rfl⟩

theorem zero91 : Tryz.zeroCells128 = Array.replicate 65 (.int .u8 0) := by kernel_rfl
theorem zero91_at (i : Nat) (h : i < 65) : Tryz.zeroCells128[i]? = some (.int .u8 0) := by
  rw [zero91, Array.getElem?_replicate, if_pos h]
theorem and_15 (n : Nat) (h : n < 256) : bits BinOp.and IntKind.u64 (n : Int) 15 = ((n % 16 : Nat) : Int) := by
  have key : ∀ n : Fin 256, bits BinOp.and IntKind.u64 ((n.val : Nat) : Int) 15 = ((n.val % 16 : Nat) : Int) := by decide +kernel
  exact key ⟨n, h⟩

theorem dig_lit (m : Nat) (hm : m < 16) (h : m < (⟨#[48, 49, 50, 51, 52, 53, 54, 55, 56, 57, 97, 98, 99, 100, 101, 102, 103, 104, 105, 106, 107, 108, 109, 110, 111, 112, 113, 114, 115, 116, 117, 118, 119, 120, 121, 122]⟩ : ByteArray).size) : ((⟨#[48, 49, 50, 51, 52, 53, 54, 55, 56, 57, 97, 98, 99, 100, 101, 102, 103, 104, 105, 106, 107, 108, 109, 110, 111, 112, 113, 114, 115, 116, 117, 118, 119, 120, 121, 122]⟩ : ByteArray)[m]'h).toNat = (hexD m).toNat := by
  have key : ∀ i : Fin 16, ((#[48, 49, 50, 51, 52, 53, 54, 55, 56, 57, 97, 98, 99, 100, 101, 102, 103, 104, 105, 106, 107, 108, 109, 110, 111, 112, 113, 114, 115, 116, 117, 118, 119, 120, 121, 122] : Array UInt8)[i.val]'(Nat.lt_trans i.isLt (by decide))).toNat = (hexD i.val).toNat := by decide +kernel
  exact key ⟨m, hm⟩

theorem conv1 {wr : World} {g : Nat} {cs : Array Value} (hB : Blk wr g 128 cs) (hz : 64 < cs.size) (m : Nat) (hm : m < 16) (h : m < (⟨#[48, 49, 50, 51, 52, 53, 54, 55, 56, 57, 97, 98, 99, 100, 101, 102, 103, 104, 105, 106, 107, 108, 109, 110, 111, 112, 113, 114, 115, 116, 117, 118, 119, 120, 121, 122]⟩ : ByteArray).size) : (convert 68 9 (.slice (some ⟨g, 64, none⟩) 1 1)).run Tryz.prog (wr.setCell ⟨g, 64, none⟩ (.int .u8 (((⟨#[48, 49, 50, 51, 52, 53, 54, 55, 56, 57, 97, 98, 99, 100, 101, 102, 103, 104, 105, 106, 107, 108, 109, 110, 111, 112, 113, 114, 115, 116, 117, 118, 119, 120, 121, 122]⟩ : ByteArray)[m]'h).toNat : Int))) = .ok (.string (strB [hexD m])) (wr.setCell ⟨g, 64, none⟩ (.int .u8 (((⟨#[48, 49, 50, 51, 52, 53, 54, 55, 56, 57, 97, 98, 99, 100, 101, 102, 103, 104, 105, 106, 107, 108, 109, 110, 111, 112, 113, 114, 115, 116, 117, 118, 119, 120, 121, 122]⟩ : ByteArray)[m]'h).toNat : Int))) := by
  refine run_convert_bytes_back _ 68 9 5 ⟨g, 64, none⟩ 1 [hexD m] Tryz.underlying68 Tryz.underlying5 Tryz.underlying9 fun j hj => ?_
  have hj0 : j = 0 := by simp at hj; omega
  subst hj0
  have := (hB.set_ 64 (.int .u8 (((⟨#[48, 49, 50, 51, 52, 53, 54, 55, 56, 57, 97, 98, 99, 100, 101, 102, 103, 104, 105, 106, 107, 108, 109, 110, 111, 112, 113, 114, 115, 116, 117, 118, 119, 120, 121, 122]⟩ : ByteArray)[m]'h).toNat : Int))).cell 64
  rw [Array.getElem?_setIfInBounds, if_pos rfl, if_pos hz, dig_lit m hm h] at this
  rw [dig_lit m hm h]
  simpa [Addr.add] using this

theorem conv2 {wr : World} {g : Nat} {cs : Array Value} {d : Nat} (hB : Blk wr g 128 cs) (hz : 64 < cs.size) (hd : cs[64]? = some (.int .u8 ((hexD d).toNat : Int))) (m : Nat) (hm : m < 16) (h : m < (⟨#[48, 49, 50, 51, 52, 53, 54, 55, 56, 57, 97, 98, 99, 100, 101, 102, 103, 104, 105, 106, 107, 108, 109, 110, 111, 112, 113, 114, 115, 116, 117, 118, 119, 120, 121, 122]⟩ : ByteArray).size) : (convert 68 9 (.slice (some ⟨g, 63, none⟩) 2 2)).run Tryz.prog (wr.setCell ⟨g, 63, none⟩ (.int .u8 (((⟨#[48, 49, 50, 51, 52, 53, 54, 55, 56, 57, 97, 98, 99, 100, 101, 102, 103, 104, 105, 106, 107, 108, 109, 110, 111, 112, 113, 114, 115, 116, 117, 118, 119, 120, 121, 122]⟩ : ByteArray)[m]'h).toNat : Int))) = .ok (.string (strB [hexD m, hexD d])) (wr.setCell ⟨g, 63, none⟩ (.int .u8 (((⟨#[48, 49, 50, 51, 52, 53, 54, 55, 56, 57, 97, 98, 99, 100, 101, 102, 103, 104, 105, 106, 107, 108, 109, 110, 111, 112, 113, 114, 115, 116, 117, 118, 119, 120, 121, 122]⟩ : ByteArray)[m]'h).toNat : Int))) := by
  refine run_convert_bytes_back _ 68 9 5 ⟨g, 63, none⟩ 2 [hexD m, hexD d] Tryz.underlying68 Tryz.underlying5 Tryz.underlying9 fun j hj => ?_
  have hj0 : j = 0 ∨ j = 1 := by simp at hj; omega
  have h3 := (hB.set_ 63 (.int .u8 (((⟨#[48, 49, 50, 51, 52, 53, 54, 55, 56, 57, 97, 98, 99, 100, 101, 102, 103, 104, 105, 106, 107, 108, 109, 110, 111, 112, 113, 114, 115, 116, 117, 118, 119, 120, 121, 122]⟩ : ByteArray)[m]'h).toNat : Int))).cell 63
  have h4 := (hB.set_ 63 (.int .u8 (((⟨#[48, 49, 50, 51, 52, 53, 54, 55, 56, 57, 97, 98, 99, 100, 101, 102, 103, 104, 105, 106, 107, 108, 109, 110, 111, 112, 113, 114, 115, 116, 117, 118, 119, 120, 121, 122]⟩ : ByteArray)[m]'h).toNat : Int))).cell 64
  rw [Array.getElem?_setIfInBounds, if_pos rfl, if_pos (by omega), dig_lit m hm h] at h3
  rw [Array.getElem?_setIfInBounds, if_neg (by omega), hd, dig_lit m hm h] at h4
  rw [dig_lit m hm h]
  rcases hj0 with rfl | rfl
  · simpa [Addr.add] using h3
  · simpa [Addr.add] using h4

set_option maxRecDepth 100000 in
set_option maxHeartbeats 4000000 in
theorem bits_any (n : Nat) (hn : n < 256) (w : World) (h : TzAt w) : Calls Tryz.prog 88 #[.slice none 0 0, .int .u64 (n : Int), .int .i64 16, .bool false, .bool false] w fun e w' => e = .returned (.tuple #[.slice none 0 0, .string (strB (if n < 16 then [hexD n] else [hexD (n / 16), hexD (n % 16)]))]) ∧ Ext w w' := by
  have H := Lib.hid h
  clear h
  go_enter Tryz.func88, Tryz.ntmps88
  go_upto_region 4 with fail
  refine wp_abs (fun V => Hid (Blk V w.heap.size 128 Tryz.zeroCells128) ∧ Hid (Ext w V)) ⟨Blk.new w _ _, (Ext.refl w).alloc _⟩ ?_
  rintro V ⟨HB, HX⟩
  go_wp2_with (first | (go_at_call 106; refine (pow_16 _).mono ?_; rintro e w' ⟨rfl, rfl⟩) | (go_at_call 107; refine (tz_16 _ (HX.out.cell H.out)).mono ?_; rintro e w' ⟨rfl, rfl⟩))
  go_loopw [1, 13] (fun u i wr => ∃ m j : Nat, m < 256 ∧ u = .int .u64 m ∧ i = .int .i64 j ∧ ((m = n ∧ j = 65 ∧ Hid (Blk wr w.heap.size 128 Tryz.zeroCells128)) ∨ (16 ≤ n ∧ m = n / 16 ∧ j = 64 ∧ Hid (Blk wr w.heap.size 128 (Tryz.zeroCells128.setIfInBounds 64 (.int .u8 ((hexD (n % 16)).toNat : Int)))))) ∧ Hid (Ext w wr)) (fun _ i _ => (intOf i).toNat)
  case atStart => exact ⟨n, 65, hn, rfl, rfl, .inl ⟨rfl, rfl, HB.out⟩, HX.out⟩
  case round =>
    obtain ⟨m, j, hm, rfl, rfl, hor, HY⟩ := hrel
    rcases hor with ⟨rfl, rfl, HC⟩ | ⟨h16, rfl, rfl, HC⟩
    · by_cases hlt : m < 16
      · have hf := HC.out.frozen 64
        have hc := (HC.out.cell 64).trans (zero91_at 64 (by omega))
        have hcv := conv1 HC.out (by rw [zero91]; simp) m hlt
        go_wp2_with fail
        go_ret2
        refine ⟨?_, HY.out.setCell (Nat.le_refl _) _⟩
        (try rw [if_pos hlt])
        rfl
      · have hf := HC.out.frozen 64
        have hc := (HC.out.cell 64).trans (zero91_at 64 (by omega))
        have ha := and_15 m hm
        go_wp2_with fail
        go_roundw
        case rel =>
          refine ⟨m / 16, 64, by omega, by go_num, rfl, .inr ⟨by omega, rfl, rfl, ?_⟩, HY.out.setCell (Nat.le_refl _) _⟩
          rw [dig_lit (m % 16) (by omega)]
          exact HC.out.set_ 64 _
        case measure => simp [intOf]
    · have hlt : n / 16 < 16 := by omega
      have hf := HC.out.frozen 63
      have hc : wr.cell? ⟨w.heap.size, 63, none⟩ = some (.int .u8 0) := by
        rw [HC.out.cell 63, Array.getElem?_setIfInBounds, if_neg (by omega)]
        exact zero91_at 63 (by omega)
      have hcv := conv2 HC.out (by rw [Array.size_setIfInBounds, zero91]; simp) (d := n % 16) (by rw [Array.getElem?_setIfInBounds, if_pos rfl, if_pos (by rw [zero91]; simp)]) (n / 16) hlt
      go_wp2_with fail
      go_ret2
      have hn16 : ¬ n < 16 := by omega
      refine ⟨?_, HY.out.setCell (Nat.le_refl _) _⟩
      (try rw [if_neg hn16])
      rfl

set_option maxRecDepth 100000 in
theorem ifmt_any (n : Nat) (hn : n < 256) (w : World) (h : TzAt w) : Calls Tryz.prog 84 #[.int .u64 (n : Int), .int .i64 16] w fun e w' => e = .returned (.string (strB (if n < 16 then [hexD n] else [hexD (n / 16), hexD (n % 16)]))) ∧ Ext w w' := by
  have HF := Lib.hid (bits_any n hn w h)
  generalize (if n < 16 then [hexD n] else [hexD (n / 16), hexD (n % 16)]) = s at *
  go_enter Tryz.func84, Tryz.ntmps84
  go_wp2_with (go_at_call 88; refine HF.out.mono ?_; rintro e w' ⟨rfl, hx⟩; have HX := Lib.hid hx; clear hx)
  go_ret
  exact ⟨rfl, HX.out⟩

set_option maxRecDepth 100000 in
theorem fmt_any (n : Nat) (hn : n < 256) (w : World) (h : TzAt w) : Calls Tryz.prog 66 #[.int .u64 (n : Int), .int .i64 16] w fun e w' => e = .returned (.string (strB (if n < 16 then [hexD n] else [hexD (n / 16), hexD (n % 16)]))) ∧ Ext w w' := by
  have HF := Lib.hid (ifmt_any n hn w h)
  generalize (if n < 16 then [hexD n] else [hexD (n / 16), hexD (n % 16)]) = s at *
  go_enter Tryz.func66, Tryz.ntmps66
  go_wp2_with (go_at_call 84; refine HF.out.mono ?_; rintro e w' ⟨rfl, hx⟩; have HX := Lib.hid hx; clear hx)
  go_ret
  exact ⟨rfl, HX.out⟩

end Go.Proofs.YtlkpiigdmmhkpaaGreatDoor

/- Layer 16: the tables that the calls read; Itoa, reg. -/
namespace Go.Proofs.YtlkpiigdmmhkpaaGreatDoor
open Go.RowKit Go.El

noncomputable def pwName : String := (Tryz.prog.globals[2]?).elim "" (·.name)
theorem pwNamed : Tryz.prog.globalNamed pwName = some 2 := by kernel_rfl
/-- The package's tables, as the calls read them. -/
structure Env (w : World) : Prop where
  ops : OpTabAt w
  glob : Glob w
  tz : TzAt w
  pw : Lib.TabIs Tryz.prog w pwName .u64 Lib.pow10Tab
  syn : ∃ te pe, w.cell? ⟨3, 0, none⟩ = some (.iface te pe)
theorem var_ext {w w' : World} {n : String} {g : Nat} (hg : Tryz.prog.globalNamed n = some g) (hm : Ext w w') {cs : Array Value} (h : w.var? Tryz.prog n = some cs) :
    w'.var? Tryz.prog n = some cs := by
  unfold World.var? at h ⊢
  simp only [hg, Option.bind_some] at h ⊢
  have hlt : g < w.heap.size := by
    rcases Nat.lt_or_ge g w.heap.size with h' | h'
    · exact h'
    · simp [Array.getElem?_eq_none h'] at h
  rw [hm.block g hlt]
  exact h
theorem Env.ext {w w' : World} (h : Env w) (x : Ext w w') : Env w' := by
  obtain ⟨te, pe, hs⟩ := h.syn
  exact ⟨h.ops.ext x, h.glob.ext x, x.cell h.tz, var_ext pwNamed x h.pw, te, pe, x.cell hs⟩
theorem itoa_calls (n : Int) (h0 : -9223372036854775808 ≤ n) (h1 : n ≤ 9223372036854775807) (w : World) (he : Env w) :
    Calls Tryz.prog 20 #[.int .i64 n] w fun e w' => e = .returned (.string (strB (Lib.itoa n))) ∧ Ext w w' := by
  refine (Tryz.strconv_Itoa n h0 h1 w he.pw).mono ?_
  rintro e w' ⟨rfl, k, os, rfl⟩
  exact ⟨rfl, Lib.below_grow _ w (Nat.le_refl _) k os⟩

set_option maxRecDepth 100000 in
theorem reg_any (v : Int) (w : World) (he : Env w) (hv : -64 ≤ v) (hv2 : v ≤ 255) :
    Calls Tryz.prog 18 #[.int .i64 v] w fun e w' => e = .returned (.string (strB (regT v))) ∧ Ext w w' := by
  by_cases h : v < 0
  · have HI := Lib.hid (itoa_calls (-v) (by omega) (by omega) w he)
    have HR : Hid (strB (regT v) = ⟨#[89]⟩ ++ strB (Lib.itoa (-v))) := by
      unfold regT
      rw [if_pos h]
      rfl
    have hbig : ¬ 9223372036854775807 < 1 + (strB (Lib.itoa (-v))).size := by
      rw [strB_size]
      have := Lib.itoa_length_le (-v) (by omega) (by omega)
      omega
    generalize strB (regT v) = r at *
    generalize strB (Lib.itoa (-v)) = q at *
    clear he
    go_enter Tryz.func18, Tryz.ntmps18
    go_wp2_with (go_at_call 20; refine HI.out.mono ?_; rintro e W1 ⟨rfl, hx⟩; have HX := Lib.hid hx; clear hx)
    go_ret
    exact ⟨by rw [HR.out]; rfl, HX.out⟩
  · have HI := Lib.hid (itoa_calls v (by omega) (by omega) w he)
    have HR : Hid (strB (regT v) = ⟨#[88]⟩ ++ strB (Lib.itoa v)) := by
      unfold regT
      rw [if_neg h]
      rfl
    have hbig : ¬ 9223372036854775807 < 1 + (strB (Lib.itoa v)).size := by
      rw [strB_size]
      have := Lib.itoa_length_le v (by omega) (by omega)
      omega
    generalize strB (regT v) = r at *
    generalize strB (Lib.itoa v) = q at *
    clear he
    go_enter Tryz.func18, Tryz.ntmps18
    go_wp2_with (go_at_call 20; refine HI.out.mono ?_; rintro e W1 ⟨rfl, hx⟩; have HX := Lib.hid hx; clear hx)
    go_ret
    exact ⟨by rw [HR.out]; rfl, HX.out⟩
end Go.Proofs.YtlkpiigdmmhkpaaGreatDoor
