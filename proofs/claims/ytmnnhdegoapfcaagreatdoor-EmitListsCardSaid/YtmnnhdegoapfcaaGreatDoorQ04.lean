/- Layer 8, the library: FormatUint at base 16, of a byte. -/
import Derived.Test.YtmnnhdegoapfcaaGreatDoorQ03
import Derived.Test.YtmnnhdegoapfcaaGreatDoorQ02
import Derived.Lib.AppendIntMem
import Derived.Lib.ItoaLen
import Derived.Test.YtmnnhdegoapfcaaGreatDoorQ01
import Derived.Lib.SliceRun
import Derived.LaidEqlPtr
import Derived.Test.YtmnnhdegoapfcaaGreatDoorCards
import Derived.Test.YtmnnhdegoapfcaaGreatDoorTie
import Derived.Lay
import Derived.Shelf.Vars
import Derived.MakeChecks
import Derived.Lib.LaidTab
import Derived.IntWalk
namespace Go.Proofs.YtmnnhdegoapfcaaGreatDoor
open Go.RowKit Go.El
def TzAt (w : World) : Prop := w.cell? ⟨6, 15, none⟩ = some (.int .u8 4)
set_option maxRecDepth 100000 in
theorem pow_16 (w : World) : Calls Tryz.prog 217 #[.int .i64 16] w fun e w' => e = .returned (.bool true) ∧ w' = w := by
 go_enter Tryz.func217, Tryz.ntmps217
 go_wp2_with fail
 go_ret
 exact ⟨rfl, rfl⟩
set_option maxRecDepth 100000 in
theorem tz64_16 (w : World) (h : TzAt w) : Calls Tryz.prog 239 #[.int .u64 16] w fun e w' => e = .returned (.int .i64 4) ∧ w' = w := by
 unfold TzAt at h
 have e1 : bits BinOp.and IntKind.u64 16 (IntKind.u64.wrap (-16)) = 16 := by decide +kernel
 have e2 : IntKind.u64.wrap (16 * 285870213051353865) = 4573923408821661840 := by decide +kernel
 have e3 : (4573923408821661840 / 288230376151711744 : Int) = 15 := by decide +kernel
 have e4 : (15 : Int).toNat = 15 := rfl
 go_enter Tryz.func239, Tryz.ntmps239
 go_wp2_with fail
 go_ret
 exact ⟨rfl, rfl⟩
set_option maxRecDepth 100000 in
theorem tz_16 (w : World) (h : TzAt w) : Calls Tryz.prog 218 #[.int .u64 16] w fun e w' => e = .returned (.int .i64 4) ∧ w' = w := by
 go_enter Tryz.func218, Tryz.ntmps218
 go_wp2_with (go_at_call 239; refine (tz64_16 _ h).mono ?_; rintro e w' ⟨rfl, rfl⟩)
 go_ret
 exact ⟨rfl, rfl⟩
theorem zero91 : Tryz.zeroCells250 = Array.replicate 65 (.int .u8 0) := by kernel_rfl
theorem zero91_at (i : Nat) (h : i < 65) : Tryz.zeroCells250[i]? = some (.int .u8 0) := by
 rw [zero91, Array.getElem?_replicate, if_pos h]
theorem and_15 (n : Nat) (h : n < 256) : bits BinOp.and IntKind.u64 (n : Int) 15 = ((n % 16 : Nat) : Int) := by
 have key : ∀ n : Fin 256, bits BinOp.and IntKind.u64 ((n.val : Nat) : Int) 15 = ((n.val % 16 : Nat) : Int) := by decide +kernel
 exact key ⟨n, h⟩
theorem dig_lit (m : Nat) (hm : m < 16) (h : m < (⟨#[48, 49, 50, 51, 52, 53, 54, 55, 56, 57, 97, 98, 99, 100, 101, 102, 103, 104, 105, 106, 107, 108, 109, 110, 111, 112, 113, 114, 115, 116, 117, 118, 119, 120, 121, 122]⟩ : ByteArray).size) : ((⟨#[48, 49, 50, 51, 52, 53, 54, 55, 56, 57, 97, 98, 99, 100, 101, 102, 103, 104, 105, 106, 107, 108, 109, 110, 111, 112, 113, 114, 115, 116, 117, 118, 119, 120, 121, 122]⟩ : ByteArray)[m]'h).toNat = (hexD m).toNat := by
 have key : ∀ i : Fin 16, ((#[48, 49, 50, 51, 52, 53, 54, 55, 56, 57, 97, 98, 99, 100, 101, 102, 103, 104, 105, 106, 107, 108, 109, 110, 111, 112, 113, 114, 115, 116, 117, 118, 119, 120, 121, 122] : Array UInt8)[i.val]'(Nat.lt_trans i.isLt (by decide))).toNat = (hexD i.val).toNat := by decide +kernel
 exact key ⟨m, hm⟩
theorem conv1 {wr : World} {g : Nat} {cs : Array Value} (hB : Blk wr g 250 cs) (hz : 64 < cs.size) (m : Nat) (hm : m < 16) (h : m < (⟨#[48, 49, 50, 51, 52, 53, 54, 55, 56, 57, 97, 98, 99, 100, 101, 102, 103, 104, 105, 106, 107, 108, 109, 110, 111, 112, 113, 114, 115, 116, 117, 118, 119, 120, 121, 122]⟩ : ByteArray).size) : (convert 61 9 (.slice (some ⟨g, 64, none⟩) 1 1)).run Tryz.prog (wr.setCell ⟨g, 64, none⟩ (.int .u8 (((⟨#[48, 49, 50, 51, 52, 53, 54, 55, 56, 57, 97, 98, 99, 100, 101, 102, 103, 104, 105, 106, 107, 108, 109, 110, 111, 112, 113, 114, 115, 116, 117, 118, 119, 120, 121, 122]⟩ : ByteArray)[m]'h).toNat : Int))) = .ok (.string (strB [hexD m])) (wr.setCell ⟨g, 64, none⟩ (.int .u8 (((⟨#[48, 49, 50, 51, 52, 53, 54, 55, 56, 57, 97, 98, 99, 100, 101, 102, 103, 104, 105, 106, 107, 108, 109, 110, 111, 112, 113, 114, 115, 116, 117, 118, 119, 120, 121, 122]⟩ : ByteArray)[m]'h).toNat : Int))) := by
 refine run_convert_bytes_back _ 61 9 5 ⟨g, 64, none⟩ 1 [hexD m] Tryz.underlying61 Tryz.underlying5 Tryz.underlying9 fun j hj => ?_
 have hj0 : j = 0 := by simp at hj; omega
 subst hj0
 have := (hB.set_ 64 (.int .u8 (((⟨#[48, 49, 50, 51, 52, 53, 54, 55, 56, 57, 97, 98, 99, 100, 101, 102, 103, 104, 105, 106, 107, 108, 109, 110, 111, 112, 113, 114, 115, 116, 117, 118, 119, 120, 121, 122]⟩ : ByteArray)[m]'h).toNat : Int))).cell 64
 rw [Array.getElem?_setIfInBounds, if_pos rfl, if_pos hz, dig_lit m hm h] at this
 rw [dig_lit m hm h]
 simpa [Addr.add] using this
theorem conv2 {wr : World} {g : Nat} {cs : Array Value} {d : Nat} (hB : Blk wr g 250 cs) (hz : 64 < cs.size) (hd : cs[64]? = some (.int .u8 ((hexD d).toNat : Int))) (m : Nat) (hm : m < 16) (h : m < (⟨#[48, 49, 50, 51, 52, 53, 54, 55, 56, 57, 97, 98, 99, 100, 101, 102, 103, 104, 105, 106, 107, 108, 109, 110, 111, 112, 113, 114, 115, 116, 117, 118, 119, 120, 121, 122]⟩ : ByteArray).size) : (convert 61 9 (.slice (some ⟨g, 63, none⟩) 2 2)).run Tryz.prog (wr.setCell ⟨g, 63, none⟩ (.int .u8 (((⟨#[48, 49, 50, 51, 52, 53, 54, 55, 56, 57, 97, 98, 99, 100, 101, 102, 103, 104, 105, 106, 107, 108, 109, 110, 111, 112, 113, 114, 115, 116, 117, 118, 119, 120, 121, 122]⟩ : ByteArray)[m]'h).toNat : Int))) = .ok (.string (strB [hexD m, hexD d])) (wr.setCell ⟨g, 63, none⟩ (.int .u8 (((⟨#[48, 49, 50, 51, 52, 53, 54, 55, 56, 57, 97, 98, 99, 100, 101, 102, 103, 104, 105, 106, 107, 108, 109, 110, 111, 112, 113, 114, 115, 116, 117, 118, 119, 120, 121, 122]⟩ : ByteArray)[m]'h).toNat : Int))) := by
 refine run_convert_bytes_back _ 61 9 5 ⟨g, 63, none⟩ 2 [hexD m, hexD d] Tryz.underlying61 Tryz.underlying5 Tryz.underlying9 fun j hj => ?_
 have hj0 : j = 0 ∨ j = 1 := by simp at hj; omega
 have h3 := (hB.set_ 63 (.int .u8 (((⟨#[48, 49, 50, 51, 52, 53, 54, 55, 56, 57, 97, 98, 99, 100, 101, 102, 103, 104, 105, 106, 107, 108, 109, 110, 111, 112, 113, 114, 115, 116, 117, 118, 119, 120, 121, 122]⟩ : ByteArray)[m]'h).toNat : Int))).cell 63
 have h4 := (hB.set_ 63 (.int .u8 (((⟨#[48, 49, 50, 51, 52, 53, 54, 55, 56, 57, 97, 98, 99, 100, 101, 102, 103, 104, 105, 106, 107, 108, 109, 110, 111, 112, 113, 114, 115, 116, 117, 118, 119, 120, 121, 122]⟩ : ByteArray)[m]'h).toNat : Int))).cell 64
 rw [Array.getElem?_setIfInBounds, if_pos rfl, if_pos (by omega), dig_lit m hm h] at h3
 rw [Array.getElem?_setIfInBounds, if_neg (by omega), hd, dig_lit m hm h] at h4
 rw [dig_lit m hm h]
 rcases hj0 with rfl | rfl
 ·simpa [Addr.add] using h3
 ·simpa [Addr.add] using h4
set_option maxRecDepth 100000 in
set_option maxHeartbeats 4000000 in
theorem bits_any (n : Nat) (hn : n < 256) (w : World) (h : TzAt w) : Calls Tryz.prog 182 #[.slice none 0 0, .int .u64 (n : Int), .int .i64 16, .bool false, .bool false] w fun e w' => e = .returned (.tuple #[.slice none 0 0, .string (strB (if n < 16 then [hexD n] else [hexD (n / 16), hexD (n % 16)]))]) ∧ Ext w w' := by
 have H := Lib.hid h
 clear h
 go_enter Tryz.func182, Tryz.ntmps182
 go_upto_region 4 with fail
 refine wp_abs (fun V => Hid (Blk V w.heap.size 250 Tryz.zeroCells250) ∧ Hid (Ext w V)) ⟨Blk.new w _ _, (Ext.refl w).alloc _⟩ ?_
 rintro V ⟨HB, HX⟩
 go_wp2_with (first | (go_at_call 217; refine (pow_16 _).mono ?_; rintro e w' ⟨rfl, rfl⟩) | (go_at_call 218; refine (tz_16 _ (HX.out.cell H.out)).mono ?_; rintro e w' ⟨rfl, rfl⟩))
 go_loopw [1, 13] (fun u i wr => ∃ m j : Nat, m < 256 ∧ u = .int .u64 m ∧ i = .int .i64 j ∧ ((m = n ∧ j = 65 ∧ Hid (Blk wr w.heap.size 250 Tryz.zeroCells250)) ∨ (16 ≤ n ∧ m = n / 16 ∧ j = 64 ∧ Hid (Blk wr w.heap.size 250 (Tryz.zeroCells250.setIfInBounds 64 (.int .u8 ((hexD (n % 16)).toNat : Int)))))) ∧ Hid (Ext w wr)) (fun _ i _ => (intOf i).toNat)
 case atStart => exact ⟨n, 65, hn, rfl, rfl, .inl ⟨rfl, rfl, HB.out⟩, HX.out⟩
 case round =>
  obtain ⟨m, j, hm, rfl, rfl, hor, HY⟩ := hrel
  rcases hor with ⟨rfl, rfl, HC⟩ | ⟨h16, rfl, rfl, HC⟩
  ·by_cases hlt : m < 16
   ·have hf := HC.out.frozen 64
    have hc := (HC.out.cell 64).trans (zero91_at 64 (by omega))
    have hcv := conv1 HC.out (by rw [zero91]; simp) m hlt
    go_wp2_with fail
    go_ret2
    refine ⟨?_, HY.out.setCell (Nat.le_refl _) _⟩
    (try rw [if_pos hlt])
    rfl
   ·have hf := HC.out.frozen 64
    have hc := (HC.out.cell 64).trans (zero91_at 64 (by omega))
    have ha := and_15 m hm
    go_wp2_with fail
    go_roundw
    case rel =>
     refine ⟨m / 16, 64, by omega, by go_num, rfl, .inr ⟨by omega, rfl, rfl, ?_⟩, HY.out.setCell (Nat.le_refl _) _⟩
     rw [dig_lit (m % 16) (by omega)]
     exact HC.out.set_ 64 _
    case measure => simp [intOf]
  ·have hlt : n / 16 < 16 := by omega
   have hf := HC.out.frozen 63
   have hc : wr.cell? ⟨w.heap.size, 63, none⟩ = some (.int .u8 0) := by
    rw [HC.out.cell 63, Array.getElem?_setIfInBounds, if_neg (by omega)]
    exact zero91_at 63 (by omega)
   have hcv := conv2 HC.out (by rw [Array.size_setIfInBounds, zero91]; simp) (d := n % 16) (by rw [Array.getElem?_setIfInBounds, if_pos rfl, if_pos (by rw [zero91]; simp)]) (n / 16) hlt
   go_wp2_with fail
   go_ret2
   have hn16 : ¬ n < 16 := by omega
   refine ⟨?_, HY.out.setCell (Nat.le_refl _) _⟩
   (try rw [if_neg hn16])
   rfl
set_option maxRecDepth 100000 in
theorem ifmt_any (n : Nat) (hn : n < 256) (w : World) (h : TzAt w) : Calls Tryz.prog 178 #[.int .u64 (n : Int), .int .i64 16] w fun e w' => e = .returned (.string (strB (if n < 16 then [hexD n] else [hexD (n / 16), hexD (n % 16)]))) ∧ Ext w w' := by
 have HF := Lib.hid (bits_any n hn w h)
 generalize (if n < 16 then [hexD n] else [hexD (n / 16), hexD (n % 16)]) = s at *
 go_enter Tryz.func178, Tryz.ntmps178
 go_wp2_with (go_at_call 182; refine HF.out.mono ?_; rintro e w' ⟨rfl, hx⟩; have HX := Lib.hid hx; clear hx)
 go_ret
 exact ⟨rfl, HX.out⟩
set_option maxRecDepth 100000 in
theorem fmt_any (n : Nat) (hn : n < 256) (w : World) (h : TzAt w) : Calls Tryz.prog 148 #[.int .u64 (n : Int), .int .i64 16] w fun e w' => e = .returned (.string (strB (if n < 16 then [hexD n] else [hexD (n / 16), hexD (n % 16)]))) ∧ Ext w w' := by
 have HF := Lib.hid (ifmt_any n hn w h)
 generalize (if n < 16 then [hexD n] else [hexD (n / 16), hexD (n % 16)]) = s at *
 go_enter Tryz.func148, Tryz.ntmps148
 go_wp2_with (go_at_call 178; refine HF.out.mono ?_; rintro e w' ⟨rfl, hx⟩; have HX := Lib.hid hx; clear hx)
 go_ret
 exact ⟨rfl, HX.out⟩
end Go.Proofs.YtmnnhdegoapfcaaGreatDoor

/- Layer 16: the tables that the calls read; Itoa, reg. -/
namespace Go.Proofs.YtmnnhdegoapfcaaGreatDoor
open Go.RowKit Go.El
noncomputable def pwName : String := (Tryz.prog.globals[4]?).elim "" (·.name)
theorem pwNamed : Tryz.prog.globalNamed pwName = some 4 := by kernel_rfl
structure EnvT (w : World) : Prop where
 ops : OpTabAt w
 tz : TzAt w
 pw : Lib.TabIs Tryz.prog w pwName .u64 Lib.pow10Tab
theorem var_ext {w w' : World} {n : String} {g : Nat} (hg : Tryz.prog.globalNamed n = some g) (hm : Ext w w') {cs : Array Value} (h : w.var? Tryz.prog n = some cs) :
  w'.var? Tryz.prog n = some cs := by
 unfold World.var? at h ⊢
 simp only [hg, Option.bind_some] at h ⊢
 have hlt : g < w.heap.size := by
  rcases Nat.lt_or_ge g w.heap.size with h' | h'
  ·exact h'
  ·simp [Array.getElem?_eq_none h'] at h
 rw [hm.block g hlt]
 exact h
theorem EnvT.ext {w w' : World} (h : EnvT w) (x : Ext w w') : EnvT w' := ⟨h.ops.ext x, x.cell h.tz, var_ext pwNamed x h.pw⟩
theorem itoa_calls (n : Int) (h0 : -9223372036854775808 ≤ n) (h1 : n ≤ 9223372036854775807) (w : World) (he : EnvT w) :
  Calls Tryz.prog 70 #[.int .i64 n] w fun e w' => e = .returned (.string (strB (Lib.itoa n))) ∧ Ext w w' := by
 refine (Tryz.strconv_Itoa n h0 h1 w he.pw).mono ?_
 rintro e w' ⟨rfl, k, os, rfl⟩
 exact ⟨rfl, Lib.below_grow _ w (Nat.le_refl _) k os⟩
set_option maxRecDepth 100000 in
theorem reg_any (v : Int) (w : World) (he : EnvT w) (hv : -64 ≤ v) (hv2 : v ≤ 255) :
  Calls Tryz.prog 68 #[.int .i64 v] w fun e w' => e = .returned (.string (strB (regT v))) ∧ Ext w w' := by
 by_cases h : v < 0
 ·have HI := Lib.hid (itoa_calls (-v) (by omega) (by omega) w he)
  have HR : Hid (strB (regT v) = ⟨#[89]⟩ ++ strB (Lib.itoa (-v))) := by
   unfold regT
   rw [if_pos h]
   rfl
  have hbig : ¬ 9223372036854775807 < 1 + (strB (Lib.itoa (-v))).size := by
   rw [strB_size]
   have := Lib.itoa_length_le (-v) (by omega) (by omega)
   omega
  generalize strB (regT v) = r at *
  generalize strB (Lib.itoa (-v)) = q at *
  clear he
  go_enter Tryz.func68, Tryz.ntmps68
  go_wp2_with (go_at_call 70; refine HI.out.mono ?_; rintro e W1 ⟨rfl, hx⟩; have HX := Lib.hid hx; clear hx)
  go_ret
  exact ⟨by rw [HR.out]; rfl, HX.out⟩
 ·have HI := Lib.hid (itoa_calls v (by omega) (by omega) w he)
  have HR : Hid (strB (regT v) = ⟨#[88]⟩ ++ strB (Lib.itoa v)) := by
   unfold regT
   rw [if_neg h]
   rfl
  have hbig : ¬ 9223372036854775807 < 1 + (strB (Lib.itoa v)).size := by
   rw [strB_size]
   have := Lib.itoa_length_le v (by omega) (by omega)
   omega
  generalize strB (regT v) = r at *
  generalize strB (Lib.itoa v) = q at *
  clear he
  go_enter Tryz.func68, Tryz.ntmps68
  go_wp2_with (go_at_call 70; refine HI.out.mono ?_; rintro e W1 ⟨rfl, hx⟩; have HX := Lib.hid hx; clear hx)
  go_ret
  exact ⟨by rw [HR.out]; rfl, HX.out⟩
end Go.Proofs.YtmnnhdegoapfcaaGreatDoor

/- Layer 16: what is known ahead of an instruction, as it lies in memory. Over any program. -/
namespace Go.El
theorem getD_some {l : List Bool} {j : Nat} (h : j < l.length) : l[j]? = some (l.getD j false) := by
 rw [List.getD_eq_getElem?_getD, List.getElem?_eq_getElem h]
 rfl
section
variable {w w' : World} {b : Nat} {ty : TypeId} {s : InSt}
end
def setL : List Value → Nat → List Value → List Value
 | l, _, [] => l
 | l, o, v :: r => setL (l.set o v) (o + 1) r
theorem Blk.setCells {g : Nat} {t : TypeId} : ∀ (vs : List Value) (o : Nat) (w : World) (l : List Value), Blk w g t l.toArray → Blk (w.setCells g o vs) g t (setL l o vs).toArray
 | [], o, w, l, h => h
 | v :: r, o, w, l, h => by
  have h1 := h.set_ o v
  rw [List.setIfInBounds_toArray] at h1
  exact Blk.setCells r (o + 1) _ _ h1
theorem Mods.setCells {S : List Nat} {a : World} {g : Nat} (hg : g ∈ S) : ∀ (vs : List Value) (o : Nat) (w : World), Mods S a w → Mods S a (w.setCells g o vs)
 | [], _, _, h => h
 | v :: r, o, _, h => Mods.setCells hg r (o + 1) _ (h.setCell (p := ⟨g, o, none⟩) (.inl hg) v)
end Go.El

/- Layer 16, plain: what the walk of Check leans on. -/
namespace Go.Proofs.YtmnnhdegoapfcaaGreatDoor
open Go.RowKit Go.El
def insCells (i : Ins) : List Value := [.int .i64 i.op, .string i.s, .int .i64 i.n, .int .i64 i.v, .int .i64 i.a]
theorem insCells_len (i : Ins) : (insCells i).length = 5 := rfl
theorem src_ins {w : World} {A : Option Addr} {C : List Ins} (h : El.Src w A C.length 5 (flat insCells C)) {k : Nat} (hk : k < C.length) : ∃ b off, A = some ⟨b, off, none⟩ ∧ w.cell? ⟨b, off + k * 5, none⟩ = some (.int .i64 C[k].op) ∧ w.cell? ⟨b, off + k * 5 + 1, none⟩ = some (.string C[k].s) ∧ w.cell? ⟨b, off + k * 5 + 2, none⟩ = some (.int .i64 C[k].n) ∧ w.cell? ⟨b, off + k * 5 + 3, none⟩ = some (.int .i64 C[k].v) ∧ w.cell? ⟨b, off + k * 5 + 4, none⟩ = some (.int .i64 C[k].a) := by
 obtain ⟨b, off, rfl, hc⟩ := h.form (by omega) (by omega)
 have ho : C[k]? = some C[k] := List.getElem?_eq_getElem hk
 have e (j : Nat) (hj : j < 5) (u : Value) (hu : (insCells C[k])[j]? = some u) : w.cell? ⟨b, off + (k * 5 + j), none⟩ = some u := hc _ u (by rw [flat_at insCells_len C k j _ ho hj]; exact hu)
 refine ⟨b, off, rfl, e 0 (by omega) _ rfl, ?_, ?_, ?_, ?_⟩
 ·have := e 1 (by omega) _ rfl; rwa [← Nat.add_assoc] at this
 ·have := e 2 (by omega) _ rfl; rwa [← Nat.add_assoc] at this
 ·have := e 3 (by omega) _ rfl; rwa [← Nat.add_assoc] at this
 ·have := e 4 (by omega) _ rfl; rwa [← Nat.add_assoc] at this
end Go.Proofs.YtmnnhdegoapfcaaGreatDoor

/- What the rows of this seat have in common: instructions that come in; the listed variables; a start. -/
namespace Go.Proofs.YtmnnhdegoapfcaaGreatDoor
open Go.RowKit Go.El Go.ChangeShapes Go.WideShapes Go.ChangeAt Go.Deep Go.Joins
theorem own : ownKnob Tryz.prog.godebug = none := by kernel_rfl
theorem laidOut : laidOutB Tryz.prog = true := by kernel_rfl
section
variable {H : Type} {enc : TypeId × Value → H} {P : Program} {w : World} {base : Nat} {spare : Nat → Bool} {held : Bool}
structure InsType (P : Program) (tt ti ts : TypeId) : Prop where
 shape : ∃ f0 f1 f2 f3 f4 : Field, P.underlying tt = some (.struct #[f0, f1, f2, f3, f4]) ∧ f0.type = ti ∧ f1.type = ts ∧ f2.type = ti ∧ f3.type = ti ∧ f4.type = ti ∧ f0.offset = 0 ∧ f1.offset = 1 ∧ f2.offset = 2 ∧ f3.offset = 3 ∧ f4.offset = 4
 int : P.underlying ti = some (.int .i64)
 str : P.underlying ts = some .string
 c : P.cellsOf tt = 5
 ci : P.cellsOf ti = 1
 cs : P.cellsOf ts = 1
def InsGood (i : Ins) : Prop := i.s.size ≤ maxLen
variable {tt ti ts : TypeId}
theorem ins_of_trod (T : InsType P tt ti ts) {fuel : Nat} {cs : List Value} {x : DataW H × List MemPlace} (h : DataW.trod enc P w base spare held fuel tt cs = some x) : ∃ i : Ins, cs = insCells i ∧ InsGood i := by
 obtain ⟨f0, f1, f2, f3, f4, hu, t0, t1, t2, t3, t4, o0, o1, o2, o3, o4⟩ := T.shape
 obtain ⟨xs, n, _, _, hl, hlen, hf⟩ := DataW.trod_struct hu h
 rw [T.c] at hl
 match cs, hl with
 | [c0, c1, c2, c3, c4], _ =>
  have h0 := hf 0 f0 rfl
  have h1 := hf 1 f1 rfl
  have h2 := hf 2 f2 rfl
  have h3 := hf 3 f3 rfl
  have h4 := hf 4 f4 rfl
  match xs, hlen with
  | [x0, x1, x2, x3, x4], _ =>
   rw [t0, o0, T.ci] at h0
   rw [t1, o1, T.cs] at h1
   rw [t2, o2, T.ci] at h2
   rw [t3, o3, T.ci] at h3
   rw [t4, o4, T.ci] at h4
   simp only [List.drop_zero, List.drop_succ_cons, List.take_succ_cons, List.take_zero, List.getElem?_cons_zero, List.getElem?_cons_succ] at h0 h1 h2 h3 h4
   obtain ⟨a, e0, _, _⟩ := DataW.trod_int T.int h0
   obtain ⟨s, e1, _, w1⟩ := DataW.trod_string T.str h1
   obtain ⟨b, e2, _, _⟩ := DataW.trod_int T.int h2
   obtain ⟨c, e3, _, _⟩ := DataW.trod_int T.int h3
   obtain ⟨d, e4, _, _⟩ := DataW.trod_int T.int h4
   simp only [List.cons.injEq, and_true] at e0 e1 e2 e3 e4
   exact ⟨⟨a, s, b, c, d⟩, by rw [e0, e1, e2, e3, e4]; rfl, w1⟩
theorem open_inss (T : InsType P tt ti ts) {t : TypeId} (ht : P.underlying t = some (.slice tt)) {r : Reach} {b0 : Nat} {v : Value} {d : DataW H} {ps : List MemPlace} (hv : Value.okWide P w r b0 t v) (h : DataW.Trod enc P w base spare held t v d ps) :
  ∃ (A : Option Addr) (L : List Ins) (c : Nat), v = .slice A L.length c ∧ El.Src w A L.length 5 (flat insCells L) ∧ (∀ x ∈ L, InsGood x) ∧ L.length ≤ c ∧ L.length ≤ maxLen := by
 obtain ⟨fuel, hf⟩ := h
 have h1 : v.cells.toList = [v] := by
  simp only [Value.okWide, ht] at hv
  cases v <;> simp_all [Cell.okWide, Cell.ok, Value.cells]
 rw [h1] at hf
 rcases open_slice ht hf with ⟨h2, _⟩ | ⟨a, len, cap, m, n, D, Pl, hcs, hb, hl, hm, hmm, hx, hi⟩
 ·simp only [List.cons.injEq, and_true] at h2
  subst h2
  exact ⟨none, [], 0, rfl, El.Src.none _ _ _, fun x hx => by simp at hx, Nat.zero_le _, Nat.zero_le _⟩
 ·simp only [List.cons.injEq, and_true] at hcs
  subst hcs
  have hml : len ≤ m := by rw [hmm]; split <;> omega
  obtain ⟨L, hL, hp⟩ := list_of_all (p := fun i x => w.cells? base (a.add (i * 5)) 5 = some (insCells x) ∧ InsGood x) len (fun i hil => by
   obtain ⟨cs', hc, ht'⟩ := hi i (by omega)
   obtain ⟨x, e, g⟩ := ins_of_trod T ht'
   rw [T.c, e] at hc
   exact ⟨x, hc, g⟩)
  subst hL
  refine ⟨some a, L, cap, rfl, src_of_cells insCells_len (by omega) (fun i x hx j u hu => ?_), fun x hx => ?_, by omega, by omega⟩
  ·obtain ⟨_, _, hat⟩ := World.cells?_some (hp i x hx).1
   have hj : j < 5 := by
    have := (List.getElem?_eq_some_iff.1 hu).1
    rwa [insCells_len] at this
   rw [← Go.Deep.add_add]
   exact (hat j hj).trans hu
  ·obtain ⟨i, hi⟩ := List.mem_iff_getElem?.1 hx
   exact (hp i x hi).2
theorem cells_of_pairs {W : World} {sp : Nat → Bool} {fuel : Nat} {t e : TypeId} {n : Nat} {cs : List Value} {ls : List (List UInt8 × Nat)} {p : List MemPlace} {f0 f1 : Field}
  (ht : P.underlying t = some (.array n e)) (he : P.underlying e = some (.struct #[f0, f1])) (h0 : P.underlying f0.type = some .string) (h1 : P.underlying f1.type = some (.int .i64)) (o0 : f0.offset = 0) (o1 : f1.offset = 1)
  (hce : P.cellsOf e = 2) (hc0 : P.cellsOf f0.type = 1) (hc1 : P.cellsOf f1.type = 1)
  (h : DataW.trod enc P W base sp held fuel t cs = some (.agg (ls.map fun l => .agg [.lit (.string l.1), .lit (.int .i64 l.2)]), p)) (i : Nat) (l : List UInt8 × Nat) (hl : ls[i]? = some l) :
  cs[i * 2]? = some (.string ⟨l.1.toArray⟩) ∧ cs[i * 2 + 1]? = some (.int .i64 l.2) := by
 obtain ⟨xs, m, rfl, hx, hlen, hxl, hat⟩ := DataW.trod_array ht h
 simp only [Prod.mk.injEq, DataW.agg.injEq] at hx
 have hxs : xs.map (·.1) = ls.map fun l => (DataW.agg [.lit (.string l.1), .lit (.int .i64 l.2)] : DataW H) := hx.1.symm
 have hll : ls.length = n := by
  have := congrArg List.length hxs
  simp at this
  omega
 have hi : i < n := by rw [← hll]; exact (List.getElem?_eq_some_iff.1 hl).1
 have h2 := hat i hi
 rw [List.getElem?_eq_getElem (by omega), hce] at h2
 obtain ⟨y0, y1, k, hy, hyl, g0, g1⟩ := trod_struct2 he h2
 rw [o0, hc0] at g0
 rw [o1, hc1] at g1
 rw [hce] at hyl
 have h3 : (xs.map (·.1))[i]? = some (DataW.agg [y0.1, y1.1]) := by
  rw [List.getElem?_map, List.getElem?_eq_getElem (by omega), hy]
  rfl
 rw [hxs, List.getElem?_map, hl] at h3
 simp only [Option.map_some, Option.some.injEq, DataW.agg.injEq, List.cons.injEq, and_true] at h3
 generalize hq : (cs.drop (i * 2)).take 2 = q at *
 match q, hyl with
 | [c0, c1], _ =>
  simp only [List.drop_zero, List.take_succ_cons, List.take_zero, List.drop_succ_cons] at g0 g1
  obtain ⟨s, e0, x0, _⟩ := DataW.trod_string h0 g0
  obtain ⟨z, e1, x1, _⟩ := DataW.trod_int h1 g1
  simp only [List.cons.injEq, and_true] at e0 e1
  rw [x0] at h3
  rw [x1] at h3
  simp only [DataW.lit.injEq, Lit.string.injEq, Lit.int.injEq, true_and] at h3
  obtain ⟨h4, h5⟩ := h3
  have k0 : cs[i * 2]? = some c0 := by
   have := congrArg (·[0]?) hq
   simpa [List.getElem?_take, List.getElem?_drop] using this
  have k1 : cs[i * 2 + 1]? = some c1 := by
   have := congrArg (·[1]?) hq
   simpa [List.getElem?_take, List.getElem?_drop] using this
  refine ⟨by rw [k0, e0, h4], by rw [k1, e1, h5]⟩
end
theorem insType : InsType Tryz.prog 25 3 9 := ⟨⟨_, _, _, _, _, Tryz.underlying25, rfl, rfl, rfl, rfl, rfl, rfl, rfl, rfl, rfl, rfl⟩, Tryz.underlying3, Tryz.underlying9, by kernel_rfl, by kernel_rfl, by kernel_rfl⟩
def laidL : List (String × DataW Unit) := Rows.emitListsRow.laid
def tzTab : List Int := [0, 1, 56, 2, 57, 49, 28, 3, 61, 58, 42, 50, 38, 29, 17, 4, 62, 47, 59, 36, 45, 43, 51, 22, 53, 39, 33, 30, 24, 18, 12, 5, 63, 55, 48, 27, 60, 41, 37, 16, 46, 35, 44, 21, 52, 32, 23, 11, 54, 26, 40, 15, 34, 20, 31, 10, 25, 14, 19, 9, 13, 8, 7, 6]
def tzName : String := (laidL.drop 1).head?.elim "" (·.1)
def p10Name : String := (laidL.drop 2).head?.elim "" (·.1)
def opsName : String := (laidL.drop 3).head?.elim "" (·.1)
theorem tz_list : laidL = (laidL.take 1) ++ (tzName, Lib.tabData .u8 tzTab) :: laidL.drop 2 := by rfl
theorem p10_list : laidL = (laidL.take 2) ++ (p10Name, Lib.tabData .u64 Lib.pow10Tab) :: laidL.drop 3 := by rfl
theorem ops_list : laidL = (laidL.take 3) ++ (opsName, .agg (opTab.map fun l => .agg [.lit (.string l.1), .lit (.int .i64 l.2)])) :: laidL.drop 4 := by rfl
theorem laidVars_app {P : Program} {w : World} : ∀ {a b : List (String × DataW Unit)} {ps : List MemPlace}, DataW.LaidVars P w (a ++ b) ps → ∃ qs, DataW.LaidVars P w b qs
 | [], _, ps, h => ⟨ps, h⟩
 | (_, _) :: _, _, _, ⟨_, _, _, _, _, _, _, _, _, _, h, _⟩ => laidVars_app h
set_option maxRecDepth 100000 in
theorem tz_of_laid {W : World} (h : laidMetH Tryz.prog laidL W) : TzAt W := by
 rw [MakeChecks.laidMetH_plain _ _ _ (by kernel_rfl), tz_list] at h
 obtain ⟨ps, h, _, _⟩ := h
 obtain ⟨qs, h⟩ := laidVars_app h
 obtain ⟨g', t', cs, fuel, p, q, hg', ht', hvar, hd, _, _⟩ := h
 have hg : Tryz.prog.globalNamed tzName = some 6 := by kernel_rfl
 have hty : ((Tryz.prog.globals[6]?).map (·.type)) = some 275 := by kernel_rfl
 obtain rfl := Option.some.inj (hg.symm.trans hg')
 obtain rfl := Option.some.inj (hty.symm.trans ht')
 have hcs := Lib.cells_of_tab Tryz.underlying275 Tryz.underlying5 (by kernel_rfl) (by kernel_rfl) hd
 unfold TzAt
 rw [World.var?_cell hg hvar 15, ← Array.getElem?_toList, hcs]
 rfl
set_option maxRecDepth 100000 in
theorem p10_of_laid {W : World} (h : laidMetH Tryz.prog laidL W) : Lib.TabIs Tryz.prog W pwName .u64 Lib.pow10Tab := by
 rw [MakeChecks.laidMetH_plain _ _ _ (by kernel_rfl), p10_list] at h
 obtain ⟨ps, h, _, _⟩ := h
 obtain ⟨qs, h⟩ := laidVars_app h
 obtain ⟨g', t', cs, fuel, p, q, hg', ht', hvar, hd, _, _⟩ := h
 have hg : Tryz.prog.globalNamed p10Name = some 4 := by kernel_rfl
 have hty : ((Tryz.prog.globals[4]?).map (·.type)) = some 249 := by kernel_rfl
 obtain rfl := Option.some.inj (hg.symm.trans hg')
 obtain rfl := Option.some.inj (hty.symm.trans ht')
 have hcs := Lib.cells_of_tab Tryz.underlying249 Tryz.underlying162 (by kernel_rfl) (by kernel_rfl) hd
 have hnm : p10Name = pwName := by kernel_rfl
 rw [← hnm]
 unfold Lib.TabIs
 rw [hvar]
 congr 1
 exact Array.ext' hcs
set_option maxRecDepth 100000 in
theorem ops_of_laid {W : World} (h : laidMetH Tryz.prog laidL W) : OpTabAt W := by
 rw [MakeChecks.laidMetH_plain _ _ _ (by kernel_rfl), ops_list] at h
 obtain ⟨ps, h, _, _⟩ := h
 obtain ⟨qs, h⟩ := laidVars_app h
 obtain ⟨g', t', cs, fuel, p, q, hg', ht', hvar, hd, _, _⟩ := h
 have hg : Tryz.prog.globalNamed opsName = some 0 := by kernel_rfl
 have hty : ((Tryz.prog.globals[0]?).map (·.type)) = some 110 := by kernel_rfl
 obtain rfl := Option.some.inj (hg.symm.trans hg')
 obtain rfl := Option.some.inj (hty.symm.trans ht')
 intro k hk
 have hl : opTab[k]? = some (opTab.getD k ([], 0)) := by
  rw [List.getD_eq_getElem?_getD, List.getElem?_eq_getElem (by exact hk)]
  rfl
 obtain ⟨h1, h2⟩ := cells_of_pairs Tryz.underlying110 Tryz.underlying109 Tryz.underlying9 Tryz.underlying3 rfl rfl (by kernel_rfl) (by kernel_rfl) (by kernel_rfl) hd k _ hl
 refine ⟨?_, ?_⟩
 ·rw [World.var?_cell hg hvar, ← Array.getElem?_toList]
  exact h1
 ·rw [World.var?_cell hg hvar, ← Array.getElem?_toList]
  exact h2
theorem env_of_laid {W : World} (h : laidMetH Tryz.prog laidL W) (_hs : W.ShapedOpen Tryz.prog) : EnvT W := ⟨ops_of_laid h, tz_of_laid h, p10_of_laid h⟩
noncomputable def laidWorld (os : Os) : World := World.laidAll Tryz.prog os laidL
set_option maxRecDepth 100000 in
theorem laid_met (os : Os) (args : Array Value) : laidMetH Tryz.prog laidL ((laidWorld os).forCall (fun _ _ => 0) ⟨#[], args, []⟩).memory := by
 rw [MakeChecks.laidMetH_plain _ _ _ (by kernel_rfl)]
 exact laidMet_laidAll _ (by kernel_rfl) (by kernel_rfl)
end Go.Proofs.YtmnnhdegoapfcaaGreatDoor

/- Layer 16, plain: words, numerals: what was written is read. -/
namespace Go.El
def mkB (l : List UInt8) : ByteArray := ⟨l.toArray⟩
theorem mkB_size (l : List UInt8) : (mkB l).size = l.length := by simp [mkB, ByteArray.size]
theorem mkB_list (l : List UInt8) : (mkB l).data.toList = l := by simp [mkB]
end Go.El

/- Layer 16, plain: an instruction that may be is read back from its text. -/
namespace Go.El
theorem join_cons (n : List UInt8) (fs : List (List UInt8)) : Lib.join (n :: fs) [32] = if fs = [] then n else n ++ 32 :: Lib.join fs [32] := by
 cases fs with
 | nil => simp [Lib.join, List.intercalate]
 | cons f fs => simp [Lib.join, List.intercalate]
theorem join_one (f : List UInt8) : Lib.join [f] [32] = f := by simp [Lib.join, List.intercalate]
theorem join_none : Lib.join [] [32] = [] := rfl
def fldL (i : Ins) : List (List UInt8) := (ordF.filter (hasF i.op)).map (fldT i)
theorem insTs_eq (i : Ins) : insTs i 8 = nameF i.op :: fldL i := rfl
theorem name_ok : ∀ o ∈ List.range 31, (32 : UInt8) ∉ nameF o ∧ opIdx (nameF o) = o ∧ (nameF o).length ≤ 8 := by decide +kernel
theorem f1T (i : Ins) : fldT i 1 = regT i.v := rfl
theorem may_op {i : Ins} (h : insMay i = true) : ∃ k : Nat, i.op = k ∧ 1 ≤ k ∧ k < 31 := by
 unfold insMay at h
 split at h
 ·cases h
 ·rename_i hn
  by_cases c : i.op < 0 ∨ 31 ≤ i.op
  ·exact absurd (.inl (if_pos c)) hn
  ·have h0 : i.op ≠ 0 := by
    intro e
    apply hn
    rw [e]
    exact .inl rfl
   exact ⟨i.op.toNat, by omega, by omega, by omega⟩
end Go.El
