/- Layer 8, the reference: the walks of escape (whole), quoted. -/
import Derived.Test.YtmnnhdegoapfcaaGreatDoorC09
import Derived.Test.YtmnnhdegoapfcaaGreatDoorC05
import Derived.Test.YtmnnhdegoapfcaaGreatDoorC03
import Derived.Test.YtmnnhdegoapfcaaGreatDoorC06
import Derived.Lib.AppendIntMem
import Derived.Lib.ItoaLen
namespace Go.Proofs.YtmnnhdegoapfcaaGreatDoor
open Go.RowKit Go.El

theorem escS_end {B : List UInt8} {i : Nat} (h : B[i]? = none) : escS B i = none := by unfold escS; rw [h]
theorem escS_self {B : List UInt8} {i : Nat} {c : UInt8} (h : B[i]? = some c) (hc : c = 92 ∨ c = 39) : escS B i = some (c, i + 1) := by unfold escS; rw [h]; simp only; rw [if_pos hc]
theorem escS_n {B : List UInt8} {i : Nat} (h : B[i]? = some 110) : escS B i = some (10, i + 1) := by unfold escS; rw [h]; simp
theorem escS_t {B : List UInt8} {i : Nat} (h : B[i]? = some 116) : escS B i = some (9, i + 1) := by unfold escS; rw [h]; simp
theorem escS_no {B : List UInt8} {i : Nat} {c : UInt8} (h : B[i]? = some c) (h1 : c ≠ 92) (h2 : c ≠ 39) (h3 : c ≠ 110) (h4 : c ≠ 116) (h5 : c ≠ 120) : escS B i = none := by
  unfold escS; rw [h]; simp [h1, h2, h3, h4, h5]
theorem u8_ne' {c : UInt8} {n : Nat} {z : Int} (hz : (n : Int) = z) (hn : n < 256) (h : c ≠ UInt8.ofNat n) : ((c.toNat : Int) == z) = false := by rw [← hz]; exact u8_ne hn h

set_option maxRecDepth 100000 in
set_option maxHeartbeats 2000000 in
theorem rEsc_any (b off cap : Nat) (B : List UInt8) (i : Nat) (w : World) (HC : Hid (∀ j c, B[j]? = some c → w.cell? ⟨b, off + j, none⟩ = some (.int .u8 (c.toNat : Int)))) (hi : i ≤ B.length) (hB : B.length ≤ 70000) :
    Calls Tryz.prog 246 #[.slice (some ⟨b, off, none⟩) B.length cap, .int .i64 (i : Int)] w fun e w' => e = .returned (escV (escS B i)) ∧ w = w' := by
  by_cases hlt : i < B.length
  · have ho : B[i]? = some B[i] := List.getElem?_eq_getElem hlt
    generalize B[i] = c at ho
    by_cases h120 : c = 120
    · subst h120
      exact rEscX_any b off cap B i w HC ho hB
    · have d0 := HC.out i c ho
      have hnl : decide (B.length ≤ i) = false := by simpa using hlt
      by_cases h1 : c = 92
      · subst h1
        have HN := Lib.hid (escS_self ho (.inl rfl))
        clear ho h120
        go_enter Tryz.func246, Tryz.ntmps246
        go_wp2_with fail
        go_ret3
        refine ⟨?_, rfl⟩
        rw [HN.out]
        rfl
      by_cases h2 : c = 39
      · subst h2
        have HN := Lib.hid (escS_self ho (.inr rfl))
        clear ho h120 h1
        go_enter Tryz.func246, Tryz.ntmps246
        go_wp2_with fail
        go_ret3
        refine ⟨?_, rfl⟩
        rw [HN.out]
        rfl
      by_cases h3 : c = 110
      · subst h3
        have HN := Lib.hid (escS_n ho)
        clear ho h120 h1 h2
        go_enter Tryz.func246, Tryz.ntmps246
        go_wp2_with fail
        go_ret3
        refine ⟨?_, rfl⟩
        rw [HN.out]
        rfl
      by_cases h4 : c = 116
      · subst h4
        have HN := Lib.hid (escS_t ho)
        clear ho h120 h1 h2 h3
        go_enter Tryz.func246, Tryz.ntmps246
        go_wp2_with fail
        go_ret3
        refine ⟨?_, rfl⟩
        rw [HN.out]
        rfl
      have HN := Lib.hid (escS_no ho h1 h2 h3 h4 h120)
      have q1 := u8_ne' (c := c) (n := 92) (z := 92) rfl (by omega) h1
      have q2 := u8_ne' (c := c) (n := 39) (z := 39) rfl (by omega) h2
      have q3 := u8_ne' (c := c) (n := 110) (z := 110) rfl (by omega) h3
      have q4 := u8_ne' (c := c) (n := 116) (z := 116) rfl (by omega) h4
      have q5 := u8_ne' (c := c) (n := 120) (z := 120) rfl (by omega) h120
      clear ho h1 h2 h3 h4 h120
      go_enter Tryz.func246, Tryz.ntmps246
      go_wp2_with fail
      go_ret3
      refine ⟨?_, rfl⟩
      rw [HN.out]
      rfl
  · have HN := Lib.hid (escS_end (List.getElem?_eq_none (l := B) (i := i) (by omega)))
    have hnl : decide (B.length ≤ i) = true := by simpa using hlt
    go_enter Tryz.func246, Tryz.ntmps246
    go_wp2_with fail
    go_ret3
    refine ⟨?_, rfl⟩
    rw [HN.out]
    rfl

/-- A quoted name and the place behind it, as the reference hands it back. -/
def quoV : Option (List UInt8 × Nat) → Value
  | none => .tuple #[.string ⟨#[]⟩, .int .i64 0, .bool false]
  | some (s, j) => .tuple #[.string (strB s), .int .i64 (j : Int), .bool true]

set_option maxRecDepth 100000 in
set_option maxHeartbeats 4000000 in
theorem rQuoted_any (b off cap : Nat) (B : List UInt8) (i0 : Nat) (w : World) (h : BytesAt w (some ⟨b, off, none⟩) B) (hi : i0 < B.length) (hB : B.length ≤ 70000) :
    Calls Tryz.prog 237 #[.slice (some ⟨b, off, none⟩) B.length cap, .int .i64 (i0 : Int)] w fun e w' => e = .returned (quoV (quoS B (i0 + 1) [])) ∧ Ext w w' := by
  obtain ⟨i1, hi1, hz0, hz1, hz2⟩ := infoP u8Info
  have H := Lib.hid h
  clear h
  go_enter Tryz.func237, Tryz.ntmps237
  go_wp2_with fail
  go_loopw [7, 8] (fun v i wr => ∃ k : Nat, ∃ acc : List UInt8, k ≤ B.length ∧ acc.length ≤ k ∧ i = .int .i64 k ∧ Hid (GathB w wr v acc) ∧ Hid (quoS B (i0 + 1) [] = quoS B k acc)) (fun _ i _ => B.length - (intOf i).toNat)
  case atStart => exact ⟨i0 + 1, [], hi, Nat.zero_le _, by go_num, GathB.start w, rfl⟩
  case round =>
    obtain ⟨k, acc, hk, hak, rfl, HG, HS⟩ := hrel
    obtain ⟨A1, c1, rfl, hb1⟩ := HG.out.slice
    by_cases hlt : k < B.length
    · have hB1 := H.out.ext HG.out.ext
      have ho : B[k]? = some B[k] := List.getElem?_eq_getElem hlt
      generalize B[k] = c at ho
      obtain ⟨b', off', he, hc⟩ := bytes_at hB1 hlt
      injection he with he
      injection he with he1 he2
      subst he1 he2
      have HC := Lib.hid hc
      have d0 := HC.out k c ho
      have HQ := Lib.hid (quoS_eq (acc := acc) ho)
      clear hc hB1
      by_cases h39 : c = 39
      · subst h39
        by_cases h2 : B[k + 1]? = some 39
        · have d1 := HC.out _ _ h2
          have hk1 : k + 1 < B.length := (List.getElem?_eq_some_iff.1 h2).1
          have HN := Lib.hid (HS.out.trans (show quoS B k acc = quoS B (k + 2) (acc ++ [39]) from by rw [HQ.out, if_pos ⟨rfl, h2⟩]))
          clear h2 ho hb1
          go_wp2_with (at_builtin; refine wpList_append_src (P := Tryz.prog) rfl _ _ 61 rfl 5 i1 _ 1 1 Tryz.underlying61 hi1 hz0 hz1 hz2 rfl (by omega) _ rfl _ _ _ rfl acc.length (acc.map u8V) (own_ext HG.out.own ((Ext.refl wr).alloc _)) [.int .u8 39] (El.Src.new _ #[.int .u8 39] _ 1 1 rfl) (u8_one [39]) (by unfold maxLen; omega) (by omega) ?_; intro v3 w3 ho3 hm3 hb3; have hG3 := Lib.hid (GathB.step (G := [39]) HG.out ((Ext.refl wr).alloc _) ho3 hm3 hb3); clear ho3 hm3 hb3)
          go_roundw
          case rel => exact ⟨k + 2, acc ++ [39], hk1, by simp; omega, by go_num, hG3, HN.out⟩
          case measure => simp [intOf]; omega
        · have HN := Lib.hid (HS.out.trans (show quoS B k acc = some (acc, k + 1) from by rw [HQ.out, if_neg (fun h => h2 h.2), if_pos rfl]))
          have hcv := conv_str c1 hb1
          by_cases hk1 : k + 1 < B.length
          · have ho1 : B[k + 1]? = some B[k + 1] := List.getElem?_eq_getElem hk1
            generalize B[k + 1] = d at ho1
            have d1 := HC.out _ _ ho1
            have q1 := u8_ne' (c := d) (n := 39) (z := 39) rfl (by omega) (fun e => h2 (by rw [ho1, e]; rfl))
            clear h2 ho ho1 hb1
            go_wp2_with fail
            go_ret3
            refine ⟨?_, HG.out.ext⟩
            rw [HN.out]
            show _ = Ending.returned (.tuple #[.string (strB acc), .int .i64 ((k + 1 : Nat) : Int), .bool true])
            go_num
          · clear h2 ho hb1
            go_wp2_with fail
            go_ret3
            refine ⟨?_, HG.out.ext⟩
            rw [HN.out]
            show _ = Ending.returned (.tuple #[.string (strB acc), .int .i64 ((k + 1 : Nat) : Int), .bool true])
            go_num
      · have q39 := u8_ne' (c := c) (n := 39) (z := 39) rfl (by omega) h39
        by_cases h92 : c = 92
        · subst h92
          cases he : escS B (k + 1) with
          | none =>
            have HN := Lib.hid (HS.out.trans (show quoS B k acc = none from by rw [HQ.out, if_neg (fun h => absurd h.1 (by decide)), if_neg (by decide), if_pos rfl, he]))
            have HE := Lib.hid he
            clear ho he hb1 h39
            go_wp2_with (go_at_call 246; refine (rEsc_any b off cap B (k + 1) _ HC (by omega) hB).mono ?_; rw [HE.out]; simp only [escV]; rintro e w' ⟨rfl, rfl⟩)
            go_ret3
            exact ⟨by rw [HN.out]; rfl, HG.out.ext⟩
          | some p =>
            obtain ⟨x, j⟩ := p
            have HN := Lib.hid (HS.out.trans (show quoS B k acc = quoS B j (acc ++ [x]) from by rw [HQ.out, if_neg (fun h => absurd h.1 (by decide)), if_neg (by decide), if_pos rfl, he]))
            have HE := Lib.hid he
            obtain ⟨hj1, hj2⟩ := escS_bd he
            clear ho he hb1 h39
            go_wp2_with (first | (go_at_call 246; refine (rEsc_any b off cap B (k + 1) _ HC (by omega) hB).mono ?_; rw [HE.out]; simp only [escV]; rintro e w' ⟨rfl, rfl⟩) | (at_builtin; refine wpList_append_src (P := Tryz.prog) rfl _ _ 61 rfl 5 i1 _ 1 1 Tryz.underlying61 hi1 hz0 hz1 hz2 rfl (by omega) _ rfl _ _ _ rfl acc.length (acc.map u8V) (own_ext HG.out.own ((Ext.refl wr).alloc _)) [.int .u8 (x.toNat : Int)] (El.Src.new _ #[.int .u8 (x.toNat : Int)] _ 1 1 rfl) (u8_one [x]) (by unfold maxLen; omega) (by omega) ?_; intro v3 w3 ho3 hm3 hb3; have hG3 := Lib.hid (GathB.step (G := [x]) HG.out ((Ext.refl wr).alloc _) ho3 hm3 hb3); clear ho3 hm3 hb3))
            go_roundw
            case rel => exact ⟨j, acc ++ [x], hj2, by simp; omega, rfl, hG3, HN.out⟩
            case measure => simp [intOf]; omega
        · have q92 := u8_ne' (c := c) (n := 92) (z := 92) rfl (by omega) h92
          have hcl := c.toNat_lt
          by_cases h32 : c < 32 ∨ c = 127
          · have HN := Lib.hid (HS.out.trans (show quoS B k acc = none from by rw [HQ.out, if_neg (fun h => h39 h.1), if_neg h39, if_neg h92, if_pos h32]))
            have hd : c.toNat < 32 ∨ (32 ≤ c.toNat ∧ c.toNat = 127) := by
              rcases h32 with h | h
              · exact .inl (UInt8.lt_iff_toNat_lt.1 h)
              · exact .inr (by subst h; decide)
            clear ho h92 h39 h32 hb1
            rcases hd with g1 | ⟨g1, g2⟩
            all_goals
              go_wp2_with fail
              go_ret3
              exact ⟨by rw [HN.out]; rfl, HG.out.ext⟩
          · have HN := Lib.hid (HS.out.trans (show quoS B k acc = quoS B (k + 1) (acc ++ [c]) from by rw [HQ.out, if_neg (fun h => h39 h.1), if_neg h39, if_neg h92, if_neg h32]))
            have g1 : 32 ≤ c.toNat := by
              have : ¬ c < 32 := fun h => h32 (.inl h)
              rw [UInt8.lt_iff_toNat_lt] at this
              have e : (32 : UInt8).toNat = 32 := rfl
              omega
            have q127 := u8_ne' (c := c) (n := 127) (z := 127) rfl (by omega) (fun h => h32 (.inr h))
            clear ho h92 h39 h32 hb1
            go_wp2_with (at_builtin; refine wpList_append_src (P := Tryz.prog) rfl _ _ 61 rfl 5 i1 _ 1 1 Tryz.underlying61 hi1 hz0 hz1 hz2 rfl (by omega) _ rfl _ _ _ rfl acc.length (acc.map u8V) (own_ext HG.out.own ((Ext.refl wr).alloc _)) [.int .u8 (c.toNat : Int)] (El.Src.new _ #[.int .u8 (c.toNat : Int)] _ 1 1 rfl) (u8_one [c]) (by unfold maxLen; omega) (by omega) ?_; intro v3 w3 ho3 hm3 hb3; have hG3 := Lib.hid (GathB.step (G := [c]) HG.out ((Ext.refl wr).alloc _) ho3 hm3 hb3); clear ho3 hm3 hb3)
            go_roundw
            case rel => exact ⟨k + 1, acc ++ [c], hlt, by simp; omega, by go_num, hG3, HN.out⟩
            case measure => simp [intOf]; omega
    · obtain rfl : k = B.length := by omega
      have HN := Lib.hid (HS.out.trans (quoS_end (B := B) (acc := acc) (Nat.le_refl _)))
      clear hb1
      go_wp2_with fail
      go_ret3
      exact ⟨by rw [HN.out]; rfl, HG.out.ext⟩

end Go.Proofs.YtmnnhdegoapfcaaGreatDoor

/- Layer 8, the library: FormatUint at base 16, of a byte. -/
namespace Go.Proofs.YtmnnhdegoapfcaaGreatDoor
open Go.RowKit Go.El

/-- What TrailingZeros reads at 16. -/
def TzAt (w : World) : Prop := w.cell? ⟨6, 15, none⟩ = some (.int .u8 4)

set_option maxRecDepth 100000 in
theorem pow_16 (w : World) : Calls Tryz.prog 217 #[.int .i64 16] w fun e w' => e = .returned (.bool true) ∧ w' = w := by
  go_enter Tryz.func217, Tryz.ntmps217
  go_wp2_with fail
  go_ret
  exact ⟨rfl, rfl⟩

set_option maxRecDepth 100000 in
theorem tz64_16 (w : World) (h : TzAt w) : Calls Tryz.prog 239 #[.int .u64 16] w fun e w' => e = .returned (.int .i64 4) ∧ w' = w := by
  unfold TzAt at h
  have e1 : bits BinOp.and IntKind.u64 16 (IntKind.u64.wrap (-16)) = 16 := by decide +kernel
  have e2 : IntKind.u64.wrap (16 * 285870213051353865) = 4573923408821661840 := by decide +kernel
  have e3 : (4573923408821661840 / 288230376151711744 : Int) = 15 := by decide +kernel
  have e4 : (15 : Int).toNat = 15 := rfl
  go_enter Tryz.func239, Tryz.ntmps239
  go_wp2_with fail
  go_ret
  exact ⟨rfl, rfl⟩

set_option maxRecDepth 100000 in
theorem tz_16 (w : World) (h : TzAt w) : Calls Tryz.prog 218 #[.int .u64 16] w fun e w' => e = .returned (.int .i64 4) ∧ w' = w := by
  go_enter Tryz.func218, Tryz.ntmps218
  go_wp2_with (go_at_call 239; refine (tz64_16 _ h).mono ?_; rintro e w' ⟨rfl, rfl⟩)
  go_ret
  exact ⟨rfl, rfl⟩

theorem zero91 : Tryz.zeroCells250 = Array.replicate 65 (.int .u8 0) := by kernel_rfl
theorem zero91_at (i : Nat) (h : i < 65) : Tryz.zeroCells250[i]? = some (.int .u8 0) := by
  rw [zero91, Array.getElem?_replicate, if_pos h]
theorem and_15 (n : Nat) (h : n < 256) : bits BinOp.and IntKind.u64 (n : Int) 15 = ((n % 16 : Nat) : Int) := by
  have key : ∀ n : Fin 256, bits BinOp.and IntKind.u64 ((n.val : Nat) : Int) 15 = ((n.val % 16 : Nat) : Int) := by decide +kernel
  exact key ⟨n, h⟩

theorem dig_lit (m : Nat) (hm : m < 16) (h : m < (⟨#[48, 49, 50, 51, 52, 53, 54, 55, 56, 57, 97, 98, 99, 100, 101, 102, 103, 104, 105, 106, 107, 108, 109, 110, 111, 112, 113, 114, 115, 116, 117, 118, 119, 120, 121, 122]⟩ : ByteArray).size) : ((⟨#[48, 49, 50, 51, 52, 53, 54, 55, 56, 57, 97, 98, 99, 100, 101, 102, 103, 104, 105, 106, 107, 108, 109, 110, 111, 112, 113, 114, 115, 116, 117, 118, 119, 120, 121, 122]⟩ : ByteArray)[m]'h).toNat = (hexD m).toNat := by
  have key : ∀ i : Fin 16, ((#[48, 49, 50, 51, 52, 53, 54, 55, 56, 57, 97, 98, 99, 100, 101, 102, 103, 104, 105, 106, 107, 108, 109, 110, 111, 112, 113, 114, 115, 116, 117, 118, 119, 120, 121, 122] : Array UInt8)[i.val]'(Nat.lt_trans i.isLt (by decide))).toNat = (hexD i.val).toNat := by decide +kernel
  exact key ⟨m, hm⟩

theorem conv1 {wr : World} {g : Nat} {cs : Array Value} (hB : Blk wr g 250 cs) (hz : 64 < cs.size) (m : Nat) (hm : m < 16) (h : m < (⟨#[48, 49, 50, 51, 52, 53, 54, 55, 56, 57, 97, 98, 99, 100, 101, 102, 103, 104, 105, 106, 107, 108, 109, 110, 111, 112, 113, 114, 115, 116, 117, 118, 119, 120, 121, 122]⟩ : ByteArray).size) : (convert 61 9 (.slice (some ⟨g, 64, none⟩) 1 1)).run Tryz.prog (wr.setCell ⟨g, 64, none⟩ (.int .u8 (((⟨#[48, 49, 50, 51, 52, 53, 54, 55, 56, 57, 97, 98, 99, 100, 101, 102, 103, 104, 105, 106, 107, 108, 109, 110, 111, 112, 113, 114, 115, 116, 117, 118, 119, 120, 121, 122]⟩ : ByteArray)[m]'h).toNat : Int))) = .ok (.string (strB [hexD m])) (wr.setCell ⟨g, 64, none⟩ (.int .u8 (((⟨#[48, 49, 50, 51, 52, 53, 54, 55, 56, 57, 97, 98, 99, 100, 101, 102, 103, 104, 105, 106, 107, 108, 109, 110, 111, 112, 113, 114, 115, 116, 117, 118, 119, 120, 121, 122]⟩ : ByteArray)[m]'h).toNat : Int))) := by
  refine run_convert_bytes_back _ 61 9 5 ⟨g, 64, none⟩ 1 [hexD m] Tryz.underlying61 Tryz.underlying5 Tryz.underlying9 fun j hj => ?_
  have hj0 : j = 0 := by simp at hj; omega
  subst hj0
  have := (hB.set_ 64 (.int .u8 (((⟨#[48, 49, 50, 51, 52, 53, 54, 55, 56, 57, 97, 98, 99, 100, 101, 102, 103, 104, 105, 106, 107, 108, 109, 110, 111, 112, 113, 114, 115, 116, 117, 118, 119, 120, 121, 122]⟩ : ByteArray)[m]'h).toNat : Int))).cell 64
  rw [Array.getElem?_setIfInBounds, if_pos rfl, if_pos hz, dig_lit m hm h] at this
  rw [dig_lit m hm h]
  simpa [Addr.add] using this

theorem conv2 {wr : World} {g : Nat} {cs : Array Value} {d : Nat} (hB : Blk wr g 250 cs) (hz : 64 < cs.size) (hd : cs[64]? = some (.int .u8 ((hexD d).toNat : Int))) (m : Nat) (hm : m < 16) (h : m < (⟨#[48, 49, 50, 51, 52, 53, 54, 55, 56, 57, 97, 98, 99, 100, 101, 102, 103, 104, 105, 106, 107, 108, 109, 110, 111, 112, 113, 114, 115, 116, 117, 118, 119, 120, 121, 122]⟩ : ByteArray).size) : (convert 61 9 (.slice (some ⟨g, 63, none⟩) 2 2)).run Tryz.prog (wr.setCell ⟨g, 63, none⟩ (.int .u8 (((⟨#[48, 49, 50, 51, 52, 53, 54, 55, 56, 57, 97, 98, 99, 100, 101, 102, 103, 104, 105, 106, 107, 108, 109, 110, 111, 112, 113, 114, 115, 116, 117, 118, 119, 120, 121, 122]⟩ : ByteArray)[m]'h).toNat : Int))) = .ok (.string (strB [hexD m, hexD d])) (wr.setCell ⟨g, 63, none⟩ (.int .u8 (((⟨#[48, 49, 50, 51, 52, 53, 54, 55, 56, 57, 97, 98, 99, 100, 101, 102, 103, 104, 105, 106, 107, 108, 109, 110, 111, 112, 113, 114, 115, 116, 117, 118, 119, 120, 121, 122]⟩ : ByteArray)[m]'h).toNat : Int))) := by
  refine run_convert_bytes_back _ 61 9 5 ⟨g, 63, none⟩ 2 [hexD m, hexD d] Tryz.underlying61 Tryz.underlying5 Tryz.underlying9 fun j hj => ?_
  have hj0 : j = 0 ∨ j = 1 := by simp at hj; omega
  have h3 := (hB.set_ 63 (.int .u8 (((⟨#[48, 49, 50, 51, 52, 53, 54, 55, 56, 57, 97, 98, 99, 100, 101, 102, 103, 104, 105, 106, 107, 108, 109, 110, 111, 112, 113, 114, 115, 116, 117, 118, 119, 120, 121, 122]⟩ : ByteArray)[m]'h).toNat : Int))).cell 63
  have h4 := (hB.set_ 63 (.int .u8 (((⟨#[48, 49, 50, 51, 52, 53, 54, 55, 56, 57, 97, 98, 99, 100, 101, 102, 103, 104, 105, 106, 107, 108, 109, 110, 111, 112, 113, 114, 115, 116, 117, 118, 119, 120, 121, 122]⟩ : ByteArray)[m]'h).toNat : Int))).cell 64
  rw [Array.getElem?_setIfInBounds, if_pos rfl, if_pos (by omega), dig_lit m hm h] at h3
  rw [Array.getElem?_setIfInBounds, if_neg (by omega), hd, dig_lit m hm h] at h4
  rw [dig_lit m hm h]
  rcases hj0 with rfl | rfl
  · simpa [Addr.add] using h3
  · simpa [Addr.add] using h4

set_option maxRecDepth 100000 in
set_option maxHeartbeats 4000000 in
theorem bits_any (n : Nat) (hn : n < 256) (w : World) (h : TzAt w) : Calls Tryz.prog 182 #[.slice none 0 0, .int .u64 (n : Int), .int .i64 16, .bool false, .bool false] w fun e w' => e = .returned (.tuple #[.slice none 0 0, .string (strB (if n < 16 then [hexD n] else [hexD (n / 16), hexD (n % 16)]))]) ∧ Ext w w' := by
  have H := Lib.hid h
  clear h
  go_enter Tryz.func182, Tryz.ntmps182
  go_upto_region 4 with fail
  refine wp_abs (fun V => Hid (Blk V w.heap.size 250 Tryz.zeroCells250) ∧ Hid (Ext w V)) ⟨Blk.new w _ _, (Ext.refl w).alloc _⟩ ?_
  rintro V ⟨HB, HX⟩
  go_wp2_with (first | (go_at_call 217; refine (pow_16 _).mono ?_; rintro e w' ⟨rfl, rfl⟩) | (go_at_call 218; refine (tz_16 _ (HX.out.cell H.out)).mono ?_; rintro e w' ⟨rfl, rfl⟩))
  go_loopw [1, 13] (fun u i wr => ∃ m j : Nat, m < 256 ∧ u = .int .u64 m ∧ i = .int .i64 j ∧ ((m = n ∧ j = 65 ∧ Hid (Blk wr w.heap.size 250 Tryz.zeroCells250)) ∨ (16 ≤ n ∧ m = n / 16 ∧ j = 64 ∧ Hid (Blk wr w.heap.size 250 (Tryz.zeroCells250.setIfInBounds 64 (.int .u8 ((hexD (n % 16)).toNat : Int)))))) ∧ Hid (Ext w wr)) (fun _ i _ => (intOf i).toNat)
  case atStart => exact ⟨n, 65, hn, rfl, rfl, .inl ⟨rfl, rfl, HB.out⟩, HX.out⟩
  case round =>
    obtain ⟨m, j, hm, rfl, rfl, hor, HY⟩ := hrel
    rcases hor with ⟨rfl, rfl, HC⟩ | ⟨h16, rfl, rfl, HC⟩
    · by_cases hlt : m < 16
      · have hf := HC.out.frozen 64
        have hc := (HC.out.cell 64).trans (zero91_at 64 (by omega))
        have hcv := conv1 HC.out (by rw [zero91]; simp) m hlt
        go_wp2_with fail
        go_ret2
        refine ⟨?_, HY.out.setCell (Nat.le_refl _) _⟩
        (try rw [if_pos hlt])
        rfl
      · have hf := HC.out.frozen 64
        have hc := (HC.out.cell 64).trans (zero91_at 64 (by omega))
        have ha := and_15 m hm
        go_wp2_with fail
        go_roundw
        case rel =>
          refine ⟨m / 16, 64, by omega, by go_num, rfl, .inr ⟨by omega, rfl, rfl, ?_⟩, HY.out.setCell (Nat.le_refl _) _⟩
          rw [dig_lit (m % 16) (by omega)]
          exact HC.out.set_ 64 _
        case measure => simp [intOf]
    · have hlt : n / 16 < 16 := by omega
      have hf := HC.out.frozen 63
      have hc : wr.cell? ⟨w.heap.size, 63, none⟩ = some (.int .u8 0) := by
        rw [HC.out.cell 63, Array.getElem?_setIfInBounds, if_neg (by omega)]
        exact zero91_at 63 (by omega)
      have hcv := conv2 HC.out (by rw [Array.size_setIfInBounds, zero91]; simp) (d := n % 16) (by rw [Array.getElem?_setIfInBounds, if_pos rfl, if_pos (by rw [zero91]; simp)]) (n / 16) hlt
      go_wp2_with fail
      go_ret2
      have hn16 : ¬ n < 16 := by omega
      refine ⟨?_, HY.out.setCell (Nat.le_refl _) _⟩
      (try rw [if_neg hn16])
      rfl

set_option maxRecDepth 100000 in
theorem ifmt_any (n : Nat) (hn : n < 256) (w : World) (h : TzAt w) : Calls Tryz.prog 178 #[.int .u64 (n : Int), .int .i64 16] w fun e w' => e = .returned (.string (strB (if n < 16 then [hexD n] else [hexD (n / 16), hexD (n % 16)]))) ∧ Ext w w' := by
  have HF := Lib.hid (bits_any n hn w h)
  generalize (if n < 16 then [hexD n] else [hexD (n / 16), hexD (n % 16)]) = s at *
  go_enter Tryz.func178, Tryz.ntmps178
  go_wp2_with (go_at_call 182; refine HF.out.mono ?_; rintro e w' ⟨rfl, hx⟩; have HX := Lib.hid hx; clear hx)
  go_ret
  exact ⟨rfl, HX.out⟩

set_option maxRecDepth 100000 in
theorem fmt_any (n : Nat) (hn : n < 256) (w : World) (h : TzAt w) : Calls Tryz.prog 148 #[.int .u64 (n : Int), .int .i64 16] w fun e w' => e = .returned (.string (strB (if n < 16 then [hexD n] else [hexD (n / 16), hexD (n % 16)]))) ∧ Ext w w' := by
  have HF := Lib.hid (ifmt_any n hn w h)
  generalize (if n < 16 then [hexD n] else [hexD (n / 16), hexD (n % 16)]) = s at *
  go_enter Tryz.func148, Tryz.ntmps148
  go_wp2_with (go_at_call 178; refine HF.out.mono ?_; rintro e w' ⟨rfl, hx⟩; have HX := Lib.hid hx; clear hx)
  go_ret
  exact ⟨rfl, HX.out⟩

end Go.Proofs.YtmnnhdegoapfcaaGreatDoor

/- Layer 16: the tables that the calls read; Itoa, reg. -/
namespace Go.Proofs.YtmnnhdegoapfcaaGreatDoor
open Go.RowKit Go.El

noncomputable def pwName : String := (Tryz.prog.globals[4]?).elim "" (·.name)
theorem pwNamed : Tryz.prog.globalNamed pwName = some 4 := by kernel_rfl
/-- The package's tables, as the calls read them. -/
structure Env (w : World) : Prop where
  ops : OpTabAt w
  glob : Glob w
  tz : TzAt w
  pw : Lib.TabIs Tryz.prog w pwName .u64 Lib.pow10Tab
  syn : ∃ te pe, w.cell? ⟨2, 0, none⟩ = some (.iface te pe)
theorem var_ext {w w' : World} {n : String} {g : Nat} (hg : Tryz.prog.globalNamed n = some g) (hm : Ext w w') {cs : Array Value} (h : w.var? Tryz.prog n = some cs) :
    w'.var? Tryz.prog n = some cs := by
  unfold World.var? at h ⊢
  simp only [hg, Option.bind_some] at h ⊢
  have hlt : g < w.heap.size := by
    rcases Nat.lt_or_ge g w.heap.size with h' | h'
    · exact h'
    · simp [Array.getElem?_eq_none h'] at h
  rw [hm.block g hlt]
  exact h
theorem Env.ext {w w' : World} (h : Env w) (x : Ext w w') : Env w' := by
  obtain ⟨te, pe, hs⟩ := h.syn
  exact ⟨h.ops.ext x, h.glob.ext x, x.cell h.tz, var_ext pwNamed x h.pw, te, pe, x.cell hs⟩
theorem itoa_calls (n : Int) (h0 : -9223372036854775808 ≤ n) (h1 : n ≤ 9223372036854775807) (w : World) (he : Env w) :
    Calls Tryz.prog 70 #[.int .i64 n] w fun e w' => e = .returned (.string (strB (Lib.itoa n))) ∧ Ext w w' := by
  refine (Tryz.strconv_Itoa n h0 h1 w he.pw).mono ?_
  rintro e w' ⟨rfl, k, os, rfl⟩
  exact ⟨rfl, Lib.below_grow _ w (Nat.le_refl _) k os⟩

set_option maxRecDepth 100000 in
theorem reg_any (v : Int) (w : World) (he : Env w) (hv : -64 ≤ v) (hv2 : v ≤ 255) :
    Calls Tryz.prog 68 #[.int .i64 v] w fun e w' => e = .returned (.string (strB (regT v))) ∧ Ext w w' := by
  by_cases h : v < 0
  · have HI := Lib.hid (itoa_calls (-v) (by omega) (by omega) w he)
    have HR : Hid (strB (regT v) = ⟨#[89]⟩ ++ strB (Lib.itoa (-v))) := by
      unfold regT
      rw [if_pos h]
      rfl
    have hbig : ¬ 9223372036854775807 < 1 + (strB (Lib.itoa (-v))).size := by
      rw [strB_size]
      have := Lib.itoa_length_le (-v) (by omega) (by omega)
      omega
    generalize strB (regT v) = r at *
    generalize strB (Lib.itoa (-v)) = q at *
    clear he
    go_enter Tryz.func68, Tryz.ntmps68
    go_wp2_with (go_at_call 70; refine HI.out.mono ?_; rintro e W1 ⟨rfl, hx⟩; have HX := Lib.hid hx; clear hx)
    go_ret
    exact ⟨by rw [HR.out]; rfl, HX.out⟩
  · have HI := Lib.hid (itoa_calls v (by omega) (by omega) w he)
    have HR : Hid (strB (regT v) = ⟨#[88]⟩ ++ strB (Lib.itoa v)) := by
      unfold regT
      rw [if_neg h]
      rfl
    have hbig : ¬ 9223372036854775807 < 1 + (strB (Lib.itoa v)).size := by
      rw [strB_size]
      have := Lib.itoa_length_le v (by omega) (by omega)
      omega
    generalize strB (regT v) = r at *
    generalize strB (Lib.itoa v) = q at *
    clear he
    go_enter Tryz.func68, Tryz.ntmps68
    go_wp2_with (go_at_call 70; refine HI.out.mono ?_; rintro e W1 ⟨rfl, hx⟩; have HX := Lib.hid hx; clear hx)
    go_ret
    exact ⟨by rw [HR.out]; rfl, HX.out⟩
end Go.Proofs.YtmnnhdegoapfcaaGreatDoor
