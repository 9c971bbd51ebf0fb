/- Layer 8, the program: the walk of skip. -/
import Derived.Test.YtgcdhffeacdegaaGreatDoorH32
import Derived.WalkMore
import Derived.Test.YtgcdhffeacdegaaGreatDoorH05
import Derived.Test.YtgcdhffeacdegaaGreatDoorH35
import Derived.Test.YtgcdhffeacdegaaGreatDoorH06
import Derived.Test.YtgcdhffeacdegaaGreatDoorH31
namespace Go.Proofs.YtgcdhffeacdegaaGreatDoor
open Go.RowKit Go.El
theorem blank_has (c : UInt8) : hasB ⟨#[32, 9, 10, 13]⟩ c = isBlank c := all_bytes (p := fun c => hasB ⟨#[32, 9, 10, 13]⟩ c = isBlank c) (by decide +kernel) c
theorem eol_drop (B : List UInt8) (k : Nat) (hk : k ≤ B.length) : Lib.indexByte (B.drop k) 10 = if eol B k < B.length then ((eol B k : Nat) : Int) - (k : Int) else -1 := by
 rw [index_line, List.length_drop]
 unfold eol rowTo
 split
 ·rw [if_pos (by omega)]; omega
 ·rw [if_neg (by omega)]
theorem eol_le {B : List UInt8} {k : Nat} (hk : k ≤ B.length) : eol B k ≤ B.length := rowTo_le hk
set_option maxRecDepth 100000 in
set_option maxHeartbeats 8000000 in
theorem skip_any (sb b off cap : Nat) (B : List UInt8) (i : Nat) (w : World) (h : ScAt w sb b off cap B i) :
  Calls Tryz.prog 91 #[.pointer (some ⟨sb, 0, none⟩)] w fun e w' => e = .returned (.bool (skipTo B i).2) ∧ ScIn w w' sb b off cap B (skipTo B i).1 := by
 have c0 := h.c0
 have c1 := h.c1
 have hat := h.at_
 have hcp := h.cap
 have hlen := h.len
 have H := Lib.hid h
 clear h
 go_enter Tryz.func91, Tryz.ntmps91
 go_wp2_with fail
 go_step3
 go_wp2_with fail
 go_step3
 go_wp2_with fail
 go_loopw [3, 14] (fun _ _ wr => ∃ k : Nat, Hid (ScIn w wr sb b off cap B k) ∧ Hid (skipTo B i = skipTo B k)) (fun _ _ wr => B.length - placeOf wr sb)
 case atStart => exact ⟨i, ScIn.start H.out, rfl⟩
 case round =>
  obtain ⟨k, HS, HR⟩ := hrel
  have d1 := HS.out.sc.c0
  have d2 := HS.out.sc.c1
  have hkl := HS.out.sc.at_
  have hplace := place_at HS.out.sc
  by_cases hlt : k < B.length
  ·have ho : B[k]? = some B[k] := List.getElem?_eq_getElem hlt
   generalize B[k] = c at ho
   have d0 := HS.out.sc.cells ho
   have hin := blank_has c
   have hck : ¬ cap = k := by omega
   have HE := Lib.hid (skipTo_eq ho)
   go_upto_region 1 with fail
   go_quiet (fail)
   go_upto_region 2 with fail
   refine wp_abs (fun V => ScIn w V sb b off cap B k) (HS.out.drewN _) ?_
   clear d0 d1 d2 HS
   rintro wr HS'
   have HS := Lib.hid HS'
   clear HS'
   have d1 := HS.out.sc.c0
   have d2 := HS.out.sc.c1
   have d0 := HS.out.sc.cells ho
   cases hb : isBlank c
   ·rw [hb] at hin
    go_quiet ((go_at_call 85; exact quiet_left (in8_any _ _ _)))
    rw [hin]
    go_upto_region 4 with fail
    refine wp_abs (fun V => ScIn w V sb b off cap B k) (HS.out.drewN _) ?_
    clear d0 d1 d2 HS hin
    rintro V hV
    have d1 := hV.sc.c0
    have d2 := hV.sc.c1
    have d0 := hV.sc.cells ho
    by_cases h37 : c = 37
    ·have hq : ((c.toNat : Int) == (37 : Int)) = true := by rw [h37]; rfl
     have HN := Lib.hid (HR.out.trans (HE.out.trans (by rw [hb, if_neg (by simp), if_pos h37])))
     subst h37
     have hge := eol_gt ho
     have hel := eol_le (B := B) (k := k) (by omega)
     have hix := eol_drop B k (by omega)
     have HV := Lib.hid hV
     clear hV hb
     go_quiet (fail)
     go_upto_region 5 with fail
     refine wp_abs (fun V => ScIn w V sb b off cap B k) (HV.out.drewN _) ?_
     clear d0 d1 d2 HV
     rintro V hV
     have d1 := hV.sc.c0
     have d2 := hV.sc.c1
     have d0 := hV.sc.cells ho
     have HV := Lib.hid hV
     clear hV ho
     have hcall : ∀ n, Calls Tryz.prog 128 #[.slice (some ⟨b, off + k, none⟩) (B.length - k) (cap - k), .int .u8 10] (V.drewN n) fun e w' => e = .returned (.int .i64 (Lib.indexByte (B.drop k) 10)) ∧ V.drewN n = w' := fun n => by
      have h1 := indexByteB (cap - k) 10 (bytes_drop ((HV.out.drewN n).sc.src) k (by omega))
      rw [List.length_drop] at h1
      exact h1
     rw [hix] at hcall
     by_cases hin2 : eol B k < B.length
     ·rw [if_pos hin2] at hcall
      have HC := Lib.hid hcall
      clear hcall hix
      generalize eol B k = e at *
      go_quiet ((go_at_call 128; exact quiet_left (HC.out _)))
      go_upto_region 8 with fail
      refine wp_abs (fun V => ScIn w V sb b off cap B k) (HV.out.drewN _) ?_
      clear d0 d1 d2 HV HC
      rintro U hU
      have d1 := hU.sc.c0
      have d2 := hU.sc.c1
      have f2 := hU.sc.frozen
      have HU := Lib.hid hU
      clear hU
      go_wp2_with fail
      go_roundw
      case rel => exact ⟨e, HU.out.to hel (by omega), HN.out⟩
      case measure =>
       have h2 := place_at (HU.out.to (j := e) (v := (k : Int) + ((e : Int) - (k : Int))) hel (by omega)).sc
       rw [h2, hplace]
       omega
     ·rw [if_neg hin2] at hcall
      have he : eol B k = B.length := by omega
      rw [he] at HN
      have HC := Lib.hid hcall
      clear hcall hix
      go_quiet ((go_at_call 128; exact quiet_left (HC.out _)))
      go_upto_region 7 with fail
      go_quiet (fail)
      go_upto_region 8 with fail
      refine wp_abs (fun V => ScIn w V sb b off cap B k) ((HV.out.drewN _).drewN _) ?_
      clear d0 d1 d2 HV HC
      rintro U hU
      have d1 := hU.sc.c0
      have d2 := hU.sc.c1
      have f2 := hU.sc.frozen
      have HU := Lib.hid hU
      clear hU
      go_wp2_with fail
      go_roundw
      case rel => exact ⟨B.length, HU.out.to (Nat.le_refl _) (by omega), HN.out⟩
      case measure =>
       have h2 := place_at (HU.out.to (j := B.length) (v := (k : Int) + ((B.length : Int) - (k : Int))) (Nat.le_refl _) (by omega)).sc
       rw [h2, hplace]
       omega
    ·have hq := u8_ne' (c := c) (n := 37) (z := 37) rfl (by omega) h37
     have hpre := pre2 47 42 ho
     by_cases hcm : c = 47 ∧ B[k + 1]? = some 42
     ·have hk2 : k + 2 ≤ B.length := by have := (List.getElem?_eq_some_iff.1 hcm.2).1; omega
      rw [decide_eq_true hcm] at hpre
      have HN := Lib.hid (HR.out.trans (HE.out.trans (by rw [hb, if_neg (by simp), if_neg h37, if_pos hcm])))
      have HV := Lib.hid hV
      have HC := fun n => Lib.hid (starts_is (HV.out.drewN n).sc [47, 42] true hpre)
      clear hV ho hb h37 hcm hpre
      cases hcl : close B (k + 2) with
      | none =>
       have HM := Lib.hid hcl
       rw [hcl] at HN
       clear hcl
       go_quiet (fail)
       go_wp2_with (first | (go_at_call 129; refine (HC _).out.mono ?_; rintro e w' ⟨rfl, hx⟩; have HU := Lib.hid ((HV.out.drewN _).go hx); clear hx) | (go_at_call 130; refine (comment_any sb b off cap B k _ HU.out.sc hk2).mono ?_; rw [HM.out]; rintro e w' ⟨rfl, hy⟩; have HY := Lib.hid (HU.out.then hy); clear hy))
       rw [Exit.noGoto_ret]
       go_ret
       exact ⟨by rw [HN.out]; rfl, by rw [HN.out]; exact HY.out⟩
      | some e =>
       have HM := Lib.hid hcl
       obtain ⟨he1, he2⟩ := close_bd hcl
       rw [hcl] at HN
       clear hcl
       go_quiet (fail)
       go_wp2_with (first | (go_at_call 129; refine (HC _).out.mono ?_; rintro e' w' ⟨rfl, hx⟩; have HU := Lib.hid ((HV.out.drewN _).go hx); clear hx) | (go_at_call 130; refine (comment_any sb b off cap B k _ HU.out.sc hk2).mono ?_; rw [HM.out]; rintro e' w' ⟨rfl, hy⟩; have HY := Lib.hid (HU.out.then hy); clear hy))
       go_roundw
       case rel => exact ⟨e + 2, HY.out, HN.out⟩
       case measure =>
        have h2 := place_at HY.out.sc
        rw [h2, hplace]
        omega
     ·rw [decide_eq_false hcm] at hpre
      have HN := Lib.hid (HR.out.trans (HE.out.trans (by rw [hb, if_neg (by simp), if_neg h37, if_neg hcm])))
      have HV := Lib.hid hV
      have HC := fun n => Lib.hid (starts_is (HV.out.drewN n).sc [47, 42] false hpre)
      clear hV ho hb h37 hcm hpre
      go_quiet (fail)
      go_wp2_with (go_at_call 129; refine (HC _).out.mono ?_; rintro e' w' ⟨rfl, hx⟩; have HU := Lib.hid ((HV.out.drewN _).go hx); clear hx)
      rw [Exit.noGoto_ret]
      go_ret
      exact ⟨by rw [HN.out]; rfl, by rw [HN.out]; exact HU.out⟩
   ·rw [hb] at hin
    have HN := Lib.hid (HR.out.trans (HE.out.trans (by rw [hb, if_pos rfl])))
    clear ho hb
    go_quiet ((go_at_call 85; exact quiet_left (in8_any _ _ _)))
    rw [hin]
    go_upto_region 3 with fail
    refine wp_abs (fun V => ScIn w V sb b off cap B k) (HS.out.drewN _) ?_
    clear d0 d1 d2 HS
    rintro V hV
    have d1 := hV.sc.c0
    have d2 := hV.sc.c1
    have f2 := hV.sc.frozen
    have HV := Lib.hid hV
    clear hV
    go_wp2_with fail
    go_roundw
    case rel => exact ⟨k + 1, HV.out.to hlt (by omega), HN.out⟩
    case measure =>
     have h2 := place_at (HV.out.to (j := k + 1) (v := (k : Int) + 1) hlt (by omega)).sc
     rw [h2, hplace]
     omega
  ·obtain rfl : k = B.length := by omega
   have HN := Lib.hid (HR.out.trans (skipTo_end (Nat.le_refl _)))
   go_upto_region 1 with fail
   go_quiet (fail)
   go_wp2_with fail
   rw [Exit.noGoto_ret]
   go_ret
   exact ⟨by rw [HN.out]; rfl, by rw [HN.out]; exact HS.out.drewN _⟩
end Go.Proofs.YtgcdhffeacdegaaGreatDoor

/- Layer 8, the program: one, whole; the walk of Scan (without All). -/
namespace Go.Proofs.YtgcdhffeacdegaaGreatDoor
open Go.RowKit Go.El
theorem pOne_any (sb b off cap : Nat) (B : List UInt8) (i : Nat) (c : UInt8) (w : World) (h : ScAt w sb b off cap B i) (o : Old w sb b) (ho : B[i]? = some c) :
  Calls Tryz.prog 92 #[.pointer (some ⟨sb, 0, none⟩)] w fun e w' => e = .returned (onePV (oneS B i c)) ∧ OneIn w w' sb b off cap B (oneS B i c) := by
 rcases byte_kinds c with hk | hk | hk | hk | hk | hk | hk | hk | hk
 ·cases he : endsS B i c
  ·exact pOne_sign sb b off cap B i c w h o ho ⟨he, by rw [hk]; rfl⟩
  ·exact pOne_end sb b off cap B i c w h o ho he
 ·exact pOne_small sb b off cap B i c w h o ho hk
 ·exact pOne_sign sb b off cap B i c w h o ho ⟨ends_no hk.1, hk.2⟩
 ·exact pOne_solo sb b off cap B i c w h o ho hk
 ·exact pOne_digit sb b off cap B i c w h o ho hk
 ·exact pOne_great sb b off cap B i c w h o ho hk
 ·exact pOne_punct sb b off cap B i c w h o ho hk
 ·exact pOne_quote sb b off cap B i c w h o ho hk
 ·exact pOne_other sb b off cap B i c w h o ho hk
theorem pOne_err {B : List UInt8} {k : Nat} {c : UInt8} {x : Int} (hx : oneS B k c = .error x) {sb b off cap : Nat} {w : World} (h : ScAt w sb b off cap B k) (o : Old w sb b) (ho : B[k]? = some c) :
  Calls Tryz.prog 92 #[.pointer (some ⟨sb, 0, none⟩)] w fun e w' => e = .returned (.tuple #[.agg #[.int .i64 0, .string ⟨#[]⟩, .int .i64 0, .int .i64 0, .bool false], .int .i64 x]) ∧ ∃ j, ScIn w w' sb b off cap B j := by
 have := pOne_any sb b off cap B k c w h o ho
 rw [hx] at this
 exact this
theorem pOne_ok {B : List UInt8} {k : Nat} {c : UInt8} {kd : Int} {s : List UInt8} {n : Int} {e : Nat} (hx : oneS B k c = .ok (kd, s, n, e)) {sb b off cap : Nat} {w : World} (h : ScAt w sb b off cap B k) (o : Old w sb b) (ho : B[k]? = some c) :
  Calls Tryz.prog 92 #[.pointer (some ⟨sb, 0, none⟩)] w fun e1 w' => e1 = .returned (.tuple #[.agg #[.int .i64 kd, .string (strB s), .int .i64 n, .int .i64 0, .bool false], .int .i64 0]) ∧ ScIn w w' sb b off cap B e := by
 have := pOne_any sb b off cap B k c w h o ho
 rw [hx] at this
 exact this
theorem skip_at {B : List UInt8} {i k : Nat} {ok : Bool} (hs : skipTo B i = (k, ok)) {sb b off cap : Nat} {w : World} (h : ScAt w sb b off cap B i) :
  Calls Tryz.prog 91 #[.pointer (some ⟨sb, 0, none⟩)] w fun e w' => e = .returned (.bool ok) ∧ ScIn w w' sb b off cap B k := by
 have := skip_any sb b off cap B i w h
 rw [hs] at this
 exact this
structure SnAt (w wr : World) (b off cap : Nat) (B : List UInt8) (k : Nat) : Prop where
 sc : ScAt wr (w.heap.size + 1) b off cap B k
 bz : Blk wr w.heap.size 55 #[.int .i64 0, .string ⟨#[]⟩, .int .i64 0, .int .i64 0, .bool false]
 ext : Ext w wr
 old : Old wr (w.heap.size + 1) b
theorem SnAt.new {w : World} {b off cap : Nat} {B : List UInt8} {i : Nat} (h : BytesAt w (some ⟨b, off, none⟩) B) (h0 : 0 < B.length) (hi : i ≤ B.length) (hB : B.length ≤ 65536) (hcap : B.length ≤ cap) (g : Glob w) :
  SnAt w ((w.alloc (.cells #[.int .i64 0, .string ⟨#[]⟩, .int .i64 0, .int .i64 0, .bool false] 55)).alloc (.cells #[.slice (some ⟨b, off, none⟩) B.length cap, .int .i64 (i : Int)] 141)) b off cap B i := by
 have hlb : b < w.heap.size := by
  obtain ⟨b', off', he, hc⟩ := bytes_at h h0
  injection he with he
  injection he with he1 he2
  subst he1
  exact cell_lt (hc 0 _ (List.getElem?_eq_getElem h0))
 obtain ⟨m, hm⟩ := g.max
 obtain ⟨te, pe, he⟩ := g.err
 have hlm : 1 < w.heap.size := cell_lt hm
 have hle : 4 < w.heap.size := cell_lt he
 have hx := ext_box2 w (.cells #[.int .i64 0, .string ⟨#[]⟩, .int .i64 0, .int .i64 0, .bool false] 55) (.cells #[.slice (some ⟨b, off, none⟩) B.length cap, .int .i64 (i : Int)] 141)
 have hbk := Blk.new (w.alloc (.cells #[.int .i64 0, .string ⟨#[]⟩, .int .i64 0, .int .i64 0, .bool false] 55)) 141 #[.slice (some ⟨b, off, none⟩) B.length cap, .int .i64 (i : Int)]
 rw [World.size_alloc] at hbk
 refine ⟨⟨hbk, h.ext hx, by omega, hB, hcap, hi, g.ext hx, by omega, by omega⟩, (Blk.new w _ _).ext (ext_box _ _), hx, ?_⟩
 have hs := hx.size
 exact ⟨hbk.lt, by omega, by omega, by omega⟩
theorem SnAt.in_ {w wr V : World} {b off cap : Nat} {B : List UInt8} {k j : Nat} (h : SnAt w wr b off cap B k) (g : ScIn wr V (w.heap.size + 1) b off cap B j) : SnAt w V b off cap B j :=
 ⟨g.sc, h.bz.mods g.mods (by simp), ext_mods h.ext g.mods (fun x hx => by rw [List.mem_singleton] at hx; omega), h.old.up g.mods⟩
end Go.Proofs.YtgcdhffeacdegaaGreatDoor
/- Layer 8, the program: the walk of Scan. -/
namespace Go.Proofs.YtgcdhffeacdegaaGreatDoor
open Go.RowKit Go.El
theorem set5_cell {w : World} {g : Nat} {p : Addr} {v : Value} (h : w.cell? p = some v) (hg : g ≠ p.block) (a' b' c' d' e' : Value) : (((((w.setCell ⟨g, 0, none⟩ a').setCell ⟨g, 1, none⟩ b').setCell ⟨g, 2, none⟩ c').setCell ⟨g, 3, none⟩ d').setCell ⟨g, 4, none⟩ e').cell? p = some v := by
 rw [cell_set_ne (p := ⟨g, 4, none⟩) hg, cell_set_ne (p := ⟨g, 3, none⟩) hg, cell_set_ne (p := ⟨g, 2, none⟩) hg, cell_set_ne (p := ⟨g, 1, none⟩) hg, cell_set_ne (p := ⟨g, 0, none⟩) hg]
 exact h
set_option maxRecDepth 100000 in
set_option maxHeartbeats 4000000 in
theorem pScan_some (b off cap : Nat) (B : List UInt8) (i : Nat) (w : World) (h : BytesAt w (some ⟨b, off, none⟩) B) (h0 : 0 < B.length) (hi : i ≤ B.length) (hB : B.length ≤ 65536) (hcap : B.length ≤ cap) (g : Glob w) :
  Calls Tryz.prog 63 #[.slice (some ⟨b, off, none⟩) B.length cap, .int .i64 (i : Int)] w fun e w' => e = .returned (scanV (scanS B i)) ∧ Ext w w' := by
 have HS := Lib.hid (SnAt.new h h0 hi hB hcap g)
 have hib : ¬ B.length < i := by omega
 have hbig : ¬ 65536 < B.length := by omega
 clear h g
 rcases scanS_cases B i with ⟨k, hs, hn⟩ | ⟨k, hs, hk, hn⟩ | ⟨k, c, x, hs, hk, ho, hn⟩ | ⟨k, c, kd, s, n, e, hs, hk, ho, hn⟩
 ·have HK := Lib.hid (skip_at hs HS.out.sc)
  have HN := Lib.hid hn
  clear hn hs
  go_enter Tryz.func63, Tryz.ntmps63
  go_upto_region 7 with (go_at_call 91; refine HK.out.mono ?_; rintro e w2 ⟨rfl, hy⟩; have HQ := Lib.hid (HS.out.in_ hy); clear hy)
  have d1 := HQ.out.sc.c0
  have d2 := HQ.out.sc.c1
  have kzc := HQ.out.bz.cell
  have kzf := HQ.out.bz.frozen
  have hne1 : ¬ w.heap.size + 1 = w.heap.size := by omega
  go_region
  all_goals
   go_wp2_with fail
   have kb := blk_set5 HQ.out.bz (.int .i64 0) (.string ⟨#[]⟩) (.int .i64 0) (.int .i64 0) (.bool false)
   have kc := kb.cell
   refine bodyPost_ret (v := scanV (scanS B i)) ?_ rfl ⟨rfl, (ext_set5 HQ.out.ext (Nat.le_refl _) _ _ _ _ _).drew⟩
   rw [HN.out]
   simp [results, Tryz.results63, go_sem, scanV, tokV_eq, zeroT, kc]
 ·have HK := Lib.hid (skip_at hs HS.out.sc)
  have hkl : k = B.length := by
   have h1 := skipTo_le hi
   rw [hs] at h1
   have h2 := List.getElem?_eq_none_iff.1 hk
   simp only at h1
   omega
  subst hkl
  have HN := Lib.hid hn
  clear hn hs hk
  go_enter Tryz.func63, Tryz.ntmps63
  go_upto_region 9 with (go_at_call 91; refine HK.out.mono ?_; rintro e w2 ⟨rfl, hy⟩; have HQ := Lib.hid (HS.out.in_ hy); have d1 := HQ.out.sc.c0; have d2 := HQ.out.sc.c1; clear hy)
  have kzc := HQ.out.bz.cell
  have kzf := HQ.out.bz.frozen
  have hne1 : ¬ w.heap.size + 1 = w.heap.size := by omega
  go_region
  all_goals
   go_wp2_with fail
   have kb := blk_set5 HQ.out.bz (.int .i64 0) (.string ⟨#[]⟩) (.int .i64 0) (.int .i64 0) (.bool false)
   have kc := kb.cell
   refine bodyPost_ret (v := scanV (scanS B i)) ?_ rfl ⟨rfl, (ext_set5 HQ.out.ext (Nat.le_refl _) _ _ _ _ _).drew⟩
   rw [HN.out]
   simp [results, Tryz.results63, go_sem, scanV, tokV_eq, zeroT, kc]
 ·have HK := Lib.hid (skip_at hs HS.out.sc)
  have HN := Lib.hid hn
  have hkl : k < B.length := (List.getElem?_eq_some_iff.1 hk).1
  have hke : ((k : Int) == (B.length : Int)) = false := by simp; omega
  have hx3 := oneS_err ho
  have HE := Lib.hid ho
  have HO := Lib.hid hk
  clear hn hs hk ho
  rcases hx3 with rfl | rfl | rfl
  all_goals
   go_enter Tryz.func63, Tryz.ntmps63
   go_wp2_with (first | (go_at_call 91; refine HK.out.mono ?_; rintro e w2 ⟨rfl, hy⟩; have HQ := Lib.hid (HS.out.in_ hy); have d1 := HQ.out.sc.c0; have d2 := HQ.out.sc.c1; clear hy) | (go_at_call 92; refine (pOne_err HE.out HQ.out.sc HQ.out.old HO.out).mono ?_; rintro e w3 ⟨rfl, j, hy⟩; have HT := Lib.hid (HQ.out.in_ hy); have kzc := HT.out.bz.cell; have kzf := HT.out.bz.frozen; have kaa := fun o => (HT.out.bz.alloc o).cell; have kff := fun o => (HT.out.bz.alloc o).frozen; have hlt2 : w.heap.size < w3.heap.size := HT.out.bz.lt; have hne : w3.heap.size ≠ w.heap.size := (Nat.ne_of_gt HT.out.bz.lt); clear hy))
   have kb := (blk_set5 HT.out.bz (.int .i64 0) (.string ⟨#[]⟩) (.int .i64 0) (.int .i64 0) (.bool false)).alloc (.cells #[.int .i64 0, .string ⟨#[]⟩, .int .i64 0, .int .i64 0, .bool false] 55)
   have kc := kb.cell
   refine bodyPost_ret (v := scanV (scanS B i)) ?_ rfl ⟨rfl, (ext_set5 HT.out.ext (Nat.le_refl _) _ _ _ _ _).alloc _⟩
   rw [HN.out]
   simp [results, Tryz.results63, go_sem, scanV, tokV_eq, zeroT, kc]
 ·have HK := Lib.hid (skip_at hs HS.out.sc)
  have HN := Lib.hid hn
  have hkl : k < B.length := (List.getElem?_eq_some_iff.1 hk).1
  have hke : ((k : Int) == (B.length : Int)) = false := by simp; omega
  have HO := Lib.hid hk
  have HP := fun (W : World) (hW : ScAt W (w.heap.size + 1) b off cap B k) (oW : Old W (w.heap.size + 1) b) => Lib.hid (pOne_ok ho hW oW hk)
  have hlay : decide ((i : Int) < (k : Int)) = decide (i < k) := by simp
  clear hn hs hk ho
  generalize hz : strB s = z at HP
  have HZ := Lib.hid hz
  clear hz
  go_enter Tryz.func63, Tryz.ntmps63
  go_upto_region 15 with (first | (go_at_call 91; refine HK.out.mono ?_; rintro e w2 ⟨rfl, hy⟩; have HQ := Lib.hid (HS.out.in_ hy); have d1 := HQ.out.sc.c0; have d2 := HQ.out.sc.c1; clear hy) | (go_at_call 92; refine (HP _ HQ.out.sc HQ.out.old).out.mono ?_; rintro e w3 ⟨rfl, hy⟩; have HT := Lib.hid (HQ.out.in_ hy); have hlt2 : w.heap.size < w3.heap.size := HT.out.bz.lt; have hne : w3.heap.size ≠ w.heap.size := (Nat.ne_of_gt HT.out.bz.lt); clear hy))
  have kzc := HT.out.bz.cell
  have kzf := HT.out.bz.frozen
  have kaa := fun o => (HT.out.bz.alloc o).cell
  have kff := fun o => (HT.out.bz.alloc o).frozen
  have e1 : ∀ o, (w3.alloc o).cell? ⟨w.heap.size + 1, 1, none⟩ = _ := fun o => (ext_box w3 o).cell HT.out.sc.c1
  have e2 := fun o => (ext_box _ o).cell (set5_cell HT.out.sc.c1 (g := w.heap.size) (by simp) (.int .i64 kd) (.string z) (.int .i64 n) (.int .i64 k) (.bool (decide (i < k))))
  have hne1 : ¬ w.heap.size + 1 = w.heap.size := by omega
  go_region
  all_goals
   go_wp2_with fail
   have kb := ((blk_set5 HT.out.bz (.int .i64 kd) (.string z) (.int .i64 n) (.int .i64 k) (.bool (decide (i < k)))).alloc (.cells #[.int .i64 kd, .string z, .int .i64 n, .int .i64 k, .bool (decide (i < k))] 55))
   have kc := kb.cell
   refine bodyPost_ret (v := scanV (scanS B i)) ?_ rfl ⟨rfl, ((ext_set5 HT.out.ext (Nat.le_refl _) _ _ _ _ _).alloc _).drew⟩
   have hv : scanV (scanS B i) = .tuple #[.agg #[.int .i64 kd, .string z, .int .i64 n, .int .i64 (k : Int), .bool (decide (i < k))], .int .i64 (e : Int), .int .i64 0] := by
    rw [HN.out, ← HZ.out]
    rfl
   rw [hv]
   simp [results, Tryz.results63, go_sem, kc]
end Go.Proofs.YtgcdhffeacdegaaGreatDoor
/- Layer 8, the program: Scan of no text; Scan, whole; the walk of All. -/
namespace Go.Proofs.YtgcdhffeacdegaaGreatDoor
open Go.RowKit Go.El
set_option maxRecDepth 100000 in
set_option maxHeartbeats 4000000 in
theorem skip_nil (sb : Nat) (A : Option Addr) (cap : Nat) (w : World) (h : Blk w sb 141 #[.slice A 0 cap, .int .i64 0]) :
  Calls Tryz.prog 91 #[.pointer (some ⟨sb, 0, none⟩)] w fun e w' => e = .returned (.bool true) ∧ Ext w w' := by
 have H := Lib.hid h
 clear h
 go_enter Tryz.func91, Tryz.ntmps91
 go_wp2_with fail
 go_step3
 go_wp2_with fail
 go_step3
 go_wp2_with fail
 go_loopw [3, 14] (fun _ _ wr => ∃ _k : Nat, Hid (Ext w wr)) (fun _ _ _ => 0)
 case atStart => exact ⟨0, Ext.refl w⟩
 case round =>
  obtain ⟨_, HX⟩ := hrel
  have d1 := (H.out.ext HX.out).cell 0
  have d2 := (H.out.ext HX.out).cell 1
  simp only [List.getElem?_toArray, List.getElem?_cons_zero, List.getElem?_cons_succ] at d1 d2
  go_upto_region 1 with fail
  go_quiet (fail)
  go_wp2_with fail
  rw [Exit.noGoto_ret]
  go_ret
  exact ⟨rfl, HX.out.drewN _⟩
set_option maxRecDepth 100000 in
set_option maxHeartbeats 4000000 in
theorem pScan_nil (A : Option Addr) (cap : Nat) (w : World) :
  Calls Tryz.prog 63 #[.slice A 0 cap, .int .i64 0] w fun e w' => e = .returned (scanV (scanS [] 0)) ∧ Ext w w' := by
 have hbk := Blk.new (w.alloc (.cells #[.int .i64 0, .string ⟨#[]⟩, .int .i64 0, .int .i64 0, .bool false] 55)) 141 #[.slice A 0 cap, .int .i64 0]
 rw [World.size_alloc] at hbk
 have HK := Lib.hid (skip_nil _ A cap _ hbk)
 have HN := Lib.hid (show scanS [] 0 = (zeroT, 0, 4) from rfl)
 have HB := Lib.hid hbk
 clear hbk
 go_enter Tryz.func63, Tryz.ntmps63
 go_upto_region 9 with (go_at_call 91; refine HK.out.mono ?_; rintro e w2 ⟨rfl, hy⟩; have HX := Lib.hid hy; have d2 := (HB.out.ext hy).cell 1; simp only [List.getElem?_toArray, List.getElem?_cons_zero, List.getElem?_cons_succ] at d2; clear hy)
 have hz := (Blk.new w 55 #[.int .i64 0, .string ⟨#[]⟩, .int .i64 0, .int .i64 0, .bool false]).ext ((ext_box _ (.cells #[.slice A 0 cap, .int .i64 0] 141)).trans HX.out)
 have kzc := hz.cell
 have kzf := hz.frozen
 have HZ := Lib.hid hz
 have hne1 : ¬ w.heap.size + 1 = w.heap.size := by omega
 clear hz
 go_region
 all_goals
  go_wp2_with fail
  have kb := blk_set5 HZ.out (.int .i64 0) (.string ⟨#[]⟩) (.int .i64 0) (.int .i64 0) (.bool false)
  have kc := kb.cell
  refine bodyPost_ret (v := scanV (scanS [] 0)) ?_ rfl ⟨rfl, (ext_set5 ((ext_box2 w _ _).trans HX.out) (Nat.le_refl _) _ _ _ _ _).drew⟩
  rw [HN.out]
  simp [results, Tryz.results63, go_sem, scanV, tokV_eq, zeroT, kc]
theorem pScan_any (A : Option Addr) (cap : Nat) (B : List UInt8) (i : Nat) (w : World) (h : BytesAt w A B) (hi : i ≤ B.length) (hB : B.length ≤ 65536) (hcap : B.length ≤ cap) (g : Glob w) :
  Calls Tryz.prog 63 #[.slice A B.length cap, .int .i64 (i : Int)] w fun e w' => e = .returned (scanV (scanS B i)) ∧ Ext w w' := by
 rcases B with _ | ⟨c, B⟩
 ·obtain rfl : i = 0 := by simpa using hi
  exact pScan_nil A cap w
 ·obtain ⟨b, off, rfl, _⟩ := bytes_at (k := 0) h (by simp)
  exact pScan_some b off cap (c :: B) i w h (by simp) hi hB hcap g
theorem pScan_at {B : List UInt8} {i : Nat} {t : TokV} {k : Nat} {x : Int} (hs : scanS B i = (t, k, x)) (A : Option Addr) (cap : Nat) (w : World) (h : BytesAt w A B) (hi : i ≤ B.length) (hB : B.length ≤ 65536) (hcap : B.length ≤ cap) (g : Glob w) :
  Calls Tryz.prog 63 #[.slice A B.length cap, .int .i64 (i : Int)] w fun e w' => e = .returned (.tuple #[.agg #[.int .i64 t.kind, .string t.s, .int .i64 t.n, .int .i64 t.at_, .bool t.lay], .int .i64 (k : Int), .int .i64 x]) ∧ Ext w w' := by
 have := pScan_any A cap B i w h hi hB hcap g
 rw [hs] at this
 exact this
end Go.Proofs.YtgcdhffeacdegaaGreatDoor

/- Layer 10, the program: the walk of tokens. -/
namespace Go.Proofs.YtgcdhffeacdegaaGreatDoor
open Go.RowKit Go.El
def TokPost (w : World) (x : Except (Nat × Int) (List TokV × Nat)) (e : Ending) (w' : World) : Prop := match x with
 | .error (k, y) => e = .returned (.tuple #[.slice none 0 0, .int .i64 (k : Int), .int .i64 y]) ∧ Ext w w'
 | .ok (l, k) => ∃ v, e = .returned (.tuple #[v, .int .i64 (k : Int), .int .i64 0]) ∧ GathT w w' v l
theorem ctoks_step {B : List UInt8} {k : Nat} {acc : List TokV} {X : Except (Nat × Int) (List TokV × Nat)} (hk : k ≤ B.length) (h : ctoksN (B.length + 1 - k) B k acc = X) {t : TokV} {e : Nat} {x : Int} (hs : scanS B k = (t, e, x)) :
  X = if x = 4 ∧ acc ≠ [] then .error (e, 101) else if x ≠ 0 then .error (e, x) else if t.kind = 6 then .ok (acc ++ [t], e) else ctoksN (B.length + 1 - e) B e (acc ++ [t]) := by
 obtain ⟨n, hn⟩ : ∃ n, B.length + 1 - k = n + 1 := ⟨B.length - k, by omega⟩
 rw [hn] at h
 simp only [ctoksN] at h
 rw [hs] at h
 simp only at h
 rw [← h]
 split
 ·rfl
 ·split
  ·rfl
  ·next hx =>
   have hx0 : x = 0 := Decidable.byContradiction fun hne => hx hne
   subst hx0
   have hst := scanS_step (B := B) (i := k) (by rw [hs])
   rw [hs] at hst
   simp only at hst
   split
   ·rfl
   ·exact ctoksN_more _ _ B e _ hst.2 (Nat.le_refl _) (by omega)
set_option maxRecDepth 100000 in
set_option maxHeartbeats 4000000 in
theorem pTokens {A : Option Addr} {cap : Nat} {B : List UInt8} {i : Nat} {w : World} (h : BytesAt w A B) (hi : i ≤ B.length) (hB : B.length ≤ 65536) (hcap : B.length ≤ cap) (g : Glob w) :
  Calls Tryz.prog 40 #[.slice A B.length cap, .int .i64 (i : Int)] w (TokPost w (ctoks B i)) := by
 obtain ⟨i1, hi1, hz0, hz1, hz2⟩ := infoP tokInfo
 have H := Lib.hid h
 have G := Lib.hid g
 obtain ⟨X, hX⟩ : ∃ X, ctoks B i = X := ⟨_, rfl⟩
 rw [hX]
 have HX : Hid (ctoksN (B.length + 1 - i) B i [] = X) := Lib.hid hX
 clear h g hX
 go_enter Tryz.func40, Tryz.ntmps40
 go_wp2_with fail
 go_loopw [1, 7] (fun i v wr => ∃ k : Nat, ∃ acc : List TokV, k ≤ B.length ∧ acc.length ≤ k ∧ i = .int .i64 k ∧ Hid (GathT w wr v acc) ∧ Hid (ctoksN (B.length + 1 - k) B k acc = X)) (fun i _ _ => B.length - (intOf i).toNat)
 case atStart => exact ⟨i, [], hi, Nat.zero_le _, rfl, GathT.start w, HX⟩
 case round =>
  obtain ⟨k, acc, hk, hak, rfl, HG, HS⟩ := hrel
  obtain ⟨A1, c1, rfl⟩ := own_value HG.out.own
  have h5 := scanS_err5 B k
  have hst := scanS_step (B := B) (i := k)
  have hle := scanS_le hk
  cases hsc : scanS B k with
  | mk t r =>
   obtain ⟨e, x⟩ := r
   have HC := Lib.hid (pScan_at hsc A cap wr (H.out.ext HG.out.ext) hk hB hcap (G.out.ext HG.out.ext))
   have HXS := Lib.hid (ctoks_step hk HS.out hsc)
   rw [hsc] at h5 hst hle
   simp only at h5 hst hle
   clear hsc
   rcases h5 with rfl | rfl | rfl | rfl | rfl
   ·obtain ⟨he1, he2⟩ := hst rfl
    clear hst
    have hX2 : X = if t.kind = 6 then .ok (acc ++ [t], e) else ctoksN (B.length + 1 - e) B e (acc ++ [t]) := HXS.out.trans ((if_neg (fun h => absurd h.1 (by decide))).trans (if_neg (by decide)))
    by_cases hk6 : t.kind = 6
    ·rw [if_pos hk6] at hX2
     subst hX2
     have HK6 := Lib.hid hk6
     have e6 : (t.kind == 6) = true := by simpa using hk6
     clear hk6
     go_wp2_with (first | (go_at_call 63; refine HC.out.mono ?_; rintro e1 w' ⟨rfl, hx⟩; have kx := Lib.hid hx; clear hx) | (at_builtin; refine wpList_append_src (P := Tryz.prog) rfl _ _ 51 rfl 55 i1 _ 5 48 Tryz.underlying51 hi1 hz0 hz1 hz2 rfl (by omega) _ rfl _ _ _ rfl acc.length (flat tokCells acc) (own_ext HG.out.own ((kx.out.alloc _).alloc _)) (tokCells t) (src_new2 _ _ t) (tokCells_one t) (by unfold maxLen; omega) (by omega) ?_; intro v3 w3 ho3 hm3 hb3; have hG3 := Lib.hid (GathT.step HG.out ((kx.out.alloc _).alloc _) ho3 hm3 hb3); obtain ⟨A3, c3, rfl⟩ := own_value ho3; have kt := (((Blk.new w' 55 #[.int .i64 t.kind, .string t.s, .int .i64 t.n, .int .i64 t.at_, .bool t.lay]).ext (ext_box4 _ (.cells #[.int .i64 t.kind, .string t.s, .int .i64 t.n, .int .i64 t.at_, .bool t.lay] 55))).mods hm3 (fun hm => by have := own_lt HG.out.own (mem_ownL hm); have := kx.out.size; omega)).cell; clear ho3 hm3 hb3))
     go_ret3
     exact ⟨_, rfl, by have := hG3.out; simpa using this⟩
    ·rw [if_neg hk6] at hX2
     have HX2 := Lib.hid hX2
     have e6 : (t.kind == 6) = false := by simpa using hk6
     clear hX2 hk6
     go_wp2_with (first | (go_at_call 63; refine HC.out.mono ?_; rintro e1 w' ⟨rfl, hx⟩; have kx := Lib.hid hx; clear hx) | (at_builtin; refine wpList_append_src (P := Tryz.prog) rfl _ _ 51 rfl 55 i1 _ 5 48 Tryz.underlying51 hi1 hz0 hz1 hz2 rfl (by omega) _ rfl _ _ _ rfl acc.length (flat tokCells acc) (own_ext HG.out.own ((kx.out.alloc _).alloc _)) (tokCells t) (src_new2 _ _ t) (tokCells_one t) (by unfold maxLen; omega) (by omega) ?_; intro v3 w3 ho3 hm3 hb3; have hG3 := Lib.hid (GathT.step HG.out ((kx.out.alloc _).alloc _) ho3 hm3 hb3); obtain ⟨A3, c3, rfl⟩ := own_value ho3; have kt := (((Blk.new w' 55 #[.int .i64 t.kind, .string t.s, .int .i64 t.n, .int .i64 t.at_, .bool t.lay]).ext (ext_box4 _ (.cells #[.int .i64 t.kind, .string t.s, .int .i64 t.n, .int .i64 t.at_, .bool t.lay] 55))).mods hm3 (fun hm => by have := own_lt HG.out.own (mem_ownL hm); have := kx.out.size; omega)).cell; clear ho3 hm3 hb3))
     go_roundw
     case rel => exact ⟨e, acc ++ [t], he2, by simp; omega, rfl, by have := hG3.out; simpa using Lib.hid this, Lib.hid HX2.out.symm⟩
     case measure => simp [intOf]; omega
   ·have hX2 : X = .error (e, 3) := HXS.out.trans ((if_neg (fun h => absurd h.1 (by decide))).trans (if_pos (by decide)))
    clear hst
    subst hX2
    go_wp2_with (go_at_call 63; refine HC.out.mono ?_; rintro e1 w' ⟨rfl, hx⟩; have kx := Lib.hid hx; clear hx)
    go_ret3
    exact ⟨rfl, (HG.out.ext.trans kx.out).alloc _⟩
   ·clear hst
    cases acc with
    | nil =>
     have hX2 : X = .error (e, 4) := HXS.out.trans ((if_neg (fun h => h.2 rfl)).trans (if_pos (by decide)))
     subst hX2
     go_wp2_with (go_at_call 63; refine HC.out.mono ?_; rintro e1 w' ⟨rfl, hx⟩; have kx := Lib.hid hx; clear hx)
     go_ret3
     exact ⟨rfl, (HG.out.ext.trans kx.out).alloc _⟩
    | cons a0 acc0 =>
     have hX2 : X = .error (e, 101) := HXS.out.trans (if_pos ⟨rfl, by simp⟩)
     subst hX2
     go_wp2_with (go_at_call 63; refine HC.out.mono ?_; rintro e1 w' ⟨rfl, hx⟩; have kx := Lib.hid hx; clear hx)
     go_ret3
     exact ⟨rfl, (HG.out.ext.trans kx.out).alloc _⟩
   ·have hX2 : X = .error (e, 80) := HXS.out.trans ((if_neg (fun h => absurd h.1 (by decide))).trans (if_pos (by decide)))
    clear hst
    subst hX2
    go_wp2_with (go_at_call 63; refine HC.out.mono ?_; rintro e1 w' ⟨rfl, hx⟩; have kx := Lib.hid hx; clear hx)
    go_ret3
    exact ⟨rfl, (HG.out.ext.trans kx.out).alloc _⟩
   ·have hX2 : X = .error (e, 81) := HXS.out.trans ((if_neg (fun h => absurd h.1 (by decide))).trans (if_pos (by decide)))
    clear hst
    subst hX2
    go_wp2_with (go_at_call 63; refine HC.out.mono ?_; rintro e1 w' ⟨rfl, hx⟩; have kx := Lib.hid hx; clear hx)
    go_ret3
    exact ⟨rfl, (HG.out.ext.trans kx.out).alloc _⟩
end Go.Proofs.YtgcdhffeacdegaaGreatDoor

/- Layer 10, the program: a new parser; the walk of Clause. -/
namespace Go.Proofs.YtgcdhffeacdegaaGreatDoor
open Go.RowKit Go.El
structure OpsOk (w : World) (tb : Nat) (I Q : List OpV) : Prop where
 tab : ∃ m1 m2, TabAt w tb m1 m2 I Q
 bnd : ∀ p : OpV, p ∈ I ∨ p ∈ Q → -1000000 ≤ p.p ∧ p.p ≤ 1000000
 typ : TypesAt 0 w
theorem OpsOk.ext {w w' : World} {tb : Nat} {I Q : List OpV} (h : OpsOk w tb I Q) (x : Ext w w') : OpsOk w' tb I Q := ⟨h.tab.imp fun _ k => k.imp fun _ k => k.ext x, h.bnd, h.typ.ext x⟩
def newF (W : World) (A : Option Addr) (c : Nat) (L : List TokV) (I Q : List OpV) (tb : Nat) : PF := ⟨W.heap.size + 1, W.heap.size, A, c, L, I, Q, tb⟩
def newP (W : World) (A : Option Addr) (c n tb : Nat) : Array Value := #[.slice A n c, .int .i64 0, .pointer (some ⟨tb, 0, none⟩), .slice none 0 0, .map (some W.heap.size), .bool false]
def newW (W : World) (A : Option Addr) (c n tb : Nat) : World := (W.alloc (.map #[] 0)).alloc (.cells (newP W A c n tb) 81)
theorem newW_ext (W : World) (A : Option Addr) (c n tb : Nat) : Ext W (newW W A c n tb) := ((Ext.refl W).alloc _).alloc _
theorem PaAt.start {X W : World} {A : Option Addr} {c : Nat} {L : List TokV} {I Q : List OpV} {tb : Nat} (hg : GathT X W (.slice A L.length c) L) (hL : ToksOk L) (ho : OpsOk W tb I Q) :
  PaAt (newF W A c L I Q tb) (newW W A c L.length tb) L (.slice none 0 0) [] false := by
 have hx := newW_ext W A c L.length tb
 have hsz : (newW W A c L.length tb).heap.size = W.heap.size + 2 := by simp [newW]
 obtain ⟨m1, m2, ht⟩ := ho.tab
 have hclr : ∀ k, k < W.heap.size → Clr2 (newF W A c L I Q tb).S (.slice none 0 0) (newW W A c L.length tb) k := fun k hk =>
  ⟨by simp [PF.S, newF]; omega, by simp [Value.ownBlock], by rw [hsz]; omega⟩
 have hne : L ≠ [] := by
  obtain ⟨M, E, e, _⟩ := hL.fin
  simp [e]
 have hbk : Blk (newW W A c L.length tb) (W.heap.size + 1) 81 (newP W A c L.length tb) := by
  have := Blk.new (W.alloc (.map #[] 0)) 81 (newP W A c L.length tb)
  rw [World.size_alloc] at this
  exact this
 have hpl : plI L L = 0 := by simp [plI]
 have hA : ∀ a, A = some a → a.block < W.heap.size := fun a ha => own_lt hg.own (by rw [ha]; rfl)
 refine ⟨?_, World.ownsRow_nil _ _ _ _, ⟨[], (MapAt.new _ W).ext ((Ext.refl _).alloc _), fun s _ => rfl⟩, (Src.of_own hg.own).ext hx, hL, List.suffix_rfl, hne, ⟨m1, m2, ht.ext hx, hclr _ (cell_lt ht.c0), hclr _ ht.mi.lt, hclr _ ht.mq.lt⟩, ho.bnd, ho.typ.ext hx, hclr _ (cell_lt ho.typ.h0), fun a ha => hclr _ (hA a ha), by simp [newF], by simp [Value.ownBlock], by simp [Value.ownBlock], by simp [newF], own_cap hg.own⟩
 show Blk _ _ _ (paA (newF W A c L I Q tb) L (.slice none 0 0) false)
 unfold paA
 simp only [newF, hpl]
 exact hbk
end Go.Proofs.YtgcdhffeacdegaaGreatDoor

/- Layer 10, the program: the walk of Clause. -/
namespace Go.Proofs.YtgcdhffeacdegaaGreatDoor
open Go.RowKit Go.El
theorem zeroRead (W : World) : (zeroValue 35).run Tryz.prog W = .ok (.agg #[.int .i64 0, .int .i64 0, .string ⟨#[]⟩, .slice none 0 0, .slice none 0 0, .int .i64 0]) W := by kernel_rfl
theorem blk_set6 {w : World} {g : Nat} {t : TypeId} {a b c d e f : Value} (h : Blk w g t #[a, b, c, d, e, f]) (a' b' c' d' e' f' : Value) : Blk ((((((w.setCell ⟨g, 0, none⟩ a').setCell ⟨g, 1, none⟩ b').setCell ⟨g, 2, none⟩ c').setCell ⟨g, 3, none⟩ d').setCell ⟨g, 4, none⟩ e').setCell ⟨g, 5, none⟩ f') g t #[a', b', c', d', e', f'] := (((((h.set_ 0 a').set_ 1 b').set_ 2 c').set_ 3 d').set_ 4 e').set_ 5 f'
theorem ext_set6 {w w' : World} (h : Ext w w') {g : Nat} (hg : w.heap.size ≤ g) (a' b' c' d' e' f' : Value) : Ext w ((((((w'.setCell ⟨g, 0, none⟩ a').setCell ⟨g, 1, none⟩ b').setCell ⟨g, 2, none⟩ c').setCell ⟨g, 3, none⟩ d').setCell ⟨g, 4, none⟩ e').setCell ⟨g, 5, none⟩ f') := (((((h.setCell (p := ⟨g, 0, none⟩) hg a').setCell (p := ⟨g, 1, none⟩) hg b').setCell (p := ⟨g, 2, none⟩) hg c').setCell (p := ⟨g, 3, none⟩) hg d').setCell (p := ⟨g, 4, none⟩) hg e').setCell (p := ⟨g, 5, none⟩) hg f'
def rdV (t : Tm) (A : Option Addr) (c : Nat) (n : Option Addr) (m k : Nat) (nx : Int) : Value := .agg #[.int .i64 (Tm.k t), .int .i64 (Tm.n t), .string (Tm.s t), .slice A (Tm.l t).length c, .slice n m k, .int .i64 nx]
def ReadAt (X w : World) (v : Value) (r : ReadV) : Prop := ∃ A c n k, v = rdV r.t A c n r.ns.length k r.nx ∧ TmIn (fun b => X.heap.size ≤ b ∧ b < w.heap.size) w r.t A c ∧ El.Src w n r.ns.length 1 (r.ns.map Value.string) ∧ r.ns.length ≤ k ∧ ∀ a, n = some a → X.heap.size ≤ a.block ∧ a.block < w.heap.size
theorem ReadAt.zero (X w : World) : ReadAt X w (.agg #[.int .i64 0, .int .i64 0, .string ⟨#[]⟩, .slice none 0 0, .slice none 0 0, .int .i64 0]) zeroR :=
 ⟨none, 0, none, 0, rfl, TmsIn.nil _ _ _ _, ⟨rfl, fun h => absurd h (Nat.lt_irrefl 0)⟩, Nat.le_refl _, fun _ h => by cases h⟩
def ClPost (w : World) (x : ReadV × Int × Int) (e : Ending) (w' : World) : Prop := ∃ v, e = .returned (.tuple #[v, .int .i64 x.2.1, .int .i64 x.2.2]) ∧ ReadAt w w' v x.1 ∧ Ext w w'
set_option maxRecDepth 100000 in
set_option maxHeartbeats 4000000 in
theorem pClause_err {A : Option Addr} {cap : Nat} {B : List UInt8} {i tb : Nat} {w : World} (h : BytesAt w A B) (hi : i ≤ B.length) (hB : B.length ≤ 65536) (hcap : B.length ≤ cap) (g : Glob w) {k : Nat} {x : Int} (hx : ctoks B i = .error (k, x)) (hx0 : x ≠ 0) :
  Calls Tryz.prog 14 #[.slice A B.length cap, .int .i64 (i : Int), .pointer (some ⟨tb, 0, none⟩)] w (ClPost w (zeroR, k, x)) := by
 have hxx := ext_box4 w (.cells #[.int .i64 0, .int .i64 0, .string ⟨#[]⟩, .slice none 0 0, .slice none 0 0, .int .i64 0] 35)
 have HT := Lib.hid (pTokens (h.ext hxx) hi hB hcap (g.ext hxx))
 rw [hx] at HT
 have HX := Lib.hid hxx
 have HZ := Lib.hid (Blk.new w 35 #[.int .i64 0, .int .i64 0, .string ⟨#[]⟩, .slice none 0 0, .slice none 0 0, .int .i64 0])
 have e0 : (x != 0) = true := by simpa using hx0
 have hzr := zeroRead
 clear h hx hxx hx0 g
 go_enter Tryz.func14, Tryz.ntmps14
 go_upto_region 5 with (go_at_call 40; refine HT.out.mono ?_; rintro e W1 ⟨rfl, x1⟩; have X1 := Lib.hid (HX.out.trans x1); have Z1 := Lib.hid (HZ.out.ext x1); have zc := (HZ.out.ext x1).cell; have zf := (HZ.out.ext x1).frozen; clear x1)
 go_wp2_with fail
 have kb := blk_set6 Z1.out (.int .i64 0) (.int .i64 0) (.string ⟨#[]⟩) (.slice none 0 0) (.slice none 0 0) (.int .i64 0)
 have kc := kb.cell
 refine bodyPost_ret (v := .tuple #[.agg #[.int .i64 0, .int .i64 0, .string ⟨#[]⟩, .slice none 0 0, .slice none 0 0, .int .i64 0], .int .i64 k, .int .i64 x]) ?_ rfl ⟨_, rfl, ReadAt.zero _ _, ext_set6 X1.out (Nat.le_refl _) _ _ _ _ _ _⟩
 simp [results, Tryz.results14, go_sem, kc]
end Go.Proofs.YtgcdhffeacdegaaGreatDoor
