/- Layer 8, the program: the walk of integer. -/
import Derived.Test.YtgjdajkkncdhmaaDoorPT11
namespace Go.Proofs.YtgjdajkkncdhmaaDoor
open Go.RowKit Go.El

theorem parseM_digits (M : Nat) (hM : M = 18446744073709551615) : ∀ (l : List UInt8) (acc : Nat), acc ≤ M → (∀ c ∈ l, isDigit c = true) →
    Lib.parseUintM M acc l = if l.foldl (fun n c => 10 * n + (c.toNat - 48)) acc ≤ M then .ok (l.foldl (fun n c => 10 * n + (c.toNat - 48)) acc) else .range
  | [], acc, ha, _ => by simp [Lib.parseUintM, ha]
  | c :: l, acc, ha, hd => by
    have h1 : 48 ≤ c.toNat ∧ c.toNat ≤ 57 := by
      have h2 := isDigit_nat c
      rw [hd c (by simp)] at h2
      simpa using h2
    have hge := numV_ge (10 * acc + (c.toNat - 48)) l
    unfold Lib.parseUintM
    rw [if_pos h1, List.foldl_cons]
    split
    · rw [if_neg (by omega)]
    · split
      · rw [if_neg (by omega)]
      · have e : acc * 10 + (c.toNat - 48) = 10 * acc + (c.toNat - 48) := by omega
        rw [e]
        exact parseM_digits M hM l _ (by omega) (fun d hdm => hd d (by simp [hdm]))
theorem parse_digits {l : List UInt8} (h0 : l ≠ []) (hd : ∀ c ∈ l, isDigit c = true) : Lib.parseIntB 64 l = if numV l < 9223372036854775808 then .ok (numV l : Int) else .range := by
  rcases l with _ | ⟨c, l⟩
  · exact absurd rfl h0
  · have h1 : 48 ≤ c.toNat ∧ c.toNat ≤ 57 := by
      have h2 := isDigit_nat c
      rw [hd c (by simp)] at h2
      simpa using h2
    have hp := parseM_digits (2 ^ 64 - 1) (by decide) (c :: l) 0 (Nat.zero_le _) hd
    unfold Lib.parseIntB Lib.parseUintB
    simp only
    have hsig : ¬ (c.toNat = 43 ∨ c.toNat = 45) := by omega
    rw [if_neg hsig, if_neg (List.cons_ne_nil c l), hp]
    have e : (c :: l).foldl (fun n c => 10 * n + (c.toNat - 48)) 0 = numV (c :: l) := rfl
    rw [e]
    have h45 : ¬ c.toNat = 45 := by omega
    by_cases hb : numV (c :: l) ≤ 2 ^ 64 - 1
    · rw [if_pos hb]
      simp only [h45]
      by_cases hb2 : numV (c :: l) < 9223372036854775808
      · rw [if_pos hb2]
        simp
        omega
      · rw [if_neg hb2]
        simp
        omega
    · rw [if_neg hb, if_neg (by omega)]

theorem parseInt_range {l : List UInt8} (h : Lib.parseIntB 64 l = .range) (hl : l.length ≤ 65536) (w : World) (g : Glob w) :
    Calls Tryd.prog 53 #[.string (strB l), .int .i64 10, .int .i64 64] w fun e w' => ∃ m N, e = .returned (.tuple #[.int .i64 m, .iface 99 (.pointer (some ⟨N, 0, none⟩))]) ∧ Ext w w' := by
  obtain ⟨te, pe, he⟩ := g.err
  have := Any.strconv_ParseInt_10_at64_range Tryd.laysC174 (strB l) (by rw [strB_size]; omega) (by rw [strB_toList]; exact h) (.iface te pe) w he (.inr ⟨te, pe, rfl⟩)
  refine this.mono ?_
  rintro e w' ⟨N, rfl, _, _, hb⟩
  exact ⟨_, N, rfl, hb⟩
theorem parseInt_ok {l : List UInt8} {v : Int} (h : Lib.parseIntB 64 l = .ok v) (hl : l.length ≤ 65536) (w : World) :
    Calls Tryd.prog 53 #[.string (strB l), .int .i64 10, .int .i64 64] w fun e w' => e = .returned (.tuple #[.int .i64 v, .nilIface]) ∧ Ext w w' := by
  have := Tryd.strconv_ParseInt_10_at64_ok (strB l) (by rw [strB_size]; omega) v (by rw [strB_toList]; exact h) w
  refine this.mono ?_
  rintro e w' ⟨rfl, hw⟩
  refine ⟨rfl, ?_⟩
  rcases hw with rfl | ⟨t, rfl⟩
  · exact Ext.refl _
  · exact ext_bytes _ _ _

abbrev digS : ByteArray := ⟨#[48, 49, 50, 51, 52, 53, 54, 55, 56, 57]⟩
theorem dig_has (c : UInt8) : hasB digS c = isDigit c := all_bytes (p := fun c => hasB digS c = isDigit c) (by decide +kernel) c

/-- What integer hands back. -/
def intPV (l : List UInt8) : Value := if numV l ≤ 9007199254740991 then .tuple #[.agg #[.int .i64 4, .string ⟨#[]⟩, .int .i64 (numV l : Int), .int .i64 0, .bool false], .int .i64 0] else .tuple #[.agg #[.int .i64 0, .string ⟨#[]⟩, .int .i64 0, .int .i64 0, .bool false], .int .i64 81]

set_option maxRecDepth 100000 in
set_option maxHeartbeats 4000000 in
theorem integer_any (sb b off cap : Nat) (B : List UInt8) (i : Nat) (c : UInt8) (w : World) (h : ScAt w sb b off cap B i) (o : Old w sb b) (ho : B[i]? = some c) (hc : isDigit c = true) :
    Calls Tryd.prog 41 #[.pointer (some ⟨sb, 0, none⟩)] w fun e w' => e = .returned (intPV (sub B i (rowTo isDigit B i))) ∧ ScIn w w' sb b off cap B (rowTo isDigit B i) := by
  have hle : rowTo isDigit B i ≤ B.length := rowTo_le h.at_
  have hgt := rowTo_gt ho hc
  have hlen := h.len
  have hsl := sub_length (l := B) (i := i) hle
  have hpd := parse_digits (l := sub B i (rowTo isDigit B i)) (fun e => by rw [e] at hsl; simp at hsl; omega) (sub_row_all isDigit B i)
  have HR := Lib.hid (row_any sb b off cap B i digS isDigit dig_has (w.alloc (.cells #[.int .i64 0, .string ⟨#[]⟩, .int .i64 0, .int .i64 0, .bool false] 30)) (h.ext (ext_box _ _)))
  have H0 := Lib.hid ((ScIn.start h).go (ext_box w (.cells #[.int .i64 0, .string ⟨#[]⟩, .int .i64 0, .int .i64 0, .bool false] 30)))
  have HO := Lib.hid o
  have hls : (sub B i (rowTo isDigit B i)).length ≤ 65536 := by omega
  clear h o ho hgt
  generalize hl : sub B i (rowTo isDigit B i) = l at *
  generalize rowTo isDigit B i = e at *
  clear hl hsl
  by_cases h63 : numV l < 9223372036854775808
  · rw [if_pos h63] at hpd
    have HP := fun W => Lib.hid (parseInt_ok hpd hls W)
    by_cases hbig : numV l ≤ 9007199254740991
    · have HN := Lib.hid (show intPV l = _ from if_pos hbig)
      generalize hgs : strB l = s at HR HP
      generalize numV l = n at *
      have hcmp : ¬ (9007199254740991 : Int) < (n : Int) := by omega
      clear hpd hgs hls h63 hbig
      go_enter Tryd.func41, Tryd.ntmps41
      go_wp2_with (first | (go_at_call 40; refine HR.out.mono ?_; rintro e1 w1 ⟨rfl, hy⟩; have kz := zero_in HO.out.ls hy.mods; have HY := Lib.hid (H0.out.then hy); clear hy) | (go_at_call 53; refine (HP _).out.mono ?_; rintro e1 w2 ⟨rfl, hx⟩; have kb := kz.ext hx; have kac := kb.cell; have kaf := kb.frozen; have HX := Lib.hid (HY.out.go hx); have KA := Lib.hid kb; clear hx kb kz))
      have kb := blk_set5 KA.out (.int .i64 4) (.string ⟨#[]⟩) (.int .i64 n) (.int .i64 0) (.bool false)
      have kc := kb.cell
      refine bodyPost_ret (v := intPV l) ?_ rfl ⟨rfl, HX.out.set5 HO.out (Nat.le_refl _) _ _ _ _ _⟩
      rw [HN.out]
      simp [results, Tryd.results41, go_sem, kc]
    · have HN := Lib.hid (show intPV l = _ from if_neg hbig)
      generalize hgs : strB l = s at HR HP
      generalize numV l = n at *
      have hcmp : (9007199254740991 : Int) < (n : Int) := by omega
      clear hpd hgs hls h63 hbig
      go_enter Tryd.func41, Tryd.ntmps41
      go_wp2_with (first | (go_at_call 40; refine HR.out.mono ?_; rintro e1 w1 ⟨rfl, hy⟩; have kz := zero_in HO.out.ls hy.mods; have HY := Lib.hid (H0.out.then hy); clear hy) | (go_at_call 53; refine (HP _).out.mono ?_; rintro e1 w2 ⟨rfl, hx⟩; have kb := kz.ext hx; have kac := kb.cell; have kaf := kb.frozen; have HX := Lib.hid (HY.out.go hx); have KA := Lib.hid kb; clear hx kb kz))
      have kb := blk_set5 KA.out (.int .i64 0) (.string ⟨#[]⟩) (.int .i64 0) (.int .i64 0) (.bool false)
      have kc := kb.cell
      refine bodyPost_ret (v := intPV l) ?_ rfl ⟨rfl, HX.out.set5 HO.out (Nat.le_refl _) _ _ _ _ _⟩
      rw [HN.out]
      simp [results, Tryd.results41, go_sem, kc]
  · rw [if_neg h63] at hpd
    have HP := fun W g => Lib.hid (parseInt_range hpd hls W g)
    have HN := Lib.hid (show intPV l = _ from if_neg (by omega))
    generalize hgs : strB l = s at HR HP
    clear hpd hgs hls h63
    go_enter Tryd.func41, Tryd.ntmps41
    go_wp2_with (first | (go_at_call 40; refine HR.out.mono ?_; rintro e1 w1 ⟨rfl, hy⟩; have kz := zero_in HO.out.ls hy.mods; have HY := Lib.hid (H0.out.then hy); clear hy) | (go_at_call 53; refine (HP _ HY.out.sc.glob).out.mono ?_; rintro e1 w2 ⟨m, N, rfl, hx⟩; have kb := kz.ext hx; have kac := kb.cell; have kaf := kb.frozen; have HX := Lib.hid (HY.out.go hx); have KA := Lib.hid kb; clear hx kb kz))
    have kb := blk_set5 KA.out (.int .i64 0) (.string ⟨#[]⟩) (.int .i64 0) (.int .i64 0) (.bool false)
    have kc := kb.cell
    refine bodyPost_ret (v := intPV l) ?_ rfl ⟨rfl, HX.out.set5 HO.out (Nat.le_refl _) _ _ _ _ _⟩
    rw [HN.out]
    simp [results, Tryd.results41, go_sem, kc]

end Go.Proofs.YtgjdajkkncdhmaaDoor
