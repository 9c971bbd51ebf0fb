/- Layer 16: the walks of the search of an operation. -/
import Derived.Test.YtmnnhdegoapfcaaGreatDoorC34
import Derived.Test.YtmnnhdegoapfcaaGreatDoorC32
import Derived.Test.YtmnnhdegoapfcaaGreatDoorC33
import Derived.Test.YtmnnhdegoapfcaaGreatDoorC25
namespace Go.Proofs.YtmnnhdegoapfcaaGreatDoor
open Go.RowKit Go.El

theorem ret_bB {a b : Bool} (h : a = b) : Ending.returned (.bool a) = .returned (.bool b) := by rw [h]
set_option maxRecDepth 100000 in
theorem isName_any (nm hd : List UInt8) (fl : Int) (hb : Nat) (w : World) (h : w.cell? ⟨hb, 0, none⟩ = some (.string (mkB hd))) :
    Calls Tryz.prog 58 #[.agg #[.string (mkB nm), .int .i64 fl], .pointer (some ⟨hb, 0, none⟩)] w fun e w' => e = .returned (.bool (nm == hd)) ∧ Ext w w' := by
  have hx := ext_boxI w (.cells #[.string (mkB nm), .int .i64 fl] 109)
  have h2 := hx.cell h
  have q0 := (Blk.new w 109 #[.string (mkB nm), .int .i64 fl]).cell 0
  have HX := Lib.hid hx
  have HT : Hid (((mkB nm).toList == (mkB hd).toList) = (nm == hd)) := Lib.hid (by rw [ByteArray.toList_eq, ByteArray.toList_eq, mkB_list, mkB_list])
  generalize mkB nm = a at *
  generalize mkB hd = b at *
  clear h hx
  go_enter Tryz.func58, Tryz.ntmps58
  go_wp2_with fail
  go_ret
  exact ⟨ret_bB HT.out, HX.out⟩

theorem opTab_len : opTab.length = 31 := rfl
theorem opTab_at {k : Nat} (hk : k < 31) : (opTab[k]'(by rw [opTab_len]; exact hk)).1 = nameAt k := by
  unfold nameAt
  rw [List.getD_eq_getElem?_getD, List.getElem?_eq_getElem (by rw [opTab_len]; exact hk)]
  rfl
theorem opIdx_hit {h : List UInt8} {k : Nat} (hk : k < 31) (hn : ∀ j, j < k → nameAt j ≠ h) (he : nameAt k = h) : opIdx h = k := by
  have : opTab.findIdx? (fun p => p.1 == h) = some k := by
    rw [List.findIdx?_eq_some_iff_getElem]
    refine ⟨by rw [opTab_len]; exact hk, ?_, ?_⟩
    · rw [opTab_at hk, he]
      simp
    · intro j hj
      rw [opTab_at (by omega)]
      simpa using hn j hj
  unfold opIdx
  rw [this]
theorem opIdx_miss {h : List UInt8} (hn : ∀ j, j < 31 → nameAt j ≠ h) : opIdx h = -1 := by
  have : opTab.findIdx? (fun p => p.1 == h) = none := by
    rw [List.findIdx?_eq_none_iff]
    intro p hp
    obtain ⟨j, hj, rfl⟩ := List.mem_iff_getElem.1 hp
    have hj2 : j < 31 := by rw [opTab_len] at hj; exact hj
    rw [opTab_at hj2]
    simpa using hn j hj2
  unfold opIdx
  rw [this]
theorem opIdx_lt (h : List UInt8) : -1 ≤ opIdx h ∧ opIdx h < 31 := by
  unfold opIdx
  cases hf : opTab.findIdx? (fun p => p.1 == h) with
  | none => simp
  | some k =>
    obtain ⟨hk, _⟩ := List.findIdx?_eq_some_iff_getElem.1 hf
    rw [opTab_len] at hk
    simp only
    omega

set_option maxRecDepth 100000 in
set_option maxHeartbeats 2000000 in
theorem indexF_any (hd : List UInt8) (hb : Nat) (w : World) (hT : OpTabAt w) (h : w.cell? ⟨hb, 0, none⟩ = some (.string (mkB hd))) :
    Calls Tryz.prog 57 #[.slice (some ⟨0, 0, none⟩) 31 31, .func (Fn.func 58) #[] #[.pointer (some ⟨hb, 0, none⟩)]] w fun e w' => e = .returned (.int .i64 (opIdx hd)) ∧ Ext w w' := by
  have HT := Lib.hid hT
  have H := Lib.hid h
  clear hT h
  go_enter Tryz.func57, Tryz.ntmps57
  go_wp2_with fail
  go_loopw [8] (fun i wr => ∃ k : Nat, k ≤ 31 ∧ i = .int .i64 k ∧ Hid (Ext w wr) ∧ Hid (∀ j, j < k → nameAt j ≠ hd)) (fun i _ => 31 - (intOf i).toNat)
  case atStart => exact ⟨0, by omega, rfl, Lib.hid (Ext.refl w), Lib.hid (fun j hj => by omega)⟩
  case round =>
    obtain ⟨k, hk, rfl, HX, HN⟩ := hrel
    by_cases hlt : k < 31
    · obtain ⟨d0, d1⟩ := (HT.out.ext HX.out) k hlt
      have hc := HX.out.cell H.out
      have HC := Lib.hid (isName_any (nameAt k) hd (fldAt k) hb wr hc)
      have hk31 : (k : Int) < 31 := by omega
      rw [show ((⟨(nameAt k).toArray⟩ : ByteArray)) = mkB (nameAt k) from rfl] at d0
      clear hc
      cases hq : (nameAt k == hd)
      · have HNE : Hid (nameAt k ≠ hd) := Lib.hid (by simpa using hq)
        rw [hq] at HC
        generalize mkB (nameAt k) = nm at *
        generalize fldAt k = fl at *
        clear hq
        go_wp2_with (go_at_call 58; refine HC.out.mono ?_; rintro e W1 ⟨rfl, hx⟩; have HX1 := Lib.hid (HX.out.trans hx); clear hx)
        go_roundw
        case rel =>
          exact ⟨k + 1, hlt, by go_num, HX1, Lib.hid (fun j hj => by
            rcases Nat.lt_succ_iff_lt_or_eq.1 hj with h | rfl
            · exact HN.out j h
            · exact HNE.out)⟩
        case measure => simp [intOf]; omega
      · have HR := Lib.hid (opIdx_hit hlt HN.out (by simpa using hq))
        rw [hq] at HC
        generalize mkB (nameAt k) = nm at *
        generalize fldAt k = fl at *
        clear hq
        go_wp2_with (go_at_call 58; refine HC.out.mono ?_; rintro e W1 ⟨rfl, hx⟩; have HX1 := Lib.hid (HX.out.trans hx); clear hx)
        go_ret
        exact ⟨by rw [HR.out]; rfl, HX1.out⟩
    · obtain rfl : k = 31 := by omega
      have HR := Lib.hid (opIdx_miss HN.out)
      go_wp2_with fail
      go_ret
      exact ⟨by rw [HR.out]; rfl, HX.out⟩

end Go.Proofs.YtmnnhdegoapfcaaGreatDoor

/- The reference of layer 16: the walks of quoted, number, named. -/
namespace Go.Proofs.YtmnnhdegoapfcaaGreatDoor
open Go.RowKit Go.El

theorem name_short {k : Int} {l : List UInt8} {e0 : Nat} {kd : Int} {s : List UInt8} {n : Int} {e : Nat} (h : nameS k l e0 = .ok (kd, s, n, e)) : s.length ≤ 64 := by
  unfold nameS at h
  split at h
  · cases h
  · injection h with h
    injection h with _ h
    injection h with h _
    subst h
    omega
theorem one_short {B : List UInt8} {i : Nat} {c : UInt8} {kd : Int} {s : List UInt8} {n : Int} {e : Nat} (h : oneS B i c = .ok (kd, s, n, e)) : s.length ≤ 64 := by
  unfold oneS at h
  split at h
  · exact name_short h
  · split at h
    · exact name_short h
    · split at h
      · exact name_short h
      · split at h
        · exact name_short h
        · split at h
          · split at h
            · injection h with h
              injection h with _ h
              injection h with h _
              subst h
              simp
            · cases h
          · split at h
            · exact name_short h
            · split at h
              · exact name_short h
              · split at h
                · split at h
                  · cases h
                  · exact name_short h
                · cases h
theorem scan_short (B : List UInt8) (i : Nat) : (scanS B i).1.s.data.toList.length ≤ 64 := by
  rcases scanS_cases B i with ⟨k, _, g⟩ | ⟨k, _, _, g⟩ | ⟨k, c, x, _, _, hx, g⟩ | ⟨k, c, kd, s, n, e, hs, hk, ho, g⟩
  · rw [g]; exact Nat.zero_le _
  · rw [g]; exact Nat.zero_le _
  · rw [g]; exact Nat.zero_le _
  · rw [g]; exact one_short ho

set_option maxRecDepth 100000 in
set_option maxHeartbeats 4000000 in
theorem rQuotedI_any (s : ByteArray) (hs : s.size ≤ 1000) (w : World) :
    Calls Tryz.prog 145 #[.string s] w fun e w' => e = .returned (.tuple #[.string (mkB ((quotL s.data.toList).getD [])), .bool (quotL s.data.toList).isSome]) ∧ Ext w w' := by
  obtain ⟨Q, hQ⟩ : ∃ Q, quotL s.data.toList = Q := ⟨_, rfl⟩
  rw [hQ]
  unfold quotL at hQ
  by_cases h1 : s.data.toList = [91, 93]
  · rw [if_pos (.inl h1), h1] at hQ
    obtain rfl := mkB_ext h1
    have k1 : ((mkB [91, 93]).toList == [91, 93]) = true := by rw [ByteArray.toList_eq, mkB_list]; decide
    have k1p : ((mkB [91, 93]).toList = [91, 93]) = True := by rw [ByteArray.toList_eq, mkB_list]; simp
    subst hQ
    have hg : mkB (Option.getD (some [91, 93]) []) = mkB [91, 93] := rfl
    rw [hg]
    generalize mkB [91, 93] = s at *
    clear h1
    go_enter Tryz.func145, Tryz.ntmps145
    go_wp2_with fail
    go_ret2
    exact ⟨rfl, Ext.refl _⟩
  have k1p : ¬ s.toList = [91, 93] := by rw [ByteArray.toList_eq]; exact h1
  have k1 : (s.toList == [91, 93]) = false := by simpa using k1p
  by_cases h2 : s.data.toList = [123, 125]
  · rw [if_pos (.inr h2), h2] at hQ
    obtain rfl := mkB_ext h2
    have k2 : ((mkB [123, 125]).toList == [123, 125]) = true := by rw [ByteArray.toList_eq, mkB_list]; decide
    have k2p : ((mkB [123, 125]).toList = [123, 125]) = True := by rw [ByteArray.toList_eq, mkB_list]; simp
    subst hQ
    have hg : mkB (Option.getD (some [123, 125]) []) = mkB [123, 125] := rfl
    rw [hg]
    generalize mkB [123, 125] = s at *
    clear h1 h2
    go_enter Tryz.func145, Tryz.ntmps145
    go_wp2_with fail
    go_ret2
    exact ⟨rfl, Ext.refl _⟩
  have k2p : ¬ s.toList = [123, 125] := by rw [ByteArray.toList_eq]; exact h2
  have k2 : (s.toList == [123, 125]) = false := by simpa using k2p
  rw [if_neg (by rintro (h | h); exact h1 h; exact h2 h)] at hQ
  clear h1 h2
  have hcv4 := Lib.run_convert_string_bytes (P := Tryz.prog) w 9 61 5 s Tryz.underlying9 Tryz.underlying61 Tryz.underlying5
  have hll : s.data.toList.length = s.size := by simp
  have HB := Lib.hid (bytes_new w s)
  have HE := Lib.hid (ext_bytes w 5 s)
  have hsh := scan_short s.data.toList 0
  obtain ⟨t, k, x, hsc⟩ : ∃ t k x, scanS s.data.toList 0 = (t, k, x) := ⟨_, _, _, rfl⟩
  have HS := fun (A : Option Addr) (cap : Nat) (W : World) (h1 : BytesAt W A s.data.toList) (h2 : s.size ≤ cap) => Lib.hid (show Calls Tryz.prog 176 #[.slice A s.size cap, .int .i64 0] W fun e w' => e = .returned (.tuple #[.agg #[.int .i64 t.kind, .string t.s, .int .i64 t.n, .int .i64 t.at_, .bool t.lay], .int .i64 (k : Int), .int .i64 x]) ∧ Ext W w' from by
    have := rScan_any A cap s.data.toList 0 W h1 (Nat.zero_le _) (by omega) (by omega)
    rw [hll, hsc] at this
    exact this)
  rw [hsc] at hQ hsh
  dsimp only at hQ hsh
  rw [hll] at hQ
  generalize Lib.bytesWorld w 5 s = W5 at *
  obtain ⟨kd, ts, tn, ta, tl⟩ := t
  dsimp only at hQ hsh HS
  clear hsc hll
  by_cases hx : x = 0
  case neg =>
    have HR : Hid (Q = none) := Lib.hid (by rw [← hQ, if_pos (.inl hx)])
    have e1 : (x != 0) = true := by simpa using hx
    have e2 : (x == 0) = false := by simpa using hx
    clear hQ hx hsh
    go_enter Tryz.func145, Tryz.ntmps145
    go_wp2_with (go_at_call 176; refine (HS _ _ _ HB.out (grownCap_ge _ _ _ _)).out.mono ?_; rintro e W6 ⟨rfl, hx⟩; have HX6 := Lib.hid (HE.out.trans hx); clear hx)
    go_ret2
    exact ⟨by rw [HR.out]; rfl, HX6.out.alloc _⟩
  subst hx
  by_cases hk : k = s.size
  case neg =>
    have HR : Hid (Q = none) := Lib.hid (by rw [← hQ, if_pos (.inr (.inl hk))])
    have e1 : ((k : Int) != (s.size : Int)) = true := by simp; omega
    have e2 : ((k : Int) == (s.size : Int)) = false := by simp; omega
    clear hQ hk hsh
    go_enter Tryz.func145, Tryz.ntmps145
    go_wp2_with (go_at_call 176; refine (HS _ _ _ HB.out (grownCap_ge _ _ _ _)).out.mono ?_; rintro e W6 ⟨rfl, hx⟩; have HX6 := Lib.hid (HE.out.trans hx); clear hx)
    go_ret2
    exact ⟨by rw [HR.out]; rfl, HX6.out.alloc _⟩
  subst hk
  by_cases hkd : kd ≠ 1 ∧ kd ≠ 2
  · have HR : Hid (Q = none) := Lib.hid (by rw [← hQ, if_pos (.inr (.inr (.inl hkd)))])
    have e1 : (kd != 1) = true := by simpa using hkd.1
    have e2 : (kd != 2) = true := by simpa using hkd.2
    have e3 : (kd == 1) = false := by simpa using hkd.1
    have e4 : (kd == 2) = false := by simpa using hkd.2
    clear hQ hkd hsh
    go_enter Tryz.func145, Tryz.ntmps145
    go_wp2_with (go_at_call 176; refine (HS _ _ _ HB.out (grownCap_ge _ _ _ _)).out.mono ?_; rintro e W6 ⟨rfl, hx⟩; have HX6 := Lib.hid (HE.out.trans hx); clear hx)
    go_ret2
    exact ⟨by rw [HR.out]; rfl, HX6.out.alloc _⟩
  have HQ := fun W => Lib.hid (rQuote_any ts.data.toList W (by omega))
  rw [strB_mk] at HQ
  by_cases hq : quoF ts.data.toList = s.data.toList
  · have HR : Hid (Q = some ts.data.toList) := Lib.hid (by
      rw [← hQ, if_neg]
      rintro (h | h | h | h)
      · exact h rfl
      · exact h rfl
      · exact hkd h
      · exact h hq)
    have hts : mkB ts.data.toList = ts := mkB_back ts
    have HTS := Lib.hid hts
    have e5 : ((strB (quoF ts.data.toList)).toList == s.toList) = true := by rw [ByteArray.toList_eq, ByteArray.toList_eq, strB_toList]; simpa using hq
    have e6 : ((strB (quoF ts.data.toList)).toList != s.toList) = false := by unfold bne; rw [e5]; rfl
    have hkk : ((kd == 1) = true ∧ (kd != 1) = false ∧ (kd == 2) = (kd == 2) ∧ (kd != 2) = (kd != 2)) ∨ ((kd == 1) = false ∧ (kd != 1) = true ∧ (kd == 2) = true ∧ (kd != 2) = false) := by
      have : kd = 1 ∨ kd = 2 := by omega
      rcases this with rfl | rfl
      · exact .inl ⟨rfl, rfl, rfl, rfl⟩
      · exact .inr ⟨rfl, rfl, rfl, rfl⟩
    generalize strB (quoF ts.data.toList) = qt at *
    clear hQ hkd hsh hq hts
    rcases hkk with ⟨d1, d2, _, _⟩ | ⟨d1, d2, d3, d4⟩
    all_goals
      go_enter Tryz.func145, Tryz.ntmps145
      go_upto_region 4 with (go_at_call 176; refine (HS _ _ _ HB.out (grownCap_ge _ _ _ _)).out.mono ?_; rintro e W6 ⟨rfl, hx⟩; have HX6 := Lib.hid (HE.out.trans hx); clear hx)
      have hbk := fun i => (Blk.new W6 186 #[.int .i64 kd, .string ts, .int .i64 tn, .int .i64 ta, .bool tl]).cell i
      go_wp2_with (go_at_call 76; refine (HQ _).out.mono ?_; rintro e W7 ⟨rfl, hx⟩; have HX7 := Lib.hid ((HX6.out.alloc _).trans hx); have z1 := hx.cell (hbk 1); clear hx)
      go_ret2
      exact ⟨by rw [HR.out]; show _ = Ending.returned (.tuple #[.string (mkB ts.data.toList), .bool true]); rw [HTS.out]; rfl, HX7.out⟩
  · have HR : Hid (Q = none) := Lib.hid (by rw [← hQ, if_pos (.inr (.inr (.inr hq)))])
    have e5 : ((strB (quoF ts.data.toList)).toList == s.toList) = false := by rw [ByteArray.toList_eq, ByteArray.toList_eq, strB_toList]; simpa using hq
    have e6 : ((strB (quoF ts.data.toList)).toList != s.toList) = true := by unfold bne; rw [e5]; rfl
    have hkk : ((kd == 1) = true ∧ (kd != 1) = false ∧ (kd == 2) = (kd == 2) ∧ (kd != 2) = (kd != 2)) ∨ ((kd == 1) = false ∧ (kd != 1) = true ∧ (kd == 2) = true ∧ (kd != 2) = false) := by
      have : kd = 1 ∨ kd = 2 := by omega
      rcases this with rfl | rfl
      · exact .inl ⟨rfl, rfl, rfl, rfl⟩
      · exact .inr ⟨rfl, rfl, rfl, rfl⟩
    generalize strB (quoF ts.data.toList) = qt at *
    clear hQ hkd hsh hq
    rcases hkk with ⟨d1, d2, _, _⟩ | ⟨d1, d2, d3, d4⟩
    all_goals
      go_enter Tryz.func145, Tryz.ntmps145
      go_wp2_with (first | (go_at_call 176; refine (HS _ _ _ HB.out (grownCap_ge _ _ _ _)).out.mono ?_; rintro e W6 ⟨rfl, hx⟩; have HX6 := Lib.hid (HE.out.trans hx); clear hx) | (go_at_call 76; refine (HQ _).out.mono ?_; rintro e W7 ⟨rfl, hx⟩; have HX7 := Lib.hid ((HX6.out.alloc _).trans hx); clear hx))
      go_ret2
      exact ⟨by rw [HR.out]; rfl, HX7.out⟩

end Go.Proofs.YtmnnhdegoapfcaaGreatDoor
