/- Layer 8: the walk of TokenQuotes. -/
import Derived.Test.YtgjdajkkncdhmaaDoorPA1
import Derived.Test.YtgjdajkkncdhmaaDoorPQ4
import Derived.Test.YtgjdajkkncdhmaaDoorRQ1
namespace Go.Proofs.YtgjdajkkncdhmaaDoor
open Go.RowKit Go.El

theorem quoF_len (l : List UInt8) : (quoF l).length ≤ 5 * l.length + 2 := by
  have := sgnW_len l
  unfold quoF
  split
  · omega
  · simp only [List.length_append, List.length_cons, List.length_nil]; omega

set_option maxRecDepth 100000 in
set_option maxHeartbeats 8000000 in
theorem tokenQuotes_any (s : ByteArray) (w : World) (hs : s.size ≤ 9223372036854775807) (g : Glob w) (tz : TzAt w) :
    Calls Tryd.prog 4 #[.string s] w fun e w' => e = .returned (.bool true) ∧ Ext w w' := by
  have HG := Lib.hid g
  by_cases hbig : 300 < s.size
  · clear g tz
    go_enter Tryd.func4, Tryd.ntmps4
    go_wp2_with (go_at_call 7; refine (lives_any _ HG.out).mono ?_; rintro e W1 ⟨rfl, hx⟩; have HX := Lib.hid hx; clear hx)
    go_ret
    exact ⟨rfl, HX.out⟩
  · have hll : s.data.toList.length = s.size := by simp
    have HQ := Lib.hid (quoteF_any s.data.toList w (by omega) tz)
    have HR := fun W : World => Lib.hid (rQuote_any s.data.toList W (by omega))
    have HP := fun W : World => Lib.hid (plain_any s W)
    have HP2 := fun W : World => Lib.hid (rPlain_any s W hs)
    have hpl : plainB s = plainL s.data.toList := rfl
    rw [hpl] at HP HP2
    rw [strB_mk] at HQ HR
    have hql := quoF_len s.data.toList
    have hqd := strB_toList (quoF s.data.toList)
    have hsc := scan_quo s.data.toList
    have hcv := fun W : World => Lib.run_convert_string_bytes (P := Tryd.prog) W 9 22 5 (strB (quoF s.data.toList)) Tryd.underlying9 Tryd.underlying22 Tryd.underlying5
    generalize hq : strB (quoF s.data.toList) = q at *
    rw [← hqd] at hql hsc
    have hqs : q.data.toList.length = q.size := by simp
    rw [hqs] at hql hsc
    have HSC : ∀ (t : TokV) (k : Nat) (x : Int), scanS q.data.toList 0 = (t, k, x) → ∀ (A : Option Addr) (cap : Nat) (W : World), BytesAt W A q.data.toList → q.size ≤ cap → Glob W → Calls Tryd.prog 15 #[.slice A q.size cap, .int .i64 0] W fun e w' => e = .returned (.tuple #[.agg #[.int .i64 t.kind, .string t.s, .int .i64 t.n, .int .i64 t.at_, .bool t.lay], .int .i64 (k : Int), .int .i64 x]) ∧ Ext W w' := by
      intro t k x hb A cap W hbt hc gl
      have := pScan_at hb A cap W hbt (Nat.zero_le _) (by omega) (by omega) gl
      rw [hqs] at this
      exact this
    clear tz hq hqd
    by_cases h1 : s.data.toList = [91, 93]
    · obtain rfl := mk_of h1
      generalize plainL _ = pb at HP HP2
      clear hsc HSC hpl hll h1 hcv hql hqs
      go_enter Tryd.func4, Tryd.ntmps4
      go_upto_region 4 with (go_at_call 11; refine HQ.out.mono ?_; rintro e W1 ⟨rfl, hx⟩; have HX := Lib.hid hx; clear hx)
      go_upto_region 6 with (first | (go_at_call 7; refine (lives_any _ (HG.out.ext HX.out)).mono ?_; rintro e W2 ⟨rfl, hx⟩; have HX2 := Lib.hid (HX.out.trans hx); clear hx) | (go_at_call 12; refine (HR _).out.mono ?_; rintro e W3 ⟨rfl, hx⟩; have HX3 := Lib.hid (HX2.out.trans hx); clear hx) | (go_at_call 13; refine (HP _).out.mono ?_; rintro e W4 ⟨rfl, hx⟩; have HX4 := Lib.hid (HX3.out.trans hx); clear hx) | (go_at_call 14; refine (HP2 _).out.mono ?_; rintro e w' ⟨rfl, rfl⟩))
      go_wp2_with fail
      go_ret
      exact ⟨rfl, HX4.out⟩
    by_cases h2 : s.data.toList = [123, 125]
    · obtain rfl := mk_of h2
      generalize plainL _ = pb at HP HP2
      clear hsc HSC hpl hll h2 hcv hql hqs
      go_enter Tryd.func4, Tryd.ntmps4
      go_upto_region 4 with (go_at_call 11; refine HQ.out.mono ?_; rintro e W1 ⟨rfl, hx⟩; have HX := Lib.hid hx; clear hx)
      go_upto_region 6 with (first | (go_at_call 7; refine (lives_any _ (HG.out.ext HX.out)).mono ?_; rintro e W2 ⟨rfl, hx⟩; have HX2 := Lib.hid (HX.out.trans hx); clear hx) | (go_at_call 12; refine (HR _).out.mono ?_; rintro e W3 ⟨rfl, hx⟩; have HX3 := Lib.hid (HX2.out.trans hx); clear hx) | (go_at_call 13; refine (HP _).out.mono ?_; rintro e W4 ⟨rfl, hx⟩; have HX4 := Lib.hid (HX3.out.trans hx); clear hx) | (go_at_call 14; refine (HP2 _).out.mono ?_; rintro e w' ⟨rfl, rfl⟩))
      go_wp2_with fail
      go_ret
      exact ⟨rfl, HX4.out⟩
    have e1 := lit_ne h1
    have e2 := lit_ne h2
    replace hsc := hsc h1 h2
    by_cases h64 : 64 < s.data.toList.length
    · have hb : scanS q.data.toList 0 = (zeroT, 0, 3) := by rw [hsc]; unfold backS; rw [if_pos h64]
      generalize zeroT = z at hb
      generalize plainL _ = pb at HP HP2
      have HS := fun A cap W h1 h2 h3 => Lib.hid (HSC _ _ _ hb A cap W h1 h2 h3)
      have hn64 : 64 < s.size := by omega
      clear hb hsc h1 h2 hpl HSC h64 hqs 
      go_enter Tryd.func4, Tryd.ntmps4
      go_upto_region 4 with (go_at_call 11; refine HQ.out.mono ?_; rintro e W1 ⟨rfl, hx⟩; have HX := Lib.hid hx; clear hx)
      go_upto_region 6 with (first | (go_at_call 7; refine (lives_any _ (HG.out.ext HX.out)).mono ?_; rintro e W2 ⟨rfl, hx⟩; have HX2 := Lib.hid (HX.out.trans hx); clear hx) | (go_at_call 12; refine (HR _).out.mono ?_; rintro e W3 ⟨rfl, hx⟩; have HX3 := Lib.hid (HX2.out.trans hx); clear hx) | (go_at_call 13; refine (HP _).out.mono ?_; rintro e W4 ⟨rfl, hx⟩; have HX4 := Lib.hid (HX3.out.trans hx); clear hx) | (go_at_call 14; refine (HP2 _).out.mono ?_; rintro e w' ⟨rfl, rfl⟩))
      go_upto_region 8 with fail
      have hcv4 := hcv W4
      have HB := Lib.hid (bytes_new W4 q)
      have HE := Lib.hid (HX4.out.trans (ext_bytes W4 5 q))
      generalize Lib.bytesWorld W4 5 q = W5 at hcv4 HB HE
      clear hcv HX HX2 HX3 HR HP
      go_upto_region 9 with (go_at_call 15; refine (HS _ _ _ HB.out (grownCap_ge _ _ _ _) (HG.out.ext HE.out)).out.mono ?_; rintro e W6 ⟨rfl, hx⟩; have HX6 := Lib.hid (HE.out.trans hx); clear hx)
      go_wp2_with fail
      go_ret
      exact ⟨rfl, HX6.out.trans ((Ext.refl W6).alloc _)⟩
    · cases hp : plainL s.data.toList
      · rw [hp] at HP HP2 hsc
        have hb : scanS q.data.toList 0 = (⟨2, s, 0, 0, false⟩, q.size, 0) := by rw [hsc]; unfold backS; rw [if_neg h64, if_neg Bool.false_ne_true]
        have HS := fun A cap W h1 h2 h3 => Lib.hid (HSC _ _ _ hb A cap W h1 h2 h3)
        have hn64 : ¬ 64 < s.size := by omega
        clear hb hsc h1 h2 hpl HSC h64 hqs 
        go_enter Tryd.func4, Tryd.ntmps4
        go_upto_region 4 with (go_at_call 11; refine HQ.out.mono ?_; rintro e W1 ⟨rfl, hx⟩; have HX := Lib.hid hx; clear hx)
        go_upto_region 6 with (first | (go_at_call 7; refine (lives_any _ (HG.out.ext HX.out)).mono ?_; rintro e W2 ⟨rfl, hx⟩; have HX2 := Lib.hid (HX.out.trans hx); clear hx) | (go_at_call 12; refine (HR _).out.mono ?_; rintro e W3 ⟨rfl, hx⟩; have HX3 := Lib.hid (HX2.out.trans hx); clear hx) | (go_at_call 13; refine (HP _).out.mono ?_; rintro e W4 ⟨rfl, hx⟩; have HX4 := Lib.hid (HX3.out.trans hx); clear hx) | (go_at_call 14; refine (HP2 _).out.mono ?_; rintro e w' ⟨rfl, rfl⟩))
        go_upto_region 8 with fail
        have hcv4 := hcv W4
        have HB := Lib.hid (bytes_new W4 q)
        have HE := Lib.hid (HX4.out.trans (ext_bytes W4 5 q))
        generalize Lib.bytesWorld W4 5 q = W5 at hcv4 HB HE
        clear hcv HX HX2 HX3 HR HP
        go_upto_region 9 with (go_at_call 15; refine (HS _ _ _ HB.out (grownCap_ge _ _ _ _) (HG.out.ext HE.out)).out.mono ?_; rintro e W6 ⟨rfl, hx⟩; have HX6 := Lib.hid (HE.out.trans hx); clear hx)
        go_wp2_with (go_at_call 14; refine (HP2 _).out.mono ?_; rintro e w' ⟨rfl, rfl⟩)
        go_ret
        exact ⟨rfl, HX6.out.trans ((Ext.refl W6).alloc _)⟩
      · rw [hp] at HP HP2 hsc
        have hb : scanS q.data.toList 0 = (⟨1, s, 0, 0, false⟩, q.size, 0) := by rw [hsc]; unfold backS; rw [if_neg h64, if_pos rfl]
        have HS := fun A cap W h1 h2 h3 => Lib.hid (HSC _ _ _ hb A cap W h1 h2 h3)
        have hn64 : ¬ 64 < s.size := by omega
        clear hb hsc h1 h2 hpl HSC h64 hqs 
        go_enter Tryd.func4, Tryd.ntmps4
        go_upto_region 4 with (go_at_call 11; refine HQ.out.mono ?_; rintro e W1 ⟨rfl, hx⟩; have HX := Lib.hid hx; clear hx)
        go_upto_region 6 with (first | (go_at_call 7; refine (lives_any _ (HG.out.ext HX.out)).mono ?_; rintro e W2 ⟨rfl, hx⟩; have HX2 := Lib.hid (HX.out.trans hx); clear hx) | (go_at_call 12; refine (HR _).out.mono ?_; rintro e W3 ⟨rfl, hx⟩; have HX3 := Lib.hid (HX2.out.trans hx); clear hx) | (go_at_call 13; refine (HP _).out.mono ?_; rintro e W4 ⟨rfl, hx⟩; have HX4 := Lib.hid (HX3.out.trans hx); clear hx) | (go_at_call 14; refine (HP2 _).out.mono ?_; rintro e w' ⟨rfl, rfl⟩))
        go_upto_region 8 with fail
        have hcv4 := hcv W4
        have HB := Lib.hid (bytes_new W4 q)
        have HE := Lib.hid (HX4.out.trans (ext_bytes W4 5 q))
        generalize Lib.bytesWorld W4 5 q = W5 at hcv4 HB HE
        clear hcv HX HX2 HX3 HR HP
        go_upto_region 9 with (go_at_call 15; refine (HS _ _ _ HB.out (grownCap_ge _ _ _ _) (HG.out.ext HE.out)).out.mono ?_; rintro e W6 ⟨rfl, hx⟩; have HX6 := Lib.hid (HE.out.trans hx); clear hx)
        go_wp2_with (go_at_call 14; refine (HP2 _).out.mono ?_; rintro e w' ⟨rfl, rfl⟩)
        go_ret
        exact ⟨rfl, HX6.out.trans ((Ext.refl W6).alloc _)⟩

end Go.Proofs.YtgjdajkkncdhmaaDoor
