/- Layer 16: the walks of atoi, word, unreg. -/
import Derived.Test.YtmnnhdegoapfcaaGreatDoorC10
import Derived.Test.YtmnnhdegoapfcaaGreatDoorC16
import Derived.Test.YtmnnhdegoapfcaaGreatDoorC28
import Derived.Deep.RegionLaw
namespace Go.Proofs.YtmnnhdegoapfcaaGreatDoor
open Go.RowKit Go.El

theorem atoi_calls (s : ByteArray) (hs : s.size ≤ 10000) (w : World) (he : Env w) :
    Calls Tryz.prog 104 #[.string s] w fun e w' => ∃ x, e = .returned (.tuple #[.int .i64 (atoiF s.data.toList), x]) ∧ Ext w w' := by
  rcases h : Lib.atoiAll s.data.toList with v | _ | _
  · refine (Tryz.strconv_Atoi_ok s (by omega) v h w).mono ?_
    rintro e w' ⟨rfl, hw⟩
    refine ⟨_, by unfold atoiF; rw [h], ?_⟩
    rcases hw with rfl | ⟨t, rfl⟩
    · exact Ext.refl _
    · exact ext_bytes w _ t
  · obtain ⟨te, pe, hv⟩ := he.syn
    refine (Tryz.strconv_Atoi_syntax s (by omega) (h.trans rfl) _ w hv (.inr ⟨te, pe, rfl⟩)).mono ?_
    rintro e w' ⟨N, rfl, _, _, x⟩
    exact ⟨_, by unfold atoiF; rw [h], x⟩
  · obtain ⟨te, pe, hv⟩ := he.glob.err
    refine (Tryz.strconv_Atoi_range s (by omega) h _ w hv (.inr ⟨te, pe, rfl⟩)).mono ?_
    rintro e w' ⟨N, rfl, _, _, x⟩
    exact ⟨_, by unfold atoiF; rw [h], x⟩

set_option maxRecDepth 100000 in
theorem atoiF_any (s : ByteArray) (hs : s.size ≤ 10000) (w : World) (he : Env w) :
    Calls Tryz.prog 61 #[.string s] w fun e w' => e = .returned (.int .i64 (atoiF s.data.toList)) ∧ Ext w w' := by
  have HA := Lib.hid (atoi_calls s hs w he)
  generalize atoiF s.data.toList = n at *
  clear he
  go_enter Tryz.func61, Tryz.ntmps61
  go_wp2_with (go_at_call 104; refine HA.out.mono ?_; rintro e W1 ⟨x, rfl, hx⟩; have HX := Lib.hid hx; clear hx)
  go_ret
  exact ⟨rfl, HX.out⟩

theorem last_in (s : ByteArray) (c : Int) : Lib.lastIndexByte s c = -1 ∨ ∃ i : Nat, i < s.size ∧ Lib.lastIndexByte s c = i := by
  rcases Lib.lastIndexByte_spec s c with ⟨h, _⟩ | ⟨i, h1, h2, _⟩
  · exact .inl h
  · exact .inr ⟨i, h1, h2⟩
set_option maxRecDepth 100000 in
theorem word_any (s : ByteArray) (hs : s.size ≤ 10000) (w : World) :
    Calls Tryz.prog 60 #[.string s] w fun e w' => e = .returned (.tuple #[.string (wordB s).1, .string (wordB s).2]) ∧ Ext w w' := by
  have HL := Lib.hid (Tryz.strings_LastIndexByte s 32 (by omega) w)
  rcases last_in s 32 with h | ⟨i, hi, h⟩
  · rw [show wordB s = (bE, s) by unfold wordB; rw [h]; rfl]
    rw [h] at HL
    clear h
    go_enter Tryz.func60, Tryz.ntmps60
    go_wp2_with (go_at_call 103; refine HL.out.mono ?_; rintro e W1 ⟨rfl, rfl⟩)
    go_ret2
    exact ⟨rfl, Ext.refl _⟩
  · rw [show wordB s = (s.extract 0 i, s.extract (i + 1) s.size) by unfold wordB; rw [h, if_neg (by omega), Int.toNat_natCast]]
    rw [h] at HL
    have h1 : i + 1 ≤ s.size := hi
    clear h
    go_enter Tryz.func60, Tryz.ntmps60
    go_wp2_with (go_at_call 103; refine HL.out.mono ?_; rintro e W1 ⟨rfl, rfl⟩)
    go_quiet (fail)
    go_wp2_with fail
    go_ret2
    exact ⟨rfl, (Ext.refl _).drewN _⟩

theorem pre_size {s : ByteArray} {c : UInt8} (h : Lib.hasPrefix s.data.toList [c] = true) : 1 ≤ s.size := by
  have e : s.data.toList.length = s.size := by simp
  cases hl : s.data.toList with
  | nil => rw [hl] at h; simp [Lib.hasPrefix, List.isPrefixOf] at h
  | cons d r => rw [hl] at e; simp at e; omega
set_option maxRecDepth 100000 in
theorem unreg_any (s : ByteArray) (hs : s.size ≤ 10000) (w : World) (he : Env w) :
    Calls Tryz.prog 106 #[.string s] w fun e w' => e = .returned (.int .i64 (unregB s)) ∧ Ext w w' := by
  have H1 := Lib.hid (Tryz.strings_HasPrefix s ⟨#[88]⟩ w)
  have H2 := Lib.hid (Tryz.strings_HasPrefix s ⟨#[89]⟩ w)
  have hz : (s.extract 1 s.size).size ≤ 10000 := by simp; omega
  have HA := Lib.hid (atoiF_any (s.extract 1 s.size) hz w he)
  cases h1 : Lib.hasPrefix s.data.toList [88]
  · cases h2 : Lib.hasPrefix s.data.toList [89]
    · have HR : Hid (unregB s = 0) := Lib.hid (by unfold unregB; rw [h1, h2]; rfl)
      rw [show Lib.hasPrefix s.data.toList (⟨#[88]⟩ : ByteArray).data.toList = false from h1] at H1
      rw [show Lib.hasPrefix s.data.toList (⟨#[89]⟩ : ByteArray).data.toList = false from h2] at H2
      clear h1 h2 he
      go_enter Tryz.func106, Tryz.ntmps106
      go_wp2_with (go_at_call 143; first | (refine H1.out.mono ?_; rintro e W1 ⟨rfl, rfl⟩) | (refine H2.out.mono ?_; rintro e W1 ⟨rfl, rfl⟩))
      go_ret
      exact ⟨by rw [HR.out]; rfl, Ext.refl _⟩
    · have hp := pre_size h2
      have HR : Hid (unregB s = RowKit.wrap64 (-(atoiF (s.extract 1 s.size).data.toList))) := Lib.hid (by unfold unregB; rw [h1, h2]; rfl)
      rw [show Lib.hasPrefix s.data.toList (⟨#[88]⟩ : ByteArray).data.toList = false from h1] at H1
      rw [show Lib.hasPrefix s.data.toList (⟨#[89]⟩ : ByteArray).data.toList = true from h2] at H2
      generalize atoiF (s.extract 1 s.size).data.toList = n at *
      clear h1 h2 he hz
      go_enter Tryz.func106, Tryz.ntmps106
      go_wp2_with (first | (go_at_call 143; first | (refine H1.out.mono ?_; rintro e W1 ⟨rfl, rfl⟩) | (refine H2.out.mono ?_; rintro e W1 ⟨rfl, rfl⟩)) | (go_at_call 61; refine HA.out.mono ?_; rintro e W2 ⟨rfl, hx⟩))
      go_ret
      exact ⟨by rw [HR.out]; rfl, hx⟩
  · have hp := pre_size h1
    have HR : Hid (unregB s = atoiF (s.extract 1 s.size).data.toList) := Lib.hid (by unfold unregB; rw [h1]; rfl)
    rw [show Lib.hasPrefix s.data.toList (⟨#[88]⟩ : ByteArray).data.toList = true from h1] at H1
    generalize atoiF (s.extract 1 s.size).data.toList = n at *
    clear h1 he hz H2
    go_enter Tryz.func106, Tryz.ntmps106
    go_wp2_with (first | (go_at_call 143; (refine H1.out.mono ?_; rintro e W1 ⟨rfl, rfl⟩)) | (go_at_call 61; refine HA.out.mono ?_; rintro e W2 ⟨rfl, hx⟩))
    go_ret
    exact ⟨by rw [HR.out]; rfl, hx⟩

end Go.Proofs.YtmnnhdegoapfcaaGreatDoor

/- Layer 16: the walks of unquote, first. -/
namespace Go.Proofs.YtmnnhdegoapfcaaGreatDoor
open Go.RowKit Go.El

set_option maxRecDepth 100000 in
set_option maxHeartbeats 2000000 in
theorem unq_any (s : ByteArray) (hs : s.size ≤ 10000) (w : World) (he : Env w) :
    Calls Tryz.prog 107 #[.string s] w fun e w' => e = .returned (.string (unqB s)) ∧ Ext w w' := by
  have hcv := fun W : World => Lib.run_convert_string_bytes (P := Tryz.prog) W 9 61 5 s Tryz.underlying9 Tryz.underlying61 Tryz.underlying5
  have hcv4 := hcv w
  clear hcv
  have hll : s.data.toList.length = s.size := by simp
  have HB := Lib.hid (bytes_new w s)
  have HE := Lib.hid (ext_bytes w 5 s)
  have HG := Lib.hid (he.glob.ext HE.out)
  obtain ⟨t, k, x, hsc⟩ : ∃ t k x, scanS s.data.toList 0 = (t, k, x) := ⟨_, _, _, rfl⟩
  have HS := fun (A : Option Addr) (cap : Nat) (W : World) (h1 : BytesAt W A s.data.toList) (h2 : s.size ≤ cap) (h3 : Glob W) => Lib.hid (show Calls Tryz.prog 144 #[.slice A s.size cap, .int .i64 0] W fun e w' => e = .returned (.tuple #[.agg #[.int .i64 t.kind, .string t.s, .int .i64 t.n, .int .i64 t.at_, .bool t.lay], .int .i64 (k : Int), .int .i64 x]) ∧ Ext W w' from by
    have := pScan_at hsc A cap W h1 (Nat.zero_le _) (by omega) (by omega) h3
    rw [hll] at this
    exact this)
  have hR : unqB s = if x = 0 ∧ k = s.size then t.s else s := by unfold unqB; rw [hsc]
  generalize Lib.bytesWorld w 5 s = W5 at *
  obtain ⟨R, hR2⟩ : ∃ R, unqB s = R := ⟨_, rfl⟩
  rw [hR2] at hR ⊢
  clear hsc hR2 he hll
  by_cases hx : x = 0
  · by_cases hk : k = s.size
    · have HR : Hid (R = t.s) := Lib.hid (by rw [hR, if_pos ⟨hx, hk⟩])
      subst hx
      subst hk
      clear hR
      go_enter Tryz.func107, Tryz.ntmps107
      go_wp2_with (go_at_call 144; refine (HS _ _ _ HB.out (grownCap_ge _ _ _ _) HG.out).out.mono ?_; rintro e W6 ⟨rfl, hx⟩; have HX6 := Lib.hid (HE.out.trans hx); clear hx)
      go_ret
      exact ⟨by rw [HR.out]; rfl, HX6.out.alloc _⟩
    · have HR : Hid (R = s) := Lib.hid (by rw [hR, if_neg (fun c => hk c.2)])
      have hkk : ((k : Int) == (s.size : Int)) = false := by simp; omega
      subst hx
      clear hR hk
      go_enter Tryz.func107, Tryz.ntmps107
      go_wp2_with (go_at_call 144; refine (HS _ _ _ HB.out (grownCap_ge _ _ _ _) HG.out).out.mono ?_; rintro e W6 ⟨rfl, hx⟩; have HX6 := Lib.hid (HE.out.trans hx); clear hx)
      go_ret
      exact ⟨by rw [HR.out]; rfl, HX6.out.alloc _⟩
  · have HR : Hid (R = s) := Lib.hid (by rw [hR, if_neg (fun c => hx c.1)])
    have hxx : (x == 0) = false := by simpa using hx
    clear hR hx
    go_enter Tryz.func107, Tryz.ntmps107
    go_wp2_with (go_at_call 144; refine (HS _ _ _ HB.out (grownCap_ge _ _ _ _) HG.out).out.mono ?_; rintro e W6 ⟨rfl, hx⟩; have HX6 := Lib.hid (HE.out.trans hx); clear hx)
    go_ret
    exact ⟨by rw [HR.out]; rfl, HX6.out.alloc _⟩

end Go.Proofs.YtmnnhdegoapfcaaGreatDoor

/- Layer 16: the walk of first. -/
namespace Go.Proofs.YtmnnhdegoapfcaaGreatDoor
open Go.RowKit Go.El

def InsBlk (w : World) (b : Nat) (i : Ins) : Prop := Blk w b 25 #[.int .i64 i.op, .string i.s, .int .i64 i.n, .int .i64 i.v, .int .i64 i.a]
theorem InsBlk.ext {w w' : World} {b : Nat} {i : Ins} (h : InsBlk w b i) (x : Ext w w') : InsBlk w' b i := Blk.ext h x
theorem InsBlk.c0 {w : World} {b : Nat} {i : Ins} (h : InsBlk w b i) : w.cell? ⟨b, 0, none⟩ = some (.int .i64 i.op) := Blk.cell h 0
theorem InsBlk.c1 {w : World} {b : Nat} {i : Ins} (h : InsBlk w b i) : w.cell? ⟨b, 1, none⟩ = some (.string i.s) := Blk.cell h 1
theorem InsBlk.c2 {w : World} {b : Nat} {i : Ins} (h : InsBlk w b i) : w.cell? ⟨b, 2, none⟩ = some (.int .i64 i.n) := Blk.cell h 2
theorem InsBlk.c3 {w : World} {b : Nat} {i : Ins} (h : InsBlk w b i) : w.cell? ⟨b, 3, none⟩ = some (.int .i64 i.v) := Blk.cell h 3
theorem InsBlk.c4 {w : World} {b : Nat} {i : Ins} (h : InsBlk w b i) : w.cell? ⟨b, 4, none⟩ = some (.int .i64 i.a) := Blk.cell h 4
theorem InsBlk.fz {w : World} {b : Nat} {i : Ins} (h : InsBlk w b i) (k : Nat) : w.frozen? ⟨b, k, none⟩ = false := Blk.frozen h k
theorem InsBlk.setS {w : World} {b : Nat} {i : Ins} (h : InsBlk w b i) (x : ByteArray) : InsBlk (w.setCell ⟨b, 1, none⟩ (.string x)) b { i with s := x } := Blk.set_ h 1 _
theorem InsBlk.setN {w : World} {b : Nat} {i : Ins} (h : InsBlk w b i) (x : Int) : InsBlk (w.setCell ⟨b, 2, none⟩ (.int .i64 x)) b { i with n := x } := Blk.set_ h 2 _
theorem InsBlk.setV {w : World} {b : Nat} {i : Ins} (h : InsBlk w b i) (x : Int) : InsBlk (w.setCell ⟨b, 3, none⟩ (.int .i64 x)) b { i with v := x } := Blk.set_ h 3 _
theorem InsBlk.setA {w : World} {b : Nat} {i : Ins} (h : InsBlk w b i) (x : Int) : InsBlk (w.setCell ⟨b, 4, none⟩ (.int .i64 x)) b { i with a := x } := Blk.set_ h 4 _
/-- Behind a call that turns an instruction. -/
def InsPost (b : Nat) (i : Ins) (w : World) (e : Ending) (w' : World) : Prop := e = .returned (.tuple #[]) ∧ InsBlk w' b i ∧ Mods [b] w w'

set_option maxRecDepth 100000 in
set_option maxHeartbeats 2000000 in
theorem first_v (b : Nat) (i : Ins) (s : ByteArray) (w : World) (he : Env w) (h : InsBlk w b i) (h0 : 0 ≤ i.op) (h3 : i.op < 31) (hs : s.size ≤ 10000) (k1 : hasF i.op 1 = true) :
    Calls Tryz.prog 63 #[.pointer (some ⟨b, 0, none⟩), .string s] w (InsPost b (firstB i s) w) := by
  obtain ⟨G, hG⟩ : ∃ G, G = firstB i s := ⟨_, rfl⟩
  rw [← hG]
  unfold firstB at hG
  have H1 := Lib.hid (has_any i.op h0 h3 1 1 (by decide) w he.ops)
  rw [k1] at hG H1
  simp only [if_true] at hG
  have HR := Lib.hid hG
  have H := Lib.hid h
  have HE := Lib.hid he
  have c0 := h.c0
  clear hG h he h0 h3 k1
  have HU := Lib.hid (unreg_any s hs w HE.out)
  generalize unregB s = us at *
  go_enter Tryz.func63, Tryz.ntmps63
  go_wp2_with (first | (go_at_call 59; first | ((with_reducible refine H1.out.mono ?_); rintro e W1 ⟨rfl, rfl⟩)) | (go_at_call 106; refine HU.out.mono ?_; rintro e W2 ⟨rfl, hx⟩; have hb := H.out.ext hx; have d3 := hb.c3; have g3 := hb.fz 3; have HB := Lib.hid (hb.setV us); have HX := Lib.hid hx; clear hb hx))
  go_end0
  exact ⟨rfl, by rw [HR.out]; exact HB.out, (Mods.ext HX.out).setCell (p := ⟨b, 3, none⟩) (.inl (by simp)) _⟩

set_option maxRecDepth 100000 in
set_option maxHeartbeats 2000000 in
theorem first_s (b : Nat) (i : Ins) (s : ByteArray) (w : World) (he : Env w) (h : InsBlk w b i) (h0 : 0 ≤ i.op) (h3 : i.op < 31) (hs : s.size ≤ 10000) (k1 : hasF i.op 1 = false) (k8 : hasF i.op 8 = true) :
    Calls Tryz.prog 63 #[.pointer (some ⟨b, 0, none⟩), .string s] w (InsPost b (firstB i s) w) := by
  obtain ⟨G, hG⟩ : ∃ G, G = firstB i s := ⟨_, rfl⟩
  rw [← hG]
  unfold firstB at hG
  have H1 := Lib.hid (has_any i.op h0 h3 1 1 (by decide) w he.ops)
  rw [k1] at hG H1
  have H8 := Lib.hid (has_any i.op h0 h3 8 8 (by decide) w he.ops)
  rw [k8] at hG H8
  simp only [Bool.false_eq_true, if_false, if_true] at hG
  have HR := Lib.hid hG
  have H := Lib.hid h
  have HE := Lib.hid he
  have c0 := h.c0
  clear hG h he h0 h3 k1 k8
  have HU := Lib.hid (unq_any s hs w HE.out)
  generalize unqB s = us at *
  go_enter Tryz.func63, Tryz.ntmps63
  go_wp2_with (first | (go_at_call 59; first | ((with_reducible refine H1.out.mono ?_); rintro e W1 ⟨rfl, rfl⟩) | ((with_reducible refine H8.out.mono ?_); rintro e W1 ⟨rfl, rfl⟩)) | (go_at_call 107; refine HU.out.mono ?_; rintro e W2 ⟨rfl, hx⟩; have hb := H.out.ext hx; have d3 := hb.c1; have g3 := hb.fz 1; have HB := Lib.hid (hb.setS us); have HX := Lib.hid hx; clear hb hx))
  go_end0
  exact ⟨rfl, by rw [HR.out]; exact HB.out, (Mods.ext HX.out).setCell (p := ⟨b, 1, none⟩) (.inl (by simp)) _⟩

set_option maxRecDepth 100000 in
set_option maxHeartbeats 2000000 in
theorem first_n (b : Nat) (i : Ins) (s : ByteArray) (w : World) (he : Env w) (h : InsBlk w b i) (h0 : 0 ≤ i.op) (h3 : i.op < 31) (hs : s.size ≤ 10000) (k1 : hasF i.op 1 = false) (k8 : hasF i.op 8 = false) (k144 : hasF i.op 144 = true) :
    Calls Tryz.prog 63 #[.pointer (some ⟨b, 0, none⟩), .string s] w (InsPost b (firstB i s) w) := by
  obtain ⟨G, hG⟩ : ∃ G, G = firstB i s := ⟨_, rfl⟩
  rw [← hG]
  unfold firstB at hG
  have H1 := Lib.hid (has_any i.op h0 h3 1 1 (by decide) w he.ops)
  rw [k1] at hG H1
  have H8 := Lib.hid (has_any i.op h0 h3 8 8 (by decide) w he.ops)
  rw [k8] at hG H8
  have H144 := Lib.hid (has_any i.op h0 h3 144 144 (by decide) w he.ops)
  rw [k144] at hG H144
  simp only [Bool.false_eq_true, if_false, if_true] at hG
  have HR := Lib.hid hG
  have H := Lib.hid h
  have HE := Lib.hid he
  have c0 := h.c0
  clear hG h he h0 h3 k1 k8 k144
  have HU := Lib.hid (atoiF_any s hs w HE.out)
  generalize atoiF s.data.toList = us at *
  go_enter Tryz.func63, Tryz.ntmps63
  go_wp2_with (first | (go_at_call 59; first | ((with_reducible refine H1.out.mono ?_); rintro e W1 ⟨rfl, rfl⟩) | ((with_reducible refine H8.out.mono ?_); rintro e W1 ⟨rfl, rfl⟩) | ((with_reducible refine H144.out.mono ?_); rintro e W1 ⟨rfl, rfl⟩)) | (go_at_call 61; refine HU.out.mono ?_; rintro e W2 ⟨rfl, hx⟩; have hb := H.out.ext hx; have d3 := hb.c2; have g3 := hb.fz 2; have HB := Lib.hid (hb.setN us); have HX := Lib.hid hx; clear hb hx))
  go_end0
  exact ⟨rfl, by rw [HR.out]; exact HB.out, (Mods.ext HX.out).setCell (p := ⟨b, 2, none⟩) (.inl (by simp)) _⟩

set_option maxRecDepth 100000 in
set_option maxHeartbeats 2000000 in
theorem first_no (b : Nat) (i : Ins) (s : ByteArray) (w : World) (he : Env w) (h : InsBlk w b i) (h0 : 0 ≤ i.op) (h3 : i.op < 31) (k1 : hasF i.op 1 = false) (k8 : hasF i.op 8 = false) (k144 : hasF i.op 144 = false) (k96 : hasF i.op 96 = false) :
    Calls Tryz.prog 63 #[.pointer (some ⟨b, 0, none⟩), .string s] w (InsPost b (firstB i s) w) := by
  obtain ⟨G, hG⟩ : ∃ G, G = firstB i s := ⟨_, rfl⟩
  rw [← hG]
  unfold firstB at hG
  have H1 := Lib.hid (has_any i.op h0 h3 1 1 (by decide) w he.ops)
  rw [k1] at hG H1
  have H8 := Lib.hid (has_any i.op h0 h3 8 8 (by decide) w he.ops)
  rw [k8] at hG H8
  have H144 := Lib.hid (has_any i.op h0 h3 144 144 (by decide) w he.ops)
  rw [k144] at hG H144
  have H96 := Lib.hid (has_any i.op h0 h3 96 96 (by decide) w he.ops)
  rw [k96] at hG H96
  simp only [Bool.false_eq_true, if_false] at hG
  have HR := Lib.hid hG
  have H := Lib.hid h
  have HE := Lib.hid he
  have c0 := h.c0
  clear hG h he h0 h3 k1 k8 k144 k96
  clear HE
  go_enter Tryz.func63, Tryz.ntmps63
  go_wp2_with ((go_at_call 59; first | ((with_reducible refine H1.out.mono ?_); rintro e W1 ⟨rfl, rfl⟩) | ((with_reducible refine H8.out.mono ?_); rintro e W1 ⟨rfl, rfl⟩) | ((with_reducible refine H144.out.mono ?_); rintro e W1 ⟨rfl, rfl⟩) | ((with_reducible refine H96.out.mono ?_); rintro e W1 ⟨rfl, rfl⟩)))
  go_end0
  exact ⟨rfl, by rw [HR.out]; exact H.out, Mods.refl _ _⟩

set_option maxRecDepth 100000 in
set_option maxHeartbeats 2000000 in
theorem first_p (b : Nat) (i : Ins) (s : ByteArray) (w : World) (he : Env w) (h : InsBlk w b i) (h0 : 0 ≤ i.op) (h3 : i.op < 31) (hs : s.size ≤ 10000) (k1 : hasF i.op 1 = false) (k8 : hasF i.op 8 = false) (k144 : hasF i.op 144 = false) (k96 : hasF i.op 96 = true) :
    Calls Tryz.prog 63 #[.pointer (some ⟨b, 0, none⟩), .string s] w (InsPost b (firstB i s) w) := by
  obtain ⟨G, hG⟩ : ∃ G, G = firstB i s := ⟨_, rfl⟩
  rw [← hG]
  unfold firstB at hG
  have H1 := Lib.hid (has_any i.op h0 h3 1 1 (by decide) w he.ops)
  rw [k1] at hG H1
  have H8 := Lib.hid (has_any i.op h0 h3 8 8 (by decide) w he.ops)
  rw [k8] at hG H8
  have H144 := Lib.hid (has_any i.op h0 h3 144 144 (by decide) w he.ops)
  rw [k144] at hG H144
  have H96 := Lib.hid (has_any i.op h0 h3 96 96 (by decide) w he.ops)
  rw [k96] at hG H96
  simp only [Bool.false_eq_true, if_false, if_true] at hG
  have HR := Lib.hid hG
  have H := Lib.hid h
  have HE := Lib.hid he
  have c0 := h.c0
  clear hG h he h0 h3 k1 k8 k144 k96
  have HL := Lib.hid (Tryz.strings_LastIndexByte s 47 (by omega) w)
  have hat : slashB s ≤ s.size ∧ max (Lib.lastIndexByte s 47) 0 = (slashB s : Int) := by
    unfold slashB
    rcases last_in s 47 with e | ⟨j, hj, e⟩
    · rw [e]; omega
    · rw [e]; omega
  obtain ⟨hat1, hat2⟩ := hat
  have hz : (trimB (s.extract (slashB s) s.size) 47).length ≤ s.size := by
    unfold trimB Lib.trimPrefix
    have : (s.extract (slashB s) s.size).data.toList.length ≤ s.size := by simp
    split
    · simp; omega
    · exact this
  generalize Lib.lastIndexByte s 47 = lx at HL hat2
  generalize slashB s = p at *
  have HU := fun (W : World) (x : Ext w W) => Lib.hid (unq_any (s.extract 0 p) (by simp; omega) W (HE.out.ext x))
  have HTr := fun (W : World) => Lib.hid (Tryz.strings_TrimPrefix (s.extract p s.size) ⟨#[47]⟩ W)
  have htr : Lib.trimPrefix (s.extract p s.size).data.toList (⟨#[47]⟩ : ByteArray).data.toList = trimB (s.extract p s.size) 47 := rfl
  rw [htr] at HTr
  have HA := fun (W : World) (x : Ext w W) => Lib.hid (atoiF_any ⟨(trimB (s.extract p s.size) 47).toArray⟩ (Nat.le_trans (Nat.le_of_eq (mkB_size _)) (Nat.le_trans hz hs)) W (HE.out.ext x))
  have hml : (⟨(trimB (s.extract p s.size) 47).toArray⟩ : ByteArray).data.toList = trimB (s.extract p s.size) 47 := mkB_list _
  rw [hml] at HA
  generalize unqB (s.extract 0 p) = us at *
  generalize atoiF (trimB (s.extract p s.size) 47) = un at *
  generalize (⟨(trimB (s.extract p s.size) 47).toArray⟩ : ByteArray) = ts at *
  clear htr hz hml
  go_enter Tryz.func63, Tryz.ntmps63
  go_upto_region 8 with (first | (go_at_call 59; first | ((with_reducible refine H1.out.mono ?_); rintro e W1 ⟨rfl, rfl⟩) | ((with_reducible refine H8.out.mono ?_); rintro e W1 ⟨rfl, rfl⟩) | ((with_reducible refine H144.out.mono ?_); rintro e W1 ⟨rfl, rfl⟩) | ((with_reducible refine H96.out.mono ?_); rintro e W1 ⟨rfl, rfl⟩)) | (go_at_call 103; refine HL.out.mono ?_; rintro e W1 ⟨rfl, rfl⟩))
  go_region_law ((first | (go_simp; go_at_call 107; refine (HU _ (Ext.refl _).drew).out.mono ?_; rintro e V2 ⟨rfl, hx⟩; have HV2 := Lib.hid ((Ext.refl _).drew.trans hx); clear hx) | (go_simp; go_at_call 62; refine (HTr _).out.mono ?_; rintro e V3 ⟨rfl, rfl⟩) | (go_simp; go_at_call 61; refine (HA _ HV2.out).out.mono ?_; rintro e V4 ⟨rfl, hx⟩; have HV := Lib.hid (HV2.out.trans hx); have hb := H.out.ext HV.out; have d1 := hb.c1; have d2 := hb.c2; have g1 := hb.fz 1; have g2 := hb.fz 2; have HB := Lib.hid ((hb.setS us).setN un); clear hb hx)))
  all_goals
    go_wp2_with fail
    go_end0
    exact ⟨rfl, by rw [HR.out]; exact HB.out, ((Mods.ext HV.out).setCell (p := ⟨b, 1, none⟩) (.inl (by simp)) _).setCell (p := ⟨b, 2, none⟩) (.inl (by simp)) _⟩

theorem first_any (b : Nat) (i : Ins) (s : ByteArray) (w : World) (he : Env w) (h : InsBlk w b i) (h0 : 0 ≤ i.op) (h3 : i.op < 31) (hs : s.size ≤ 10000) :
    Calls Tryz.prog 63 #[.pointer (some ⟨b, 0, none⟩), .string s] w (InsPost b (firstB i s) w) := by
  cases k1 : hasF i.op 1
  · cases k8 : hasF i.op 8
    · cases k144 : hasF i.op 144
      · cases k96 : hasF i.op 96
        · exact first_no b i s w he h h0 h3 k1 k8 k144 k96
        · exact first_p b i s w he h h0 h3 hs k1 k8 k144 k96
      · exact first_n b i s w he h h0 h3 hs k1 k8 k144
    · exact first_s b i s w he h h0 h3 hs k1 k8
  · exact first_v b i s w he h h0 h3 hs k1

end Go.Proofs.YtmnnhdegoapfcaaGreatDoor
