/- Layer 16: the walk of first. -/
import Derived.Test.YtlkpiigdmmhkpaaGreatDoorC32
import Derived.Deep.RegionLaw
namespace Go.Proofs.YtlkpiigdmmhkpaaGreatDoor
open Go.RowKit Go.El

def InsBlk (w : World) (b : Nat) (i : Ins) : Prop := Blk w b 23 #[.int .i64 i.op, .string i.s, .int .i64 i.n, .int .i64 i.v, .int .i64 i.a]
theorem InsBlk.ext {w w' : World} {b : Nat} {i : Ins} (h : InsBlk w b i) (x : Ext w w') : InsBlk w' b i := Blk.ext h x
theorem InsBlk.c0 {w : World} {b : Nat} {i : Ins} (h : InsBlk w b i) : w.cell? ⟨b, 0, none⟩ = some (.int .i64 i.op) := Blk.cell h 0
theorem InsBlk.c1 {w : World} {b : Nat} {i : Ins} (h : InsBlk w b i) : w.cell? ⟨b, 1, none⟩ = some (.string i.s) := Blk.cell h 1
theorem InsBlk.c2 {w : World} {b : Nat} {i : Ins} (h : InsBlk w b i) : w.cell? ⟨b, 2, none⟩ = some (.int .i64 i.n) := Blk.cell h 2
theorem InsBlk.c3 {w : World} {b : Nat} {i : Ins} (h : InsBlk w b i) : w.cell? ⟨b, 3, none⟩ = some (.int .i64 i.v) := Blk.cell h 3
theorem InsBlk.c4 {w : World} {b : Nat} {i : Ins} (h : InsBlk w b i) : w.cell? ⟨b, 4, none⟩ = some (.int .i64 i.a) := Blk.cell h 4
theorem InsBlk.fz {w : World} {b : Nat} {i : Ins} (h : InsBlk w b i) (k : Nat) : w.frozen? ⟨b, k, none⟩ = false := Blk.frozen h k
theorem InsBlk.setS {w : World} {b : Nat} {i : Ins} (h : InsBlk w b i) (x : ByteArray) : InsBlk (w.setCell ⟨b, 1, none⟩ (.string x)) b { i with s := x } := Blk.set_ h 1 _
theorem InsBlk.setN {w : World} {b : Nat} {i : Ins} (h : InsBlk w b i) (x : Int) : InsBlk (w.setCell ⟨b, 2, none⟩ (.int .i64 x)) b { i with n := x } := Blk.set_ h 2 _
theorem InsBlk.setV {w : World} {b : Nat} {i : Ins} (h : InsBlk w b i) (x : Int) : InsBlk (w.setCell ⟨b, 3, none⟩ (.int .i64 x)) b { i with v := x } := Blk.set_ h 3 _
theorem InsBlk.setA {w : World} {b : Nat} {i : Ins} (h : InsBlk w b i) (x : Int) : InsBlk (w.setCell ⟨b, 4, none⟩ (.int .i64 x)) b { i with a := x } := Blk.set_ h 4 _
/-- Behind a call that turns an instruction. -/
def InsPost (b : Nat) (i : Ins) (w : World) (e : Ending) (w' : World) : Prop := e = .returned (.tuple #[]) ∧ InsBlk w' b i ∧ Mods [b] w w'

set_option maxRecDepth 100000 in
set_option maxHeartbeats 2000000 in
theorem first_v (b : Nat) (i : Ins) (s : ByteArray) (w : World) (he : Env w) (h : InsBlk w b i) (h0 : 0 ≤ i.op) (h3 : i.op < 31) (hs : s.size ≤ 10000) (k1 : hasF i.op 1 = true) :
    Calls Tryz.prog 36 #[.pointer (some ⟨b, 0, none⟩), .string s] w (InsPost b (firstB i s) w) := by
  obtain ⟨G, hG⟩ : ∃ G, G = firstB i s := ⟨_, rfl⟩
  rw [← hG]
  unfold firstB at hG
  have H1 := Lib.hid (has_any i.op h0 h3 1 1 (by decide) w he.ops)
  rw [k1] at hG H1
  simp only [if_true] at hG
  have HR := Lib.hid hG
  have H := Lib.hid h
  have HE := Lib.hid he
  have c0 := h.c0
  clear hG h he h0 h3 k1
  have HU := Lib.hid (unreg_any s hs w HE.out)
  generalize unregB s = us at *
  go_enter Tryz.func36, Tryz.ntmps36
  go_wp2_with (first | (go_at_call 17; first | ((with_reducible refine H1.out.mono ?_); rintro e W1 ⟨rfl, rfl⟩)) | (go_at_call 51; refine HU.out.mono ?_; rintro e W2 ⟨rfl, hx⟩; have hb := H.out.ext hx; have d3 := hb.c3; have g3 := hb.fz 3; have HB := Lib.hid (hb.setV us); have HX := Lib.hid hx; clear hb hx))
  go_end0
  exact ⟨rfl, by rw [HR.out]; exact HB.out, (Mods.ext HX.out).setCell (p := ⟨b, 3, none⟩) (.inl (by simp)) _⟩

set_option maxRecDepth 100000 in
set_option maxHeartbeats 2000000 in
theorem first_s (b : Nat) (i : Ins) (s : ByteArray) (w : World) (he : Env w) (h : InsBlk w b i) (h0 : 0 ≤ i.op) (h3 : i.op < 31) (hs : s.size ≤ 10000) (k1 : hasF i.op 1 = false) (k8 : hasF i.op 8 = true) :
    Calls Tryz.prog 36 #[.pointer (some ⟨b, 0, none⟩), .string s] w (InsPost b (firstB i s) w) := by
  obtain ⟨G, hG⟩ : ∃ G, G = firstB i s := ⟨_, rfl⟩
  rw [← hG]
  unfold firstB at hG
  have H1 := Lib.hid (has_any i.op h0 h3 1 1 (by decide) w he.ops)
  rw [k1] at hG H1
  have H8 := Lib.hid (has_any i.op h0 h3 8 8 (by decide) w he.ops)
  rw [k8] at hG H8
  simp only [Bool.false_eq_true, if_false, if_true] at hG
  have HR := Lib.hid hG
  have H := Lib.hid h
  have HE := Lib.hid he
  have c0 := h.c0
  clear hG h he h0 h3 k1 k8
  have HU := Lib.hid (unq_any s hs w HE.out)
  generalize unqB s = us at *
  go_enter Tryz.func36, Tryz.ntmps36
  go_wp2_with (first | (go_at_call 17; first | ((with_reducible refine H1.out.mono ?_); rintro e W1 ⟨rfl, rfl⟩) | ((with_reducible refine H8.out.mono ?_); rintro e W1 ⟨rfl, rfl⟩)) | (go_at_call 52; refine HU.out.mono ?_; rintro e W2 ⟨rfl, hx⟩; have hb := H.out.ext hx; have d3 := hb.c1; have g3 := hb.fz 1; have HB := Lib.hid (hb.setS us); have HX := Lib.hid hx; clear hb hx))
  go_end0
  exact ⟨rfl, by rw [HR.out]; exact HB.out, (Mods.ext HX.out).setCell (p := ⟨b, 1, none⟩) (.inl (by simp)) _⟩

set_option maxRecDepth 100000 in
set_option maxHeartbeats 2000000 in
theorem first_n (b : Nat) (i : Ins) (s : ByteArray) (w : World) (he : Env w) (h : InsBlk w b i) (h0 : 0 ≤ i.op) (h3 : i.op < 31) (hs : s.size ≤ 10000) (k1 : hasF i.op 1 = false) (k8 : hasF i.op 8 = false) (k144 : hasF i.op 144 = true) :
    Calls Tryz.prog 36 #[.pointer (some ⟨b, 0, none⟩), .string s] w (InsPost b (firstB i s) w) := by
  obtain ⟨G, hG⟩ : ∃ G, G = firstB i s := ⟨_, rfl⟩
  rw [← hG]
  unfold firstB at hG
  have H1 := Lib.hid (has_any i.op h0 h3 1 1 (by decide) w he.ops)
  rw [k1] at hG H1
  have H8 := Lib.hid (has_any i.op h0 h3 8 8 (by decide) w he.ops)
  rw [k8] at hG H8
  have H144 := Lib.hid (has_any i.op h0 h3 144 144 (by decide) w he.ops)
  rw [k144] at hG H144
  simp only [Bool.false_eq_true, if_false, if_true] at hG
  have HR := Lib.hid hG
  have H := Lib.hid h
  have HE := Lib.hid he
  have c0 := h.c0
  clear hG h he h0 h3 k1 k8 k144
  have HU := Lib.hid (atoiF_any s hs w HE.out)
  generalize atoiF s.data.toList = us at *
  go_enter Tryz.func36, Tryz.ntmps36
  go_wp2_with (first | (go_at_call 17; first | ((with_reducible refine H1.out.mono ?_); rintro e W1 ⟨rfl, rfl⟩) | ((with_reducible refine H8.out.mono ?_); rintro e W1 ⟨rfl, rfl⟩) | ((with_reducible refine H144.out.mono ?_); rintro e W1 ⟨rfl, rfl⟩)) | (go_at_call 34; refine HU.out.mono ?_; rintro e W2 ⟨rfl, hx⟩; have hb := H.out.ext hx; have d3 := hb.c2; have g3 := hb.fz 2; have HB := Lib.hid (hb.setN us); have HX := Lib.hid hx; clear hb hx))
  go_end0
  exact ⟨rfl, by rw [HR.out]; exact HB.out, (Mods.ext HX.out).setCell (p := ⟨b, 2, none⟩) (.inl (by simp)) _⟩

set_option maxRecDepth 100000 in
set_option maxHeartbeats 2000000 in
theorem first_no (b : Nat) (i : Ins) (s : ByteArray) (w : World) (he : Env w) (h : InsBlk w b i) (h0 : 0 ≤ i.op) (h3 : i.op < 31) (k1 : hasF i.op 1 = false) (k8 : hasF i.op 8 = false) (k144 : hasF i.op 144 = false) (k96 : hasF i.op 96 = false) :
    Calls Tryz.prog 36 #[.pointer (some ⟨b, 0, none⟩), .string s] w (InsPost b (firstB i s) w) := by
  obtain ⟨G, hG⟩ : ∃ G, G = firstB i s := ⟨_, rfl⟩
  rw [← hG]
  unfold firstB at hG
  have H1 := Lib.hid (has_any i.op h0 h3 1 1 (by decide) w he.ops)
  rw [k1] at hG H1
  have H8 := Lib.hid (has_any i.op h0 h3 8 8 (by decide) w he.ops)
  rw [k8] at hG H8
  have H144 := Lib.hid (has_any i.op h0 h3 144 144 (by decide) w he.ops)
  rw [k144] at hG H144
  have H96 := Lib.hid (has_any i.op h0 h3 96 96 (by decide) w he.ops)
  rw [k96] at hG H96
  simp only [Bool.false_eq_true, if_false] at hG
  have HR := Lib.hid hG
  have H := Lib.hid h
  have HE := Lib.hid he
  have c0 := h.c0
  clear hG h he h0 h3 k1 k8 k144 k96
  clear HE
  go_enter Tryz.func36, Tryz.ntmps36
  go_wp2_with ((go_at_call 17; first | ((with_reducible refine H1.out.mono ?_); rintro e W1 ⟨rfl, rfl⟩) | ((with_reducible refine H8.out.mono ?_); rintro e W1 ⟨rfl, rfl⟩) | ((with_reducible refine H144.out.mono ?_); rintro e W1 ⟨rfl, rfl⟩) | ((with_reducible refine H96.out.mono ?_); rintro e W1 ⟨rfl, rfl⟩)))
  go_end0
  exact ⟨rfl, by rw [HR.out]; exact H.out, Mods.refl _ _⟩

set_option maxRecDepth 100000 in
set_option maxHeartbeats 2000000 in
theorem first_p (b : Nat) (i : Ins) (s : ByteArray) (w : World) (he : Env w) (h : InsBlk w b i) (h0 : 0 ≤ i.op) (h3 : i.op < 31) (hs : s.size ≤ 10000) (k1 : hasF i.op 1 = false) (k8 : hasF i.op 8 = false) (k144 : hasF i.op 144 = false) (k96 : hasF i.op 96 = true) :
    Calls Tryz.prog 36 #[.pointer (some ⟨b, 0, none⟩), .string s] w (InsPost b (firstB i s) w) := by
  obtain ⟨G, hG⟩ : ∃ G, G = firstB i s := ⟨_, rfl⟩
  rw [← hG]
  unfold firstB at hG
  have H1 := Lib.hid (has_any i.op h0 h3 1 1 (by decide) w he.ops)
  rw [k1] at hG H1
  have H8 := Lib.hid (has_any i.op h0 h3 8 8 (by decide) w he.ops)
  rw [k8] at hG H8
  have H144 := Lib.hid (has_any i.op h0 h3 144 144 (by decide) w he.ops)
  rw [k144] at hG H144
  have H96 := Lib.hid (has_any i.op h0 h3 96 96 (by decide) w he.ops)
  rw [k96] at hG H96
  simp only [Bool.false_eq_true, if_false, if_true] at hG
  have HR := Lib.hid hG
  have H := Lib.hid h
  have HE := Lib.hid he
  have c0 := h.c0
  clear hG h he h0 h3 k1 k8 k144 k96
  have HL := Lib.hid (Tryz.strings_LastIndexByte s 47 (by omega) w)
  have hat : slashB s ≤ s.size ∧ max (Lib.lastIndexByte s 47) 0 = (slashB s : Int) := by
    unfold slashB
    rcases last_in s 47 with e | ⟨j, hj, e⟩
    · rw [e]; omega
    · rw [e]; omega
  obtain ⟨hat1, hat2⟩ := hat
  have hz : (trimB (s.extract (slashB s) s.size) 47).length ≤ s.size := by
    unfold trimB Lib.trimPrefix
    have : (s.extract (slashB s) s.size).data.toList.length ≤ s.size := by simp
    split
    · simp; omega
    · exact this
  generalize Lib.lastIndexByte s 47 = lx at HL hat2
  generalize slashB s = p at *
  have HU := fun (W : World) (x : Ext w W) => Lib.hid (unq_any (s.extract 0 p) (by simp; omega) W (HE.out.ext x))
  have HTr := fun (W : World) => Lib.hid (Tryz.strings_TrimPrefix (s.extract p s.size) ⟨#[47]⟩ W)
  have htr : Lib.trimPrefix (s.extract p s.size).data.toList (⟨#[47]⟩ : ByteArray).data.toList = trimB (s.extract p s.size) 47 := rfl
  rw [htr] at HTr
  have HA := fun (W : World) (x : Ext w W) => Lib.hid (atoiF_any ⟨(trimB (s.extract p s.size) 47).toArray⟩ (Nat.le_trans (Nat.le_of_eq (mkB_size _)) (Nat.le_trans hz hs)) W (HE.out.ext x))
  have hml : (⟨(trimB (s.extract p s.size) 47).toArray⟩ : ByteArray).data.toList = trimB (s.extract p s.size) 47 := mkB_list _
  rw [hml] at HA
  generalize unqB (s.extract 0 p) = us at *
  generalize atoiF (trimB (s.extract p s.size) 47) = un at *
  generalize (⟨(trimB (s.extract p s.size) 47).toArray⟩ : ByteArray) = ts at *
  clear htr hz hml
  go_enter Tryz.func36, Tryz.ntmps36
  go_upto_region 8 with (first | (go_at_call 17; first | ((with_reducible refine H1.out.mono ?_); rintro e W1 ⟨rfl, rfl⟩) | ((with_reducible refine H8.out.mono ?_); rintro e W1 ⟨rfl, rfl⟩) | ((with_reducible refine H144.out.mono ?_); rintro e W1 ⟨rfl, rfl⟩) | ((with_reducible refine H96.out.mono ?_); rintro e W1 ⟨rfl, rfl⟩)) | (go_at_call 48; refine HL.out.mono ?_; rintro e W1 ⟨rfl, rfl⟩))
  go_region_law ((first | (go_simp; go_at_call 52; refine (HU _ (Ext.refl _).drew).out.mono ?_; rintro e V2 ⟨rfl, hx⟩; have HV2 := Lib.hid ((Ext.refl _).drew.trans hx); clear hx) | (go_simp; go_at_call 35; refine (HTr _).out.mono ?_; rintro e V3 ⟨rfl, rfl⟩) | (go_simp; go_at_call 34; refine (HA _ HV2.out).out.mono ?_; rintro e V4 ⟨rfl, hx⟩; have HV := Lib.hid (HV2.out.trans hx); have hb := H.out.ext HV.out; have d1 := hb.c1; have d2 := hb.c2; have g1 := hb.fz 1; have g2 := hb.fz 2; have HB := Lib.hid ((hb.setS us).setN un); clear hb hx)))
  all_goals
    go_wp2_with fail
    go_end0
    exact ⟨rfl, by rw [HR.out]; exact HB.out, ((Mods.ext HV.out).setCell (p := ⟨b, 1, none⟩) (.inl (by simp)) _).setCell (p := ⟨b, 2, none⟩) (.inl (by simp)) _⟩

theorem first_any (b : Nat) (i : Ins) (s : ByteArray) (w : World) (he : Env w) (h : InsBlk w b i) (h0 : 0 ≤ i.op) (h3 : i.op < 31) (hs : s.size ≤ 10000) :
    Calls Tryz.prog 36 #[.pointer (some ⟨b, 0, none⟩), .string s] w (InsPost b (firstB i s) w) := by
  cases k1 : hasF i.op 1
  · cases k8 : hasF i.op 8
    · cases k144 : hasF i.op 144
      · cases k96 : hasF i.op 96
        · exact first_no b i s w he h h0 h3 k1 k8 k144 k96
        · exact first_p b i s w he h h0 h3 hs k1 k8 k144 k96
      · exact first_n b i s w he h h0 h3 hs k1 k8 k144
    · exact first_s b i s w he h h0 h3 hs k1 k8
  · exact first_v b i s w he h h0 h3 hs k1

end Go.Proofs.YtlkpiigdmmhkpaaGreatDoor

/- Layer 16: the walks of the search of an operation. -/
namespace Go.Proofs.YtlkpiigdmmhkpaaGreatDoor
open Go.RowKit Go.El

theorem ret_bB {a b : Bool} (h : a = b) : Ending.returned (.bool a) = .returned (.bool b) := by rw [h]
set_option maxRecDepth 100000 in
theorem isName_any (nm hd : List UInt8) (fl : Int) (hb : Nat) (w : World) (h : w.cell? ⟨hb, 0, none⟩ = some (.string (mkB hd))) :
    Calls Tryz.prog 32 #[.agg #[.string (mkB nm), .int .i64 fl], .pointer (some ⟨hb, 0, none⟩)] w fun e w' => e = .returned (.bool (nm == hd)) ∧ Ext w w' := by
  have hx := ext_boxI w (.cells #[.string (mkB nm), .int .i64 fl] 47)
  have h2 := hx.cell h
  have q0 := (Blk.new w 47 #[.string (mkB nm), .int .i64 fl]).cell 0
  have HX := Lib.hid hx
  have HT : Hid (((mkB nm).toList == (mkB hd).toList) = (nm == hd)) := Lib.hid (by rw [ByteArray.toList_eq, ByteArray.toList_eq, mkB_list, mkB_list])
  generalize mkB nm = a at *
  generalize mkB hd = b at *
  clear h hx
  go_enter Tryz.func32, Tryz.ntmps32
  go_wp2_with fail
  go_ret
  exact ⟨ret_bB HT.out, HX.out⟩

theorem opTab_len : opTab.length = 31 := rfl
theorem opTab_at {k : Nat} (hk : k < 31) : (opTab[k]'(by rw [opTab_len]; exact hk)).1 = nameAt k := by
  unfold nameAt
  rw [List.getD_eq_getElem?_getD, List.getElem?_eq_getElem (by rw [opTab_len]; exact hk)]
  rfl
theorem opIdx_hit {h : List UInt8} {k : Nat} (hk : k < 31) (hn : ∀ j, j < k → nameAt j ≠ h) (he : nameAt k = h) : opIdx h = k := by
  have : opTab.findIdx? (fun p => p.1 == h) = some k := by
    rw [List.findIdx?_eq_some_iff_getElem]
    refine ⟨by rw [opTab_len]; exact hk, ?_, ?_⟩
    · rw [opTab_at hk, he]
      simp
    · intro j hj
      rw [opTab_at (by omega)]
      simpa using hn j hj
  unfold opIdx
  rw [this]
theorem opIdx_miss {h : List UInt8} (hn : ∀ j, j < 31 → nameAt j ≠ h) : opIdx h = -1 := by
  have : opTab.findIdx? (fun p => p.1 == h) = none := by
    rw [List.findIdx?_eq_none_iff]
    intro p hp
    obtain ⟨j, hj, rfl⟩ := List.mem_iff_getElem.1 hp
    have hj2 : j < 31 := by rw [opTab_len] at hj; exact hj
    rw [opTab_at hj2]
    simpa using hn j hj2
  unfold opIdx
  rw [this]
theorem opIdx_lt (h : List UInt8) : -1 ≤ opIdx h ∧ opIdx h < 31 := by
  unfold opIdx
  cases hf : opTab.findIdx? (fun p => p.1 == h) with
  | none => simp
  | some k =>
    obtain ⟨hk, _⟩ := List.findIdx?_eq_some_iff_getElem.1 hf
    rw [opTab_len] at hk
    simp only
    omega

set_option maxRecDepth 100000 in
set_option maxHeartbeats 2000000 in
theorem indexF_any (hd : List UInt8) (hb : Nat) (w : World) (hT : OpTabAt w) (h : w.cell? ⟨hb, 0, none⟩ = some (.string (mkB hd))) :
    Calls Tryz.prog 31 #[.slice (some ⟨0, 0, none⟩) 31 31, .func (Fn.func 32) #[] #[.pointer (some ⟨hb, 0, none⟩)]] w fun e w' => e = .returned (.int .i64 (opIdx hd)) ∧ Ext w w' := by
  have HT := Lib.hid hT
  have H := Lib.hid h
  clear hT h
  go_enter Tryz.func31, Tryz.ntmps31
  go_wp2_with fail
  go_loopw [8] (fun i wr => ∃ k : Nat, k ≤ 31 ∧ i = .int .i64 k ∧ Hid (Ext w wr) ∧ Hid (∀ j, j < k → nameAt j ≠ hd)) (fun i _ => 31 - (intOf i).toNat)
  case atStart => exact ⟨0, by omega, rfl, Lib.hid (Ext.refl w), Lib.hid (fun j hj => by omega)⟩
  case round =>
    obtain ⟨k, hk, rfl, HX, HN⟩ := hrel
    by_cases hlt : k < 31
    · obtain ⟨d0, d1⟩ := (HT.out.ext HX.out) k hlt
      have hc := HX.out.cell H.out
      have HC := Lib.hid (isName_any (nameAt k) hd (fldAt k) hb wr hc)
      have hk31 : (k : Int) < 31 := by omega
      rw [show ((⟨(nameAt k).toArray⟩ : ByteArray)) = mkB (nameAt k) from rfl] at d0
      clear hc
      cases hq : (nameAt k == hd)
      · have HNE : Hid (nameAt k ≠ hd) := Lib.hid (by simpa using hq)
        rw [hq] at HC
        generalize mkB (nameAt k) = nm at *
        generalize fldAt k = fl at *
        clear hq
        go_wp2_with (go_at_call 32; refine HC.out.mono ?_; rintro e W1 ⟨rfl, hx⟩; have HX1 := Lib.hid (HX.out.trans hx); clear hx)
        go_roundw
        case rel =>
          exact ⟨k + 1, hlt, by go_num, HX1, Lib.hid (fun j hj => by
            rcases Nat.lt_succ_iff_lt_or_eq.1 hj with h | rfl
            · exact HN.out j h
            · exact HNE.out)⟩
        case measure => simp [intOf]; omega
      · have HR := Lib.hid (opIdx_hit hlt HN.out (by simpa using hq))
        rw [hq] at HC
        generalize mkB (nameAt k) = nm at *
        generalize fldAt k = fl at *
        clear hq
        go_wp2_with (go_at_call 32; refine HC.out.mono ?_; rintro e W1 ⟨rfl, hx⟩; have HX1 := Lib.hid (HX.out.trans hx); clear hx)
        go_ret
        exact ⟨by rw [HR.out]; rfl, HX1.out⟩
    · obtain rfl : k = 31 := by omega
      have HR := Lib.hid (opIdx_miss HN.out)
      go_wp2_with fail
      go_ret
      exact ⟨by rw [HR.out]; rfl, HX.out⟩

end Go.Proofs.YtlkpiigdmmhkpaaGreatDoor
