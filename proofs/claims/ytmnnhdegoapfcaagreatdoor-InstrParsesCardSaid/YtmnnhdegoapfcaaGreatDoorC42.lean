/- The reference of layer 16: the walk of fields. -/
import Derived.Test.YtmnnhdegoapfcaaGreatDoorC41
import Derived.Deep.CutBlock
namespace Go.Proofs.YtmnnhdegoapfcaaGreatDoor
open Go.RowKit Go.El

def insA (j : Ins) : Array Value := #[.int .i64 j.op, .string j.s, .int .i64 j.n, .int .i64 j.v, .int .i64 j.a]
def insZr : Ins := ⟨0, ⟨#[]⟩, 0, 0, 0⟩
/-- What is known within fields. -/
structure FdSt (w wr : World) (z g : Nat) (j : Ins) : Prop where
  ext : Ext w wr
  zb : Blk wr z 25 (insA insZr)
  jb : Blk wr g 25 (insA j)
  ne : z ≠ g
  z0 : w.heap.size ≤ z
  g0 : w.heap.size ≤ g
theorem FdSt.go {w wr w' : World} {z g : Nat} {j : Ins} (h : FdSt w wr z g j) (x : Ext wr w') : FdSt w w' z g j := ⟨h.ext.trans x, h.zb.ext x, h.jb.ext x, h.ne, h.z0, h.g0⟩
theorem FdSt.setS {w wr : World} {z g : Nat} {j : Ins} (h : FdSt w wr z g j) (s : ByteArray) : FdSt w (wr.setCell ⟨g, 1, none⟩ (.string s)) z g { j with s := s } := ⟨h.ext.setCell (p := ⟨g, 1, none⟩) h.g0 _, h.zb.far (p := ⟨g, 1, none⟩) h.ne _, h.jb.set_ 1 _, h.ne, h.z0, h.g0⟩
theorem FdSt.setN {w wr : World} {z g : Nat} {j : Ins} (h : FdSt w wr z g j) (n : Int) : FdSt w (wr.setCell ⟨g, 2, none⟩ (.int .i64 n)) z g { j with n := n } := ⟨h.ext.setCell (p := ⟨g, 2, none⟩) h.g0 _, h.zb.far (p := ⟨g, 2, none⟩) h.ne _, h.jb.set_ 2 _, h.ne, h.z0, h.g0⟩
theorem FdSt.setV {w wr : World} {z g : Nat} {j : Ins} (h : FdSt w wr z g j) (n : Int) : FdSt w (wr.setCell ⟨g, 3, none⟩ (.int .i64 n)) z g { j with v := n } := ⟨h.ext.setCell (p := ⟨g, 3, none⟩) h.g0 _, h.zb.far (p := ⟨g, 3, none⟩) h.ne _, h.jb.set_ 3 _, h.ne, h.z0, h.g0⟩
theorem FdSt.setA {w wr : World} {z g : Nat} {j : Ins} (h : FdSt w wr z g j) (n : Int) : FdSt w (wr.setCell ⟨g, 4, none⟩ (.int .i64 n)) z g { j with a := n } := ⟨h.ext.setCell (p := ⟨g, 4, none⟩) h.g0 _, h.zb.far (p := ⟨g, 4, none⟩) h.ne _, h.jb.set_ 4 _, h.ne, h.z0, h.g0⟩
/-- What fields answers. -/
def FdPost (R : Option Ins) (w : World) (e : Ending) (w' : World) : Prop := ∃ j, e = .returned (.tuple #[insVal j, .bool R.isSome]) ∧ (∀ i, R = some i → j = i) ∧ Ext w w'
/-- What the rest of the fields comes to. -/
def endF (x : Option (List UInt8 × Ins)) : Option Ins := match x with
  | some ([], i) => some i
  | _ => none
theorem endF_bad {s : List UInt8} {i : Ins} (h : s ≠ []) : endF (some (s, i)) = none := by
  cases s with
  | nil => exact absurd rfl h
  | cons c s => rfl
theorem run_bad {c : UInt8} {f s : List UInt8} {j : Ins} (h : stepF c s j = none) : runF (c :: f) s j = none := by
  unfold runF
  rw [h]
theorem run_on {c : UInt8} {f s t : List UInt8} {j i : Ins} (h : stepF c s j = some (t, i)) : runF (c :: f) s j = runF f t i := by
  conv => lhs; unfold runF
  rw [h]
theorem step_head {c : UInt8} {s : List UInt8} {j : Ins} (h : s.head? ≠ some 32) : stepF c s j = none := if_neg h
theorem step_s {c : UInt8} {T : List UInt8} {j : Ins} (hc : c = 115) : stepF c (32 :: T) j = (match namedFrom T false T.length with
      | none => none
      | some (m, r) => some (r, { j with s := mkB m })) := by
  subst hc
  rfl
theorem step_f {c : UInt8} {T : List UInt8} {j : Ins} (hc : c = 102 ∨ c = 112) : stepF c (32 :: T) j = (match namedFrom T true T.length with
      | none => none
      | some (m, r) => restF c r.tail { j with s := mkB m }) := by
  rcases hc with rfl | rfl <;> rfl
theorem step_o {c : UInt8} {T : List UInt8} {j : Ins} (h1 : c ≠ 115) (h2 : c ≠ 102) (h3 : c ≠ 112) : stepF c (32 :: T) j = restF c T j := by
  unfold stepF
  rw [if_pos (show (32 :: T).head? = some 32 from rfl), if_neg h1, if_neg (by rintro (h | h); exact h2 h; exact h3 h)]
  rfl
theorem mk_cons (x : UInt8) (T : List UInt8) : (mkB (x :: T)).extract 1 (mkB (x :: T)).size = mkB T := by
  apply mkB_ext
  rw [ext_list, mkB_list, mkB_size, List.take_of_length_le (by simp)]
  rfl
theorem mk_get (x : UInt8) (T : List UInt8) (h : 0 < (mkB (x :: T)).size) : (mkB (x :: T))[0]'h = x := by
  rw [get_list _ 0 h (by rw [mkB_list]; simp)]
  simp only [mkB_list]
  rfl
theorem mk_at (L : List UInt8) (k : Nat) (h : k < (mkB L).size) (h2 : k < L.length) : (mkB L)[k]'h = L[k] := by
  rw [get_list _ k h (by rw [mkB_list]; exact h2)]
  simp only [mkB_list]
theorem mk_take (L : List UInt8) (k : Nat) : (mkB L).extract 0 k = mkB (L.take k) := by
  apply mkB_ext
  rw [ext_list, mkB_list]
  simp
theorem mk_drop (L : List UInt8) (k : Nat) : (mkB L).extract k (mkB L).size = mkB (L.drop k) := by
  apply mkB_ext
  rw [ext_list, mkB_list, mkB_size, List.take_of_length_le (Nat.le_refl _)]
theorem word_at {T : List UInt8} {k : Nat} (hk : k < T.length) (ha : (T.take k).all notSp = true) (h : T[k] = 32) : wordF T = T.take k := by
  unfold wordF
  conv => lhs; rw [← List.take_append_drop k T, List.drop_eq_getElem_cons hk]
  rw [List.takeWhile_append_of_pos (by simpa using ha), List.takeWhile_cons, if_neg (by rw [h]; decide), List.append_nil]
theorem word_end {T : List UInt8} (ha : T.all notSp = true) : wordF T = T := by
  unfold wordF
  have := List.takeWhile_append_of_pos (p := notSp) (l₁ := T) (l₂ := []) (by simpa using ha)
  simpa using this
theorem word_le (T : List UInt8) : (wordF T).length ≤ T.length := (List.takeWhile_sublist _).length_le
theorem rNumP (s : ByteArray) (hs : s.size ≤ 1000) (w : World) (Q : Option Int) (hq : numL s.data.toList = Q) : Calls Tryz.prog 109 #[.string s] w fun e w' => ∃ n : Int, e = .returned (.tuple #[.int .i64 n, .bool Q.isSome]) ∧ (∀ m, Q = some m → n = m) ∧ (-1000000000000000000 ≤ n ∧ n ≤ 1000000000000000000) ∧ w = w' := by
  subst hq
  exact rNum_any s hs w
theorem namedV_none : namedV none = .tuple #[.string (mkB []), .string (mkB []), .bool false] := rfl
theorem namedV_some (m r : List UInt8) : namedV (some (m, r)) = .tuple #[.string (mkB m), .string (mkB r), .bool true] := rfl
theorem named_len {s : List UInt8} {ar : Bool} {m r : List UInt8} : ∀ {e : Nat}, namedFrom s ar e = some (m, r) → r.length ≤ s.length
  | 0, h => by cases h
  | e + 1, h => by
    unfold namedFrom at h
    split at h
    · split at h
      · injection h with h
        injection h with _ h
        subst h
        simp
      · exact named_len h
    · exact named_len h
/-- What a field's rest comes to. -/
def goF (F' : List UInt8) (x : Option (List UInt8 × Ins)) : Option Ins := match x with
  | none => none
  | some (t, i) => endF (runF F' t i)
theorem run_go {c : UInt8} {f s : List UInt8} {j : Ins} : endF (runF (c :: f) s j) = goF f (stepF c s j) := by
  conv => lhs; unfold runF
  cases h : stepF c s j with
  | none => rfl
  | some p => rfl

set_option maxRecDepth 100000 in
set_option maxHeartbeats 16000000 in
theorem rFields_any (k : Nat) (h1 : 1 ≤ k) (h3 : k < 31) (s : ByteArray) (hs : s.size ≤ 300) (w : World) :
    Calls Tryz.prog 64 #[.int .i64 k, .string s] w (FdPost (fieldsF k s.data.toList) w) := by
  obtain ⟨R, hR⟩ : ∃ R, fieldsF k s.data.toList = R := ⟨_, rfl⟩
  rw [hR]
  have hx0 := (Ext.refl w).alloc (.cells #[Value.int .i64 0, .string ⟨#[]⟩, .int .i64 0, .int .i64 0, .int .i64 0] 25)
  have HX0 := Lib.hid hx0
  have HZ0 := Lib.hid (Blk.new w 25 #[.int .i64 0, .string ⟨#[]⟩, .int .i64 0, .int .i64 0, .int .i64 0])
  have HN2 := fun W => Lib.hid (rName_any (k : Int) W)
  have HFM := fun W => Lib.hid (rForm_any (k : Int) (by omega) (by omega) W)
  obtain ⟨_, hf2, hfc⟩ := form_fields k (by simp; omega)
  have hpre : s.data.toList.length = s.size := by simp
  have hns : (mkB (nameF k)).size = (nameF k).length := mkB_size _
  have hfs : (mkB (formL k)).size = (formL k).length := mkB_size _
  unfold fieldsF at hR
  clear hx0
  by_cases hp : (nameF k).isPrefixOf s.data.toList = true
  case neg =>
    rw [if_neg hp] at hR
    have HN : Hid (R = none) := Lib.hid hR.symm
    have HNS := fun e => hp (List.isPrefixOf_iff_prefix.2 e)
    have hcs : s.size < (mkB (nameF k)).size ∨ ((mkB (nameF k)).size ≤ s.size ∧ ((s.extract 0 (mkB (nameF k)).size).toList == (mkB (nameF k)).toList) = false) := by
      by_cases hl : s.size < (mkB (nameF k)).size
      · exact .inl hl
      · right
        refine ⟨by omega, ?_⟩
        rw [beq_eq_false_iff_ne]
        intro e
        rw [ByteArray.toList_eq, ByteArray.toList_eq, ext_take, hns, mkB_list] at e
        exact HNS (by rw [← e]; exact List.take_prefix _ _)
    clear hR hp HNS hpre hns hfs hf2 hfc HFM
    generalize mkB (nameF k) = nm at *
    rcases hcs with hl | ⟨hl, hq⟩
    all_goals
      go_enter Tryz.func64, Tryz.ntmps64
      go_upto_region 3 with (go_at_call 14; refine (HN2 _).out.mono ?_; rintro e W1 ⟨rfl, hx⟩; have HX1 := Lib.hid (HX0.out.trans hx); have HZ1 := Lib.hid (HZ0.out.ext hx); clear hx)
      have hz := HZ1.out
      have z0 := hz.cell 0
      have z1 := hz.cell 1
      have z2 := hz.cell 2
      have z3 := hz.cell 3
      have z4 := hz.cell 4
      have kzf := hz.frozen
      clear hz
      go_wp2_with fail
      have kb := blk_set5 HZ1.out (.int .i64 0) (.string ⟨#[]⟩) (.int .i64 0) (.int .i64 0) (.int .i64 0)
      have kc := kb.cell
      refine bodyPost_ret (v := .tuple #[insVal insZr, .bool R.isSome]) ?_ rfl ⟨_, rfl, fun i hi => (by rw [HN.out] at hi; cases hi), ext_set5 HX1.out (Nat.le_refl _) _ _ _ _ _⟩
      rw [HN.out]
      simp [results, Tryz.results64, go_sem, insVal, insZr, kc]
  case pos =>
    rw [if_pos hp] at hR
    obtain ⟨S, hS⟩ := List.isPrefixOf_iff_prefix.1 hp
    have hd : s.data.toList.drop (nameF k).length = S := by rw [← hS, List.drop_left']; rfl
    rw [hd] at hR
    have hR2 : endF (runF (formL k) S ⟨k, bE, 0, 0, 0⟩) = R := hR
    have hlen : ¬ (s.size : Int) < ((mkB (nameF k)).size : Int) := by
      have := congrArg List.length hS
      rw [List.length_append] at this
      omega
    have hle : (mkB (nameF k)).size ≤ s.size := by omega
    have hlenN : ¬ s.size < (mkB (nameF k)).size := by omega
    have HSL : Hid (S.length ≤ 300) := Lib.hid (by
      have := congrArg List.length hS
      rw [List.length_append] at this
      omega)
    have HEX : Hid (s.extract (mkB (nameF k)).size s.size = mkB S) := Lib.hid (by
      apply mkB_ext
      rw [ext_list, List.take_of_length_le (by simp), hns, hd])
    have hq : ((s.extract 0 (mkB (nameF k)).size).toList == (mkB (nameF k)).toList) = true := by
      have e : s.extract 0 (mkB (nameF k)).size = mkB (nameF k) := by
        apply mkB_ext
        rw [ext_take, hns, ← hS, List.take_left']
        rfl
      rw [e]
      simp
    have HRE := Lib.hid hR2
    clear hR hR2 hp hS hd hpre hns
    generalize hNM : mkB (nameF k) = nm at *
    have HFS := Lib.hid hfs
    clear hfs hNM
    go_enter Tryz.func64, Tryz.ntmps64
    go_upto_region 4 with (go_at_call 14; refine (HN2 _).out.mono ?_; rintro e W1 ⟨rfl, hx⟩; have HX1 := Lib.hid (HX0.out.trans hx); have HZ1 := Lib.hid (HZ0.out.ext hx); clear hx)
    have HI1 := Lib.hid (Blk.new W1 25 (insA ⟨k, bE, 0, 0, 0⟩))
    go_upto_region 6 with fail
    rw [HEX.out]
    have HS0 : Hid (FdSt w (W1.alloc (.cells #[.int .i64 (k : Int), .string ⟨#[]⟩, .int .i64 0, .int .i64 0, .int .i64 0] 25)) w.heap.size W1.heap.size ⟨k, bE, 0, 0, 0⟩) := Lib.hid ⟨HX1.out.alloc _, HZ1.out.alloc _, HI1.out, by have := HZ1.out.lt; omega, Nat.le_refl _, HX1.out.size⟩
    have hg := HX1.out.size
    have hzg : ¬ w.heap.size = W1.heap.size := HS0.out.ne
    generalize W1.alloc (.cells #[.int .i64 (k : Int), .string ⟨#[]⟩, .int .i64 0, .int .i64 0, .int .i64 0] 25) = W2 at *
    clear HX1 HZ1 HI1 HX0 HZ0 HN2
    generalize W1.heap.size = g at *
    go_upto_region 7 with (go_at_call 73; refine (HFM _).out.mono ?_; rintro e W3 ⟨rfl, hx⟩; have HS1 := Lib.hid (HS0.out.go hx); clear hx)
    clear HS0 HFM
    generalize hFL : formL k = F at *
    clear hFL
    have HGF := fun (i : Nat) (h : i < (mkB F).size) (h2 : i < F.length) => Lib.hid (mk_at F i h h2)
    generalize mkB F = fb at *
    go_wp2_with fail
    go_loopw [1, 9] (fun sv kv wr => ∃ (i : Nat) (S : List UInt8) (j : Ins), i ≤ F.length ∧ kv = .int .i64 i ∧ sv = .string (mkB S) ∧ S.length ≤ 300 ∧ Hid (endF (runF (F.drop i) S j) = R) ∧ Hid (FdSt w wr w.heap.size g j)) (fun _ kv _ => F.length - (intOf kv).toNat)
    case atStart => exact ⟨0, S, _, Nat.zero_le _, rfl, rfl, HSL.out, HRE, HS1⟩
    case round =>
      clear HS1 HRE HSL HEX
      obtain ⟨i, S, j, hi, rfl, rfl, hSl, HE, HS⟩ := hrel
      have hgg := HS.out.jb.lt
      by_cases hlt : i < F.length
      · have hltz : i < fb.size := by have := HFS.out; omega
        have hcm := hfc F[i] (List.getElem_mem hlt)
        have hdr : F.drop i = F[i] :: F.drop (i + 1) := List.drop_eq_getElem_cons hlt
        have HGO : Hid (goF (F.drop (i + 1)) (stepF F[i] S j) = R) := Lib.hid (by rw [← run_go, ← hdr]; exact HE.out)
        have hix : ∀ hq : i < fb.size, fb[i]'hq = F[i] := fun hq => (HGF i hq hlt).out
        generalize F[i] = c at hcm HGO hix
        clear hdr HE hfc HGF
        by_cases hh : S.head? = some 32
        case neg =>
          have HN : Hid (R = none) := Lib.hid (by rw [← HGO.out, step_head hh]; rfl)
          cases S with
          | nil =>
            have hz0 : mkB ([] : List UInt8) = ⟨#[]⟩ := rfl
            rw [hz0]
            clear hz0 hcm HGO hix hh
            have hz : Blk _ _ _ #[.int .i64 0, .string ⟨#[]⟩, .int .i64 0, .int .i64 0, .int .i64 0] := HS.out.zb
            have z0 := hz.cell 0
            have z1 := hz.cell 1
            have z2 := hz.cell 2
            have z3 := hz.cell 3
            have z4 := hz.cell 4
            have kzf := hz.frozen
            clear hz
            go_wp2_with fail
            have kb := blk_set5 HS.out.zb (.int .i64 0) (.string ⟨#[]⟩) (.int .i64 0) (.int .i64 0) (.int .i64 0)
            have kc := kb.cell
            refine bodyPost_ret (v := .tuple #[insVal insZr, .bool R.isSome]) ?_ rfl ⟨_, rfl, fun i hi => (by rw [HN.out] at hi; cases hi), ext_set5 HS.out.ext HS.out.z0 _ _ _ _ _⟩
            rw [HN.out]
            simp [results, Tryz.results64, go_sem, insVal, insZr, kc]
          | cons x T =>
            have hx : x ≠ 32 := fun e => hh (by rw [e]; rfl)
            have hc2 := mk_get x T
            have hc3 : (mkB (x :: T)).size = T.length + 1 := mkB_size _
            have hx0 : 0 < (mkB (x :: T)).size := by omega
            have hx1 : (((mkB (x :: T)).size : Int) == 0) = false := by rw [beq_eq_false_iff_ne]; omega
            have hxe : ¬ mkB (x :: T) = ByteArray.empty := fun e => by rw [e] at hx0; exact absurd hx0 (by decide)
            have hx2 := hc2 hx0
            have hx3 : ((((mkB (x :: T))[0]'hx0).toNat : Int) == 32) = false := by rw [hx2]; exact u8_ne (n := 32) (by omega) hx
            clear hx2 hc2 hc3 hcm HGO hix hh hx
            generalize mkB (x :: T) = B0 at *
            have hz : Blk _ _ _ #[.int .i64 0, .string ⟨#[]⟩, .int .i64 0, .int .i64 0, .int .i64 0] := HS.out.zb
            have z0 := hz.cell 0
            have z1 := hz.cell 1
            have z2 := hz.cell 2
            have z3 := hz.cell 3
            have z4 := hz.cell 4
            have kzf := hz.frozen
            clear hz
            go_wp2_with fail
            have kb := blk_set5 HS.out.zb (.int .i64 0) (.string ⟨#[]⟩) (.int .i64 0) (.int .i64 0) (.int .i64 0)
            have kc := kb.cell
            refine bodyPost_ret (v := .tuple #[insVal insZr, .bool R.isSome]) ?_ rfl ⟨_, rfl, fun i hi => (by rw [HN.out] at hi; cases hi), ext_set5 HS.out.ext HS.out.z0 _ _ _ _ _⟩
            rw [HN.out]
            simp [results, Tryz.results64, go_sem, insVal, insZr, kc]
        case pos =>
          obtain ⟨T, rfl⟩ : ∃ T, S = 32 :: T := by cases S with | nil => cases hh | cons x T => exact ⟨T, by simp at hh; rw [hh]⟩
          have hc1 := Lib.hid (mk_cons 32 T)
          have hc2 := mk_get 32 T
          have hc3 : (mkB (32 :: T)).size = T.length + 1 := mkB_size _
          have hx0 : 0 < (mkB (32 :: T)).size := by omega
          have hx1 : (((mkB (32 :: T)).size : Int) == 0) = false := by rw [beq_eq_false_iff_ne]; omega
          have hxe : ¬ mkB (32 :: T) = ByteArray.empty := fun e => by rw [e] at hx0; exact absurd hx0 (by decide)
          have hx3 : ((((mkB (32 :: T))[0]'hx0).toNat : Int) == 32) = true := by rw [hc2 hx0]; rfl
          have hTl : T.length ≤ 299 := by simp at hSl; omega
          clear hc2 hc3 hh hSl
          generalize mkB (32 :: T) = B0 at *
          have HND := fun W => Lib.hid (rNamed_bl (mkB T) (by rw [mkB_size]; omega) W)
          have HNA := fun W => Lib.hid (rNamed_ar (mkB T) (by rw [mkB_size]; omega) W)
          rw [mkB_list] at HND HNA
          go_upto_region 13 with fail
          rw [hc1.out]
          clear hc1
          rcases hcm with rfl | rfl | rfl | rfl | rfl | rfl | rfl | rfl
          · rw [step_o (by decide) (by decide) (by decide)] at HGO
            have HW := HGO
            clear HGO HND HNA
            go_upto_region 23 with fail
            have hTz : (mkB T).size = T.length := mkB_size T
            have HTZ := Lib.hid hTz
            have hT1 : (mkB T).size ≤ 300 := by omega
            have HTK := fun (q : Nat) => Lib.hid (mk_take T q)
            have HDR := fun (q : Nat) => Lib.hid (mk_drop T q)
            have HAT := fun (q : Nat) (h : q < (mkB T).size) (h2 : q < T.length) => Lib.hid (mk_at T q h h2)
            have hwl := word_le T
            have hwz : (mkB (wordF T)).size = (wordF T).length := mkB_size _
            have HWZ := Lib.hid hwz
            have hwn : (mkB (wordF T)).size ≤ (mkB T).size := by omega
            have hTd : (T.drop (wordF T).length).length ≤ 300 := by rw [List.length_drop]; omega
            clear hTz hwz
            generalize hBT : mkB T = BT at *
            have HBT := Lib.hid hBT
            clear hBT
            go_upto_block 3 with fail
            obtain ⟨V, hV⟩ : ∃ V1 : World, V1 = wr := ⟨_, rfl⟩
            go_cut [13] (fun z wx => z = .string (mkB (wordF T)) ∧ wr = wx)
            case first =>
              go_wp2_with fail
              go_loopw [13, 14] (fun wv jv wx => ∃ q : Nat, q ≤ BT.size ∧ jv = .int .i64 q ∧ wv = .string BT ∧ wr = wx ∧ Hid ((T.take q).all notSp = true)) (fun _ jv _ => BT.size - (intOf jv).toNat)
              case atStart => exact ⟨0, Nat.zero_le _, rfl, rfl, rfl, Lib.hid rfl⟩
              case round =>
                obtain ⟨q, hq, rfl, rfl, rfl, HA⟩ := hrel
                by_cases hq2 : q < BT.size
                · have hqT : q < T.length := by have := HTZ.out; omega
                  have hat := (HAT q hq2 hqT).out
                  by_cases h32 : BT[q]'hq2 = 32
                  · have e32 : (((BT[q]'hq2).toNat : Int) == 32) = true := by rw [h32]; rfl
                    have HW2 : Hid (mkB (T.take q) = mkB (wordF T)) := Lib.hid (by rw [word_at hqT HA.out (hat.symm.trans h32)])
                    clear hat h32
                    go_wp2_with fail
                    go_meet
                    exact ⟨by rw [(HTK q).out, HW2.out], rfl⟩
                  · have e32 : (((BT[q]'hq2).toNat : Int) == 32) = false := u8_ne (n := 32) (by omega) h32
                    have HA2 : Hid ((T.take (q + 1)).all notSp = true) := Lib.hid (by rw [List.take_succ_eq_append_getElem hqT, List.all_append, HA.out, ← hat]; simp [notSp, h32])
                    clear hat h32
                    go_wp2_with fail
                    go_roundw
                    case rel => exact ⟨q + 1, hq2, by go_num, rfl, trivial, HA2⟩
                    case measure => simp [intOf]; omega
                · have hqe : q = T.length := by have := HTZ.out; omega
                  have HW2 : Hid (BT = mkB (wordF T)) := Lib.hid (by rw [← HBT.out, word_end (by have := HA.out; rw [hqe, List.take_length] at this; exact this)])
                  clear hqe
                  go_wp2_with fail
                  go_meet
                  exact ⟨by rw [← HW2.out], rfl⟩
            case rest =>
              obtain ⟨rfl, rfl⟩ := hcut
              clear HTK HAT
              have HWL : Hid (BT.extract (mkB (wordF T)).size BT.size = mkB (T.drop (wordF T).length)) := Lib.hid (by rw [HWZ.out]; exact (HDR _).out)
              clear HDR
              cases hw : wordF T with
              | nil =>
                have HN : Hid (R = none) := Lib.hid (by rw [← HW.out]; unfold goF restF leadF; rw [hw]; rfl)
                rw [hw] at hwn HWL hwl HWZ hTd
                have hz0 : mkB ([] : List UInt8) = ⟨#[]⟩ := rfl
                clear hw HW HWL
                rw [hz0] at hwn ⊢
                clear hz0
                have hz : Blk _ _ _ #[.int .i64 0, .string ⟨#[]⟩, .int .i64 0, .int .i64 0, .int .i64 0] := HS.out.zb
                have z0 := hz.cell 0
                have z1 := hz.cell 1
                have z2 := hz.cell 2
                have z3 := hz.cell 3
                have z4 := hz.cell 4
                have kzf := hz.frozen
                clear hz
                go_wp2_with fail
                have kb := blk_set5 HS.out.zb (.int .i64 0) (.string ⟨#[]⟩) (.int .i64 0) (.int .i64 0) (.int .i64 0)
                have kc := kb.cell
                refine bodyPost_ret (v := .tuple #[insVal insZr, .bool R.isSome]) ?_ rfl ⟨_, rfl, fun i hi => (by rw [HN.out] at hi; cases hi), ext_set5 HS.out.ext HS.out.z0 _ _ _ _ _⟩
                rw [HN.out]
                simp [results, Tryz.results64, go_sem, insVal, insZr, kc]
              | cons x wd =>
                have hc1 := mk_cons x wd
                have hc2 := mk_get x wd
                have hc3 : (mkB (x :: wd)).size = wd.length + 1 := mkB_size _
                have hc4 : (mkB wd).size = wd.length := mkB_size _
                have hnl : (mkB wd).size ≤ 1000 := by rw [hw] at hwl; simp only [List.length_cons] at hwl; omega
                have hx0 : 0 < (mkB (x :: wd)).size := by omega
                have hx1 : (((mkB (x :: wd)).size : Int) == 0) = false := by rw [beq_eq_false_iff_ne]; omega
                have hxe : ¬ mkB (x :: wd) = ByteArray.empty := fun e => by rw [e] at hx0; exact absurd hx0 (by decide)
                have hnq : numL (mkB wd).data.toList = numL wd := by rw [mkB_list]
                have HC1 := Lib.hid hc1
                have HWR : Hid (restF 118 T j = (match numL wd with | none => none | some y => match setN 118 x y j with | none => none | some j2 => some (T.drop (wordF T).length, j2))) := Lib.hid (by unfold restF leadF; rw [hw]; rfl)
                have HDW := Lib.hid hw
                rw [hw] at hwn HWL hwl HWZ hTd
                clear hc1 hc3 hc4 hw
                have hx2 := hc2 hx0
                clear hc2
                generalize mkB (x :: wd) = bw at *
                generalize hBW : mkB wd = bd at *
                clear hBW
                cases hn : numL wd with
                | none =>
                  have HN : Hid (R = none) := Lib.hid (by rw [← HW.out, HWR.out, hn]; rfl)
                  rw [hn] at hnq
                  clear hn HW HWR
                  go_upto_region 36 with fail
                  rw [HC1.out]
                  go_upto_region 38 with (go_at_call 109; refine (rNumP _ hnl _ _ hnq).mono ?_; rintro e W9 ⟨m9, rfl, hm9, hb9, rfl⟩; have HM9 := Lib.hid hm9; clear hm9)
                  have hz : Blk _ _ _ #[.int .i64 0, .string ⟨#[]⟩, .int .i64 0, .int .i64 0, .int .i64 0] := HS.out.zb
                  have z0 := hz.cell 0
                  have z1 := hz.cell 1
                  have z2 := hz.cell 2
                  have z3 := hz.cell 3
                  have z4 := hz.cell 4
                  have kzf := hz.frozen
                  clear hz
                  go_wp2_with fail
                  have kb := blk_set5 HS.out.zb (.int .i64 0) (.string ⟨#[]⟩) (.int .i64 0) (.int .i64 0) (.int .i64 0)
                  have kc := kb.cell
                  refine bodyPost_ret (v := .tuple #[insVal insZr, .bool R.isSome]) ?_ rfl ⟨_, rfl, fun i hi => (by rw [HN.out] at hi; cases hi), ext_set5 HS.out.ext HS.out.z0 _ _ _ _ _⟩
                  rw [HN.out]
                  simp [results, Tryz.results64, go_sem, insVal, insZr, kc]
                | some y =>
                  rw [hn] at hnq
                  have HWR2 := Lib.hid (HWR.out.trans (by rw [hn]))
                  by_cases hx89 : x = 89
                  · subst hx89
                    have HG : Hid (endF (runF (F.drop (i + 1)) (T.drop (wordF T).length) ({ j with v := -y } : Ins)) = R) := Lib.hid (by rw [← HW.out, HWR.out, hn]; rfl)
                    rw [HDW.out] at HG
                    clear hn HW HWR HWR2
                    go_upto_region 36 with fail
                    rw [HC1.out, HWL.out]
                    have hj : Blk _ _ _ #[.int .i64 j.op, .string j.s, .int .i64 j.n, .int .i64 j.v, .int .i64 j.a] := HS.out.jb
                    have j0 := hj.cell 0
                    have j1 := hj.cell 1
                    have j2 := hj.cell 2
                    have j3 := hj.cell 3
                    have j4 := hj.cell 4
                    have jf := hj.frozen
                    clear hj
                    go_wp2_with (go_at_call 109; refine (rNumP _ hnl _ _ hnq).mono ?_; rintro e W9 ⟨m9, rfl, hm9, hb9, rfl⟩; have HM9 := Lib.hid hm9; clear hm9)
                    obtain rfl := (HM9.out y rfl)
                    go_roundw
                    case rel => exact ⟨i + 1, _, _, hlt, by go_num, rfl, hTd, HG.out, Lib.hid (HS.out.setV _)⟩
                    case measure => simp [intOf]; omega
                  · have k89 : ((x.toNat : Int) == 89) = false := u8_ne (n := 89) (by omega) hx89
                    by_cases hx88 : x = 88
                    · subst hx88
                      have HG : Hid (endF (runF (F.drop (i + 1)) (T.drop (wordF T).length) ({ j with v := y } : Ins)) = R) := Lib.hid (by rw [← HW.out, HWR.out, hn]; rfl)
                      rw [HDW.out] at HG
                      clear hn HW HWR HWR2
                      go_upto_region 36 with fail
                      rw [HC1.out, HWL.out]
                      have hj : Blk _ _ _ #[.int .i64 j.op, .string j.s, .int .i64 j.n, .int .i64 j.v, .int .i64 j.a] := HS.out.jb
                      have j0 := hj.cell 0
                      have j1 := hj.cell 1
                      have j2 := hj.cell 2
                      have j3 := hj.cell 3
                      have j4 := hj.cell 4
                      have jf := hj.frozen
                      clear hj
                      go_wp2_with (go_at_call 109; refine (rNumP _ hnl _ _ hnq).mono ?_; rintro e W9 ⟨m9, rfl, hm9, hb9, rfl⟩; have HM9 := Lib.hid hm9; clear hm9)
                      obtain rfl := (HM9.out y rfl)
                      go_roundw
                      case rel => exact ⟨i + 1, _, _, hlt, by go_num, rfl, hTd, HG.out, Lib.hid (HS.out.setV _)⟩
                      case measure => simp [intOf]; omega
                    · have k88 : ((x.toNat : Int) == 88) = false := u8_ne (n := 88) (by omega) hx88
                      have HN : Hid (R = none) := Lib.hid (by rw [← HW.out, HWR.out, hn]; unfold goF setN; simp [hx89, hx88])
                      clear hn HW HWR HWR2 hx89 hx88
                      go_upto_region 36 with fail
                      rw [HC1.out]
                      go_upto_region 47 with (go_at_call 109; refine (rNumP _ hnl _ _ hnq).mono ?_; rintro e W9 ⟨m9, rfl, hm9, hb9, rfl⟩; have HM9 := Lib.hid hm9; clear hm9)
                      have hz : Blk _ _ _ #[.int .i64 0, .string ⟨#[]⟩, .int .i64 0, .int .i64 0, .int .i64 0] := HS.out.zb
                      have z0 := hz.cell 0
                      have z1 := hz.cell 1
                      have z2 := hz.cell 2
                      have z3 := hz.cell 3
                      have z4 := hz.cell 4
                      have kzf := hz.frozen
                      clear hz
                      go_wp2_with fail
                      have kb := blk_set5 HS.out.zb (.int .i64 0) (.string ⟨#[]⟩) (.int .i64 0) (.int .i64 0) (.int .i64 0)
                      have kc := kb.cell
                      refine bodyPost_ret (v := .tuple #[insVal insZr, .bool R.isSome]) ?_ rfl ⟨_, rfl, fun i hi => (by rw [HN.out] at hi; cases hi), ext_set5 HS.out.ext HS.out.z0 _ _ _ _ _⟩
                      rw [HN.out]
                      simp [results, Tryz.results64, go_sem, insVal, insZr, kc]
          · rw [step_o (by decide) (by decide) (by decide)] at HGO
            have HW := HGO
            clear HGO HND HNA
            go_upto_region 23 with fail
            have hTz : (mkB T).size = T.length := mkB_size T
            have HTZ := Lib.hid hTz
            have hT1 : (mkB T).size ≤ 300 := by omega
            have HTK := fun (q : Nat) => Lib.hid (mk_take T q)
            have HDR := fun (q : Nat) => Lib.hid (mk_drop T q)
            have HAT := fun (q : Nat) (h : q < (mkB T).size) (h2 : q < T.length) => Lib.hid (mk_at T q h h2)
            have hwl := word_le T
            have hwz : (mkB (wordF T)).size = (wordF T).length := mkB_size _
            have HWZ := Lib.hid hwz
            have hwn : (mkB (wordF T)).size ≤ (mkB T).size := by omega
            have hTd : (T.drop (wordF T).length).length ≤ 300 := by rw [List.length_drop]; omega
            clear hTz hwz
            generalize hBT : mkB T = BT at *
            have HBT := Lib.hid hBT
            clear hBT
            go_upto_block 3 with fail
            obtain ⟨V, hV⟩ : ∃ V1 : World, V1 = wr := ⟨_, rfl⟩
            go_cut [13] (fun z wx => z = .string (mkB (wordF T)) ∧ wr = wx)
            case first =>
              go_wp2_with fail
              go_loopw [13, 14] (fun wv jv wx => ∃ q : Nat, q ≤ BT.size ∧ jv = .int .i64 q ∧ wv = .string BT ∧ wr = wx ∧ Hid ((T.take q).all notSp = true)) (fun _ jv _ => BT.size - (intOf jv).toNat)
              case atStart => exact ⟨0, Nat.zero_le _, rfl, rfl, rfl, Lib.hid rfl⟩
              case round =>
                obtain ⟨q, hq, rfl, rfl, rfl, HA⟩ := hrel
                by_cases hq2 : q < BT.size
                · have hqT : q < T.length := by have := HTZ.out; omega
                  have hat := (HAT q hq2 hqT).out
                  by_cases h32 : BT[q]'hq2 = 32
                  · have e32 : (((BT[q]'hq2).toNat : Int) == 32) = true := by rw [h32]; rfl
                    have HW2 : Hid (mkB (T.take q) = mkB (wordF T)) := Lib.hid (by rw [word_at hqT HA.out (hat.symm.trans h32)])
                    clear hat h32
                    go_wp2_with fail
                    go_meet
                    exact ⟨by rw [(HTK q).out, HW2.out], rfl⟩
                  · have e32 : (((BT[q]'hq2).toNat : Int) == 32) = false := u8_ne (n := 32) (by omega) h32
                    have HA2 : Hid ((T.take (q + 1)).all notSp = true) := Lib.hid (by rw [List.take_succ_eq_append_getElem hqT, List.all_append, HA.out, ← hat]; simp [notSp, h32])
                    clear hat h32
                    go_wp2_with fail
                    go_roundw
                    case rel => exact ⟨q + 1, hq2, by go_num, rfl, trivial, HA2⟩
                    case measure => simp [intOf]; omega
                · have hqe : q = T.length := by have := HTZ.out; omega
                  have HW2 : Hid (BT = mkB (wordF T)) := Lib.hid (by rw [← HBT.out, word_end (by have := HA.out; rw [hqe, List.take_length] at this; exact this)])
                  clear hqe
                  go_wp2_with fail
                  go_meet
                  exact ⟨by rw [← HW2.out], rfl⟩
            case rest =>
              obtain ⟨rfl, rfl⟩ := hcut
              clear HTK HAT
              have HWL : Hid (BT.extract (mkB (wordF T)).size BT.size = mkB (T.drop (wordF T).length)) := Lib.hid (by rw [HWZ.out]; exact (HDR _).out)
              clear HDR
              cases hw : wordF T with
              | nil =>
                have HN : Hid (R = none) := Lib.hid (by rw [← HW.out]; unfold goF restF leadF; rw [hw]; rfl)
                rw [hw] at hwn HWL hwl HWZ hTd
                have hz0 : mkB ([] : List UInt8) = ⟨#[]⟩ := rfl
                clear hw HW HWL
                rw [hz0] at hwn ⊢
                clear hz0
                have hz : Blk _ _ _ #[.int .i64 0, .string ⟨#[]⟩, .int .i64 0, .int .i64 0, .int .i64 0] := HS.out.zb
                have z0 := hz.cell 0
                have z1 := hz.cell 1
                have z2 := hz.cell 2
                have z3 := hz.cell 3
                have z4 := hz.cell 4
                have kzf := hz.frozen
                clear hz
                go_wp2_with fail
                have kb := blk_set5 HS.out.zb (.int .i64 0) (.string ⟨#[]⟩) (.int .i64 0) (.int .i64 0) (.int .i64 0)
                have kc := kb.cell
                refine bodyPost_ret (v := .tuple #[insVal insZr, .bool R.isSome]) ?_ rfl ⟨_, rfl, fun i hi => (by rw [HN.out] at hi; cases hi), ext_set5 HS.out.ext HS.out.z0 _ _ _ _ _⟩
                rw [HN.out]
                simp [results, Tryz.results64, go_sem, insVal, insZr, kc]
              | cons x wd =>
                have hc1 := mk_cons x wd
                have hc2 := mk_get x wd
                have hc3 : (mkB (x :: wd)).size = wd.length + 1 := mkB_size _
                have hc4 : (mkB wd).size = wd.length := mkB_size _
                have hnl : (mkB wd).size ≤ 1000 := by rw [hw] at hwl; simp only [List.length_cons] at hwl; omega
                have hx0 : 0 < (mkB (x :: wd)).size := by omega
                have hx1 : (((mkB (x :: wd)).size : Int) == 0) = false := by rw [beq_eq_false_iff_ne]; omega
                have hxe : ¬ mkB (x :: wd) = ByteArray.empty := fun e => by rw [e] at hx0; exact absurd hx0 (by decide)
                have hnq : numL (mkB wd).data.toList = numL wd := by rw [mkB_list]
                have HC1 := Lib.hid hc1
                have HWR : Hid (restF 97 T j = (match numL wd with | none => none | some y => match setN 97 x y j with | none => none | some j2 => some (T.drop (wordF T).length, j2))) := Lib.hid (by unfold restF leadF; rw [hw]; rfl)
                have HDW := Lib.hid hw
                rw [hw] at hwn HWL hwl HWZ hTd
                clear hc1 hc3 hc4 hw
                have hx2 := hc2 hx0
                clear hc2
                generalize mkB (x :: wd) = bw at *
                generalize hBW : mkB wd = bd at *
                clear hBW
                cases hn : numL wd with
                | none =>
                  have HN : Hid (R = none) := Lib.hid (by rw [← HW.out, HWR.out, hn]; rfl)
                  rw [hn] at hnq
                  clear hn HW HWR
                  go_upto_region 36 with fail
                  rw [HC1.out]
                  go_upto_region 38 with (go_at_call 109; refine (rNumP _ hnl _ _ hnq).mono ?_; rintro e W9 ⟨m9, rfl, hm9, hb9, rfl⟩; have HM9 := Lib.hid hm9; clear hm9)
                  have hz : Blk _ _ _ #[.int .i64 0, .string ⟨#[]⟩, .int .i64 0, .int .i64 0, .int .i64 0] := HS.out.zb
                  have z0 := hz.cell 0
                  have z1 := hz.cell 1
                  have z2 := hz.cell 2
                  have z3 := hz.cell 3
                  have z4 := hz.cell 4
                  have kzf := hz.frozen
                  clear hz
                  go_wp2_with fail
                  have kb := blk_set5 HS.out.zb (.int .i64 0) (.string ⟨#[]⟩) (.int .i64 0) (.int .i64 0) (.int .i64 0)
                  have kc := kb.cell
                  refine bodyPost_ret (v := .tuple #[insVal insZr, .bool R.isSome]) ?_ rfl ⟨_, rfl, fun i hi => (by rw [HN.out] at hi; cases hi), ext_set5 HS.out.ext HS.out.z0 _ _ _ _ _⟩
                  rw [HN.out]
                  simp [results, Tryz.results64, go_sem, insVal, insZr, kc]
                | some y =>
                  rw [hn] at hnq
                  have HWR2 := Lib.hid (HWR.out.trans (by rw [hn]))
                  by_cases hx65 : x = 65
                  · subst hx65
                    have HG : Hid (endF (runF (F.drop (i + 1)) (T.drop (wordF T).length) ({ j with a := y } : Ins)) = R) := Lib.hid (by rw [← HW.out, HWR.out, hn]; rfl)
                    rw [HDW.out] at HG
                    clear hn HW HWR HWR2
                    go_upto_region 36 with fail
                    rw [HC1.out, HWL.out]
                    have hj : Blk _ _ _ #[.int .i64 j.op, .string j.s, .int .i64 j.n, .int .i64 j.v, .int .i64 j.a] := HS.out.jb
                    have j0 := hj.cell 0
                    have j1 := hj.cell 1
                    have j2 := hj.cell 2
                    have j3 := hj.cell 3
                    have j4 := hj.cell 4
                    have jf := hj.frozen
                    clear hj
                    go_wp2_with (go_at_call 109; refine (rNumP _ hnl _ _ hnq).mono ?_; rintro e W9 ⟨m9, rfl, hm9, hb9, rfl⟩; have HM9 := Lib.hid hm9; clear hm9)
                    obtain rfl := (HM9.out y rfl)
                    go_roundw
                    case rel => exact ⟨i + 1, _, _, hlt, by go_num, rfl, hTd, HG.out, Lib.hid (HS.out.setA _)⟩
                    case measure => simp [intOf]; omega
                  · have k65 : ((x.toNat : Int) == 65) = false := u8_ne (n := 65) (by omega) hx65
                    have HN : Hid (R = none) := Lib.hid (by rw [← HW.out, HWR.out, hn]; unfold goF setN; simp [hx65])
                    clear hn HW HWR HWR2 hx65
                    go_upto_region 36 with fail
                    rw [HC1.out]
                    go_upto_region 47 with (go_at_call 109; refine (rNumP _ hnl _ _ hnq).mono ?_; rintro e W9 ⟨m9, rfl, hm9, hb9, rfl⟩; have HM9 := Lib.hid hm9; clear hm9)
                    have hz : Blk _ _ _ #[.int .i64 0, .string ⟨#[]⟩, .int .i64 0, .int .i64 0, .int .i64 0] := HS.out.zb
                    have z0 := hz.cell 0
                    have z1 := hz.cell 1
                    have z2 := hz.cell 2
                    have z3 := hz.cell 3
                    have z4 := hz.cell 4
                    have kzf := hz.frozen
                    clear hz
                    go_wp2_with fail
                    have kb := blk_set5 HS.out.zb (.int .i64 0) (.string ⟨#[]⟩) (.int .i64 0) (.int .i64 0) (.int .i64 0)
                    have kc := kb.cell
                    refine bodyPost_ret (v := .tuple #[insVal insZr, .bool R.isSome]) ?_ rfl ⟨_, rfl, fun i hi => (by rw [HN.out] at hi; cases hi), ext_set5 HS.out.ext HS.out.z0 _ _ _ _ _⟩
                    rw [HN.out]
                    simp [results, Tryz.results64, go_sem, insVal, insZr, kc]
          · rw [step_s rfl] at HGO
            cases hN : namedFrom T false T.length with
            | none =>
              have HN : Hid (R = none) := Lib.hid (by rw [← HGO.out, hN]; rfl)
              rw [hN, namedV_none] at HND
              clear HGO hN
              go_upto_region 19 with (go_at_call 108; refine (HND _).out.mono ?_; rintro e W5 ⟨rfl, hx⟩; have HS5 := Lib.hid (HS.out.go hx); clear hx HS)
              have HS := HS5
              have hz : Blk _ _ _ #[.int .i64 0, .string ⟨#[]⟩, .int .i64 0, .int .i64 0, .int .i64 0] := HS.out.zb
              have z0 := hz.cell 0
              have z1 := hz.cell 1
              have z2 := hz.cell 2
              have z3 := hz.cell 3
              have z4 := hz.cell 4
              have kzf := hz.frozen
              clear hz
              go_wp2_with fail
              have kb := blk_set5 HS.out.zb (.int .i64 0) (.string ⟨#[]⟩) (.int .i64 0) (.int .i64 0) (.int .i64 0)
              have kc := kb.cell
              refine bodyPost_ret (v := .tuple #[insVal insZr, .bool R.isSome]) ?_ rfl ⟨_, rfl, fun i hi => (by rw [HN.out] at hi; cases hi), ext_set5 HS.out.ext HS.out.z0 _ _ _ _ _⟩
              rw [HN.out]
              simp [results, Tryz.results64, go_sem, insVal, insZr, kc]
            | some p =>
              obtain ⟨m, r⟩ := p
              have HG : Hid (endF (runF (F.drop (i + 1)) r ({ j with s := mkB m } : Ins)) = R) := Lib.hid (by rw [← HGO.out, hN]; rfl)
              have hTd : r.length ≤ 300 := by have := named_len hN; omega
              rw [hN, namedV_some] at HND
              clear HGO hN
              go_upto_region 20 with (go_at_call 108; refine (HND _).out.mono ?_; rintro e W5 ⟨rfl, hx⟩; have HS5 := Lib.hid (HS.out.go hx); clear hx HS)
              have HS := HS5
              clear HS5
              have hj : Blk _ _ _ #[.int .i64 j.op, .string j.s, .int .i64 j.n, .int .i64 j.v, .int .i64 j.a] := HS.out.jb
              have j0 := hj.cell 0
              have j1 := hj.cell 1
              have j2 := hj.cell 2
              have j3 := hj.cell 3
              have j4 := hj.cell 4
              have jf := hj.frozen
              clear hj
              go_wp2_with fail
              go_roundw
              case rel => exact ⟨i + 1, _, _, hlt, by go_num, rfl, hTd, HG.out, Lib.hid (HS.out.setS _)⟩
              case measure => simp [intOf]; omega
          · rw [step_o (by decide) (by decide) (by decide)] at HGO
            have HW := HGO
            clear HGO HND HNA
            go_upto_region 23 with fail
            have hTz : (mkB T).size = T.length := mkB_size T
            have HTZ := Lib.hid hTz
            have hT1 : (mkB T).size ≤ 300 := by omega
            have HTK := fun (q : Nat) => Lib.hid (mk_take T q)
            have HDR := fun (q : Nat) => Lib.hid (mk_drop T q)
            have HAT := fun (q : Nat) (h : q < (mkB T).size) (h2 : q < T.length) => Lib.hid (mk_at T q h h2)
            have hwl := word_le T
            have hwz : (mkB (wordF T)).size = (wordF T).length := mkB_size _
            have HWZ := Lib.hid hwz
            have hwn : (mkB (wordF T)).size ≤ (mkB T).size := by omega
            have hTd : (T.drop (wordF T).length).length ≤ 300 := by rw [List.length_drop]; omega
            clear hTz hwz
            generalize hBT : mkB T = BT at *
            have HBT := Lib.hid hBT
            clear hBT
            go_upto_block 3 with fail
            obtain ⟨V, hV⟩ : ∃ V1 : World, V1 = wr := ⟨_, rfl⟩
            go_cut [13] (fun z wx => z = .string (mkB (wordF T)) ∧ wr = wx)
            case first =>
              go_wp2_with fail
              go_loopw [13, 14] (fun wv jv wx => ∃ q : Nat, q ≤ BT.size ∧ jv = .int .i64 q ∧ wv = .string BT ∧ wr = wx ∧ Hid ((T.take q).all notSp = true)) (fun _ jv _ => BT.size - (intOf jv).toNat)
              case atStart => exact ⟨0, Nat.zero_le _, rfl, rfl, rfl, Lib.hid rfl⟩
              case round =>
                obtain ⟨q, hq, rfl, rfl, rfl, HA⟩ := hrel
                by_cases hq2 : q < BT.size
                · have hqT : q < T.length := by have := HTZ.out; omega
                  have hat := (HAT q hq2 hqT).out
                  by_cases h32 : BT[q]'hq2 = 32
                  · have e32 : (((BT[q]'hq2).toNat : Int) == 32) = true := by rw [h32]; rfl
                    have HW2 : Hid (mkB (T.take q) = mkB (wordF T)) := Lib.hid (by rw [word_at hqT HA.out (hat.symm.trans h32)])
                    clear hat h32
                    go_wp2_with fail
                    go_meet
                    exact ⟨by rw [(HTK q).out, HW2.out], rfl⟩
                  · have e32 : (((BT[q]'hq2).toNat : Int) == 32) = false := u8_ne (n := 32) (by omega) h32
                    have HA2 : Hid ((T.take (q + 1)).all notSp = true) := Lib.hid (by rw [List.take_succ_eq_append_getElem hqT, List.all_append, HA.out, ← hat]; simp [notSp, h32])
                    clear hat h32
                    go_wp2_with fail
                    go_roundw
                    case rel => exact ⟨q + 1, hq2, by go_num, rfl, trivial, HA2⟩
                    case measure => simp [intOf]; omega
                · have hqe : q = T.length := by have := HTZ.out; omega
                  have HW2 : Hid (BT = mkB (wordF T)) := Lib.hid (by rw [← HBT.out, word_end (by have := HA.out; rw [hqe, List.take_length] at this; exact this)])
                  clear hqe
                  go_wp2_with fail
                  go_meet
                  exact ⟨by rw [← HW2.out], rfl⟩
            case rest =>
              obtain ⟨rfl, rfl⟩ := hcut
              clear HTK HAT
              have HWL : Hid (BT.extract (mkB (wordF T)).size BT.size = mkB (T.drop (wordF T).length)) := Lib.hid (by rw [HWZ.out]; exact (HDR _).out)
              clear HDR
              have hnl : (mkB (wordF T)).size ≤ 1000 := by omega
              have hnq : numL (mkB (wordF T)).data.toList = numL (wordF T) := by rw [mkB_list]
              have HWR : Hid (restF 110 T j = (match numL (wordF T) with | none => none | some y => match setN 110 0 y j with | none => none | some j2 => some (T.drop (wordF T).length, j2))) := Lib.hid (by unfold restF leadF; rfl)
              generalize mkB (wordF T) = bw at *
              cases hn : numL (wordF T) with
              | none =>
                have HN : Hid (R = none) := Lib.hid (by rw [← HW.out, HWR.out, hn]; rfl)
                rw [hn] at hnq
                clear hn HW HWR
                go_upto_region 38 with (go_at_call 109; refine (rNumP _ hnl _ _ hnq).mono ?_; rintro e W9 ⟨m9, rfl, hm9, hb9, rfl⟩; have HM9 := Lib.hid hm9; clear hm9)
                have hz : Blk _ _ _ #[.int .i64 0, .string ⟨#[]⟩, .int .i64 0, .int .i64 0, .int .i64 0] := HS.out.zb
                have z0 := hz.cell 0
                have z1 := hz.cell 1
                have z2 := hz.cell 2
                have z3 := hz.cell 3
                have z4 := hz.cell 4
                have kzf := hz.frozen
                clear hz
                go_wp2_with fail
                have kb := blk_set5 HS.out.zb (.int .i64 0) (.string ⟨#[]⟩) (.int .i64 0) (.int .i64 0) (.int .i64 0)
                have kc := kb.cell
                refine bodyPost_ret (v := .tuple #[insVal insZr, .bool R.isSome]) ?_ rfl ⟨_, rfl, fun i hi => (by rw [HN.out] at hi; cases hi), ext_set5 HS.out.ext HS.out.z0 _ _ _ _ _⟩
                rw [HN.out]
                simp [results, Tryz.results64, go_sem, insVal, insZr, kc]
              | some y =>
                rw [hn] at hnq
                have HWR2 := Lib.hid (HWR.out.trans (by rw [hn]))
                have HG : Hid (endF (runF (F.drop (i + 1)) (T.drop (wordF T).length) ({ j with n := y } : Ins)) = R) := Lib.hid (by rw [← HW.out, HWR.out, hn]; rfl)
                clear hn HW HWR HWR2
                go_upto_region 30 with fail
                rw [HWL.out]
                have hj : Blk _ _ _ #[.int .i64 j.op, .string j.s, .int .i64 j.n, .int .i64 j.v, .int .i64 j.a] := HS.out.jb
                have j0 := hj.cell 0
                have j1 := hj.cell 1
                have j2 := hj.cell 2
                have j3 := hj.cell 3
                have j4 := hj.cell 4
                have jf := hj.frozen
                clear hj
                go_wp2_with (go_at_call 109; refine (rNumP _ hnl _ _ hnq).mono ?_; rintro e W9 ⟨m9, rfl, hm9, hb9, rfl⟩; have HM9 := Lib.hid hm9; clear hm9)
                obtain rfl := (HM9.out y rfl)
                go_roundw
                case rel => exact ⟨i + 1, _, _, hlt, by go_num, rfl, hTd, HG.out, Lib.hid (HS.out.setN _)⟩
                case measure => simp [intOf]; omega
          · rw [step_o (by decide) (by decide) (by decide)] at HGO
            have HW := HGO
            clear HGO HND HNA
            go_upto_region 23 with fail
            have hTz : (mkB T).size = T.length := mkB_size T
            have HTZ := Lib.hid hTz
            have hT1 : (mkB T).size ≤ 300 := by omega
            have HTK := fun (q : Nat) => Lib.hid (mk_take T q)
            have HDR := fun (q : Nat) => Lib.hid (mk_drop T q)
            have HAT := fun (q : Nat) (h : q < (mkB T).size) (h2 : q < T.length) => Lib.hid (mk_at T q h h2)
            have hwl := word_le T
            have hwz : (mkB (wordF T)).size = (wordF T).length := mkB_size _
            have HWZ := Lib.hid hwz
            have hwn : (mkB (wordF T)).size ≤ (mkB T).size := by omega
            have hTd : (T.drop (wordF T).length).length ≤ 300 := by rw [List.length_drop]; omega
            clear hTz hwz
            generalize hBT : mkB T = BT at *
            have HBT := Lib.hid hBT
            clear hBT
            go_upto_block 3 with fail
            obtain ⟨V, hV⟩ : ∃ V1 : World, V1 = wr := ⟨_, rfl⟩
            go_cut [13] (fun z wx => z = .string (mkB (wordF T)) ∧ wr = wx)
            case first =>
              go_wp2_with fail
              go_loopw [13, 14] (fun wv jv wx => ∃ q : Nat, q ≤ BT.size ∧ jv = .int .i64 q ∧ wv = .string BT ∧ wr = wx ∧ Hid ((T.take q).all notSp = true)) (fun _ jv _ => BT.size - (intOf jv).toNat)
              case atStart => exact ⟨0, Nat.zero_le _, rfl, rfl, rfl, Lib.hid rfl⟩
              case round =>
                obtain ⟨q, hq, rfl, rfl, rfl, HA⟩ := hrel
                by_cases hq2 : q < BT.size
                · have hqT : q < T.length := by have := HTZ.out; omega
                  have hat := (HAT q hq2 hqT).out
                  by_cases h32 : BT[q]'hq2 = 32
                  · have e32 : (((BT[q]'hq2).toNat : Int) == 32) = true := by rw [h32]; rfl
                    have HW2 : Hid (mkB (T.take q) = mkB (wordF T)) := Lib.hid (by rw [word_at hqT HA.out (hat.symm.trans h32)])
                    clear hat h32
                    go_wp2_with fail
                    go_meet
                    exact ⟨by rw [(HTK q).out, HW2.out], rfl⟩
                  · have e32 : (((BT[q]'hq2).toNat : Int) == 32) = false := u8_ne (n := 32) (by omega) h32
                    have HA2 : Hid ((T.take (q + 1)).all notSp = true) := Lib.hid (by rw [List.take_succ_eq_append_getElem hqT, List.all_append, HA.out, ← hat]; simp [notSp, h32])
                    clear hat h32
                    go_wp2_with fail
                    go_roundw
                    case rel => exact ⟨q + 1, hq2, by go_num, rfl, trivial, HA2⟩
                    case measure => simp [intOf]; omega
                · have hqe : q = T.length := by have := HTZ.out; omega
                  have HW2 : Hid (BT = mkB (wordF T)) := Lib.hid (by rw [← HBT.out, word_end (by have := HA.out; rw [hqe, List.take_length] at this; exact this)])
                  clear hqe
                  go_wp2_with fail
                  go_meet
                  exact ⟨by rw [← HW2.out], rfl⟩
            case rest =>
              obtain ⟨rfl, rfl⟩ := hcut
              clear HTK HAT
              have HWL : Hid (BT.extract (mkB (wordF T)).size BT.size = mkB (T.drop (wordF T).length)) := Lib.hid (by rw [HWZ.out]; exact (HDR _).out)
              clear HDR
              have hnl : (mkB (wordF T)).size ≤ 1000 := by omega
              have hnq : numL (mkB (wordF T)).data.toList = numL (wordF T) := by rw [mkB_list]
              have HWR : Hid (restF 101 T j = (match numL (wordF T) with | none => none | some y => match setN 101 0 y j with | none => none | some j2 => some (T.drop (wordF T).length, j2))) := Lib.hid (by unfold restF leadF; rfl)
              generalize mkB (wordF T) = bw at *
              cases hn : numL (wordF T) with
              | none =>
                have HN : Hid (R = none) := Lib.hid (by rw [← HW.out, HWR.out, hn]; rfl)
                rw [hn] at hnq
                clear hn HW HWR
                go_upto_region 38 with (go_at_call 109; refine (rNumP _ hnl _ _ hnq).mono ?_; rintro e W9 ⟨m9, rfl, hm9, hb9, rfl⟩; have HM9 := Lib.hid hm9; clear hm9)
                have hz : Blk _ _ _ #[.int .i64 0, .string ⟨#[]⟩, .int .i64 0, .int .i64 0, .int .i64 0] := HS.out.zb
                have z0 := hz.cell 0
                have z1 := hz.cell 1
                have z2 := hz.cell 2
                have z3 := hz.cell 3
                have z4 := hz.cell 4
                have kzf := hz.frozen
                clear hz
                go_wp2_with fail
                have kb := blk_set5 HS.out.zb (.int .i64 0) (.string ⟨#[]⟩) (.int .i64 0) (.int .i64 0) (.int .i64 0)
                have kc := kb.cell
                refine bodyPost_ret (v := .tuple #[insVal insZr, .bool R.isSome]) ?_ rfl ⟨_, rfl, fun i hi => (by rw [HN.out] at hi; cases hi), ext_set5 HS.out.ext HS.out.z0 _ _ _ _ _⟩
                rw [HN.out]
                simp [results, Tryz.results64, go_sem, insVal, insZr, kc]
              | some y =>
                rw [hn] at hnq
                have HWR2 := Lib.hid (HWR.out.trans (by rw [hn]))
                have HG : Hid (endF (runF (F.drop (i + 1)) (T.drop (wordF T).length) ({ j with n := y } : Ins)) = R) := Lib.hid (by rw [← HW.out, HWR.out, hn]; rfl)
                clear hn HW HWR HWR2
                go_upto_region 30 with fail
                rw [HWL.out]
                have hj : Blk _ _ _ #[.int .i64 j.op, .string j.s, .int .i64 j.n, .int .i64 j.v, .int .i64 j.a] := HS.out.jb
                have j0 := hj.cell 0
                have j1 := hj.cell 1
                have j2 := hj.cell 2
                have j3 := hj.cell 3
                have j4 := hj.cell 4
                have jf := hj.frozen
                clear hj
                go_wp2_with (go_at_call 109; refine (rNumP _ hnl _ _ hnq).mono ?_; rintro e W9 ⟨m9, rfl, hm9, hb9, rfl⟩; have HM9 := Lib.hid hm9; clear hm9)
                obtain rfl := (HM9.out y rfl)
                go_roundw
                case rel => exact ⟨i + 1, _, _, hlt, by go_num, rfl, hTd, HG.out, Lib.hid (HS.out.setN _)⟩
                case measure => simp [intOf]; omega
          · rw [step_o (by decide) (by decide) (by decide)] at HGO
            have HW := HGO
            clear HGO HND HNA
            go_upto_region 23 with fail
            have hTz : (mkB T).size = T.length := mkB_size T
            have HTZ := Lib.hid hTz
            have hT1 : (mkB T).size ≤ 300 := by omega
            have HTK := fun (q : Nat) => Lib.hid (mk_take T q)
            have HDR := fun (q : Nat) => Lib.hid (mk_drop T q)
            have HAT := fun (q : Nat) (h : q < (mkB T).size) (h2 : q < T.length) => Lib.hid (mk_at T q h h2)
            have hwl := word_le T
            have hwz : (mkB (wordF T)).size = (wordF T).length := mkB_size _
            have HWZ := Lib.hid hwz
            have hwn : (mkB (wordF T)).size ≤ (mkB T).size := by omega
            have hTd : (T.drop (wordF T).length).length ≤ 300 := by rw [List.length_drop]; omega
            clear hTz hwz
            generalize hBT : mkB T = BT at *
            have HBT := Lib.hid hBT
            clear hBT
            go_upto_block 3 with fail
            obtain ⟨V, hV⟩ : ∃ V1 : World, V1 = wr := ⟨_, rfl⟩
            go_cut [13] (fun z wx => z = .string (mkB (wordF T)) ∧ wr = wx)
            case first =>
              go_wp2_with fail
              go_loopw [13, 14] (fun wv jv wx => ∃ q : Nat, q ≤ BT.size ∧ jv = .int .i64 q ∧ wv = .string BT ∧ wr = wx ∧ Hid ((T.take q).all notSp = true)) (fun _ jv _ => BT.size - (intOf jv).toNat)
              case atStart => exact ⟨0, Nat.zero_le _, rfl, rfl, rfl, Lib.hid rfl⟩
              case round =>
                obtain ⟨q, hq, rfl, rfl, rfl, HA⟩ := hrel
                by_cases hq2 : q < BT.size
                · have hqT : q < T.length := by have := HTZ.out; omega
                  have hat := (HAT q hq2 hqT).out
                  by_cases h32 : BT[q]'hq2 = 32
                  · have e32 : (((BT[q]'hq2).toNat : Int) == 32) = true := by rw [h32]; rfl
                    have HW2 : Hid (mkB (T.take q) = mkB (wordF T)) := Lib.hid (by rw [word_at hqT HA.out (hat.symm.trans h32)])
                    clear hat h32
                    go_wp2_with fail
                    go_meet
                    exact ⟨by rw [(HTK q).out, HW2.out], rfl⟩
                  · have e32 : (((BT[q]'hq2).toNat : Int) == 32) = false := u8_ne (n := 32) (by omega) h32
                    have HA2 : Hid ((T.take (q + 1)).all notSp = true) := Lib.hid (by rw [List.take_succ_eq_append_getElem hqT, List.all_append, HA.out, ← hat]; simp [notSp, h32])
                    clear hat h32
                    go_wp2_with fail
                    go_roundw
                    case rel => exact ⟨q + 1, hq2, by go_num, rfl, trivial, HA2⟩
                    case measure => simp [intOf]; omega
                · have hqe : q = T.length := by have := HTZ.out; omega
                  have HW2 : Hid (BT = mkB (wordF T)) := Lib.hid (by rw [← HBT.out, word_end (by have := HA.out; rw [hqe, List.take_length] at this; exact this)])
                  clear hqe
                  go_wp2_with fail
                  go_meet
                  exact ⟨by rw [← HW2.out], rfl⟩
            case rest =>
              obtain ⟨rfl, rfl⟩ := hcut
              clear HTK HAT
              have HWL : Hid (BT.extract (mkB (wordF T)).size BT.size = mkB (T.drop (wordF T).length)) := Lib.hid (by rw [HWZ.out]; exact (HDR _).out)
              clear HDR
              have hnl : (mkB (wordF T)).size ≤ 1000 := by omega
              have hnq : numL (mkB (wordF T)).data.toList = numL (wordF T) := by rw [mkB_list]
              have HWR : Hid (restF 108 T j = (match numL (wordF T) with | none => none | some y => match setN 108 0 y j with | none => none | some j2 => some (T.drop (wordF T).length, j2))) := Lib.hid (by unfold restF leadF; rfl)
              generalize mkB (wordF T) = bw at *
              cases hn : numL (wordF T) with
              | none =>
                have HN : Hid (R = none) := Lib.hid (by rw [← HW.out, HWR.out, hn]; rfl)
                rw [hn] at hnq
                clear hn HW HWR
                go_upto_region 38 with (go_at_call 109; refine (rNumP _ hnl _ _ hnq).mono ?_; rintro e W9 ⟨m9, rfl, hm9, hb9, rfl⟩; have HM9 := Lib.hid hm9; clear hm9)
                have hz : Blk _ _ _ #[.int .i64 0, .string ⟨#[]⟩, .int .i64 0, .int .i64 0, .int .i64 0] := HS.out.zb
                have z0 := hz.cell 0
                have z1 := hz.cell 1
                have z2 := hz.cell 2
                have z3 := hz.cell 3
                have z4 := hz.cell 4
                have kzf := hz.frozen
                clear hz
                go_wp2_with fail
                have kb := blk_set5 HS.out.zb (.int .i64 0) (.string ⟨#[]⟩) (.int .i64 0) (.int .i64 0) (.int .i64 0)
                have kc := kb.cell
                refine bodyPost_ret (v := .tuple #[insVal insZr, .bool R.isSome]) ?_ rfl ⟨_, rfl, fun i hi => (by rw [HN.out] at hi; cases hi), ext_set5 HS.out.ext HS.out.z0 _ _ _ _ _⟩
                rw [HN.out]
                simp [results, Tryz.results64, go_sem, insVal, insZr, kc]
              | some y =>
                rw [hn] at hnq
                have HWR2 := Lib.hid (HWR.out.trans (by rw [hn]))
                have HG : Hid (endF (runF (F.drop (i + 1)) (T.drop (wordF T).length) ({ j with a := y } : Ins)) = R) := Lib.hid (by rw [← HW.out, HWR.out, hn]; rfl)
                clear hn HW HWR HWR2
                go_upto_region 30 with fail
                rw [HWL.out]
                have hj : Blk _ _ _ #[.int .i64 j.op, .string j.s, .int .i64 j.n, .int .i64 j.v, .int .i64 j.a] := HS.out.jb
                have j0 := hj.cell 0
                have j1 := hj.cell 1
                have j2 := hj.cell 2
                have j3 := hj.cell 3
                have j4 := hj.cell 4
                have jf := hj.frozen
                clear hj
                go_wp2_with (go_at_call 109; refine (rNumP _ hnl _ _ hnq).mono ?_; rintro e W9 ⟨m9, rfl, hm9, hb9, rfl⟩; have HM9 := Lib.hid hm9; clear hm9)
                obtain rfl := (HM9.out y rfl)
                go_roundw
                case rel => exact ⟨i + 1, _, _, hlt, by go_num, rfl, hTd, HG.out, Lib.hid (HS.out.setA _)⟩
                case measure => simp [intOf]; omega
          · rw [step_f (.inl rfl)] at HGO
            cases hN : namedFrom T true T.length with
            | none =>
              have HN : Hid (R = none) := Lib.hid (by rw [← HGO.out, hN]; rfl)
              rw [hN, namedV_none] at HNA
              clear HGO hN
              go_upto_region 19 with (go_at_call 108; refine (HNA _).out.mono ?_; rintro e W5 ⟨rfl, hx⟩; have HS5 := Lib.hid (HS.out.go hx); clear hx HS)
              have HS := HS5
              have hz : Blk _ _ _ #[.int .i64 0, .string ⟨#[]⟩, .int .i64 0, .int .i64 0, .int .i64 0] := HS.out.zb
              have z0 := hz.cell 0
              have z1 := hz.cell 1
              have z2 := hz.cell 2
              have z3 := hz.cell 3
              have z4 := hz.cell 4
              have kzf := hz.frozen
              clear hz
              go_wp2_with fail
              have kb := blk_set5 HS.out.zb (.int .i64 0) (.string ⟨#[]⟩) (.int .i64 0) (.int .i64 0) (.int .i64 0)
              have kc := kb.cell
              refine bodyPost_ret (v := .tuple #[insVal insZr, .bool R.isSome]) ?_ rfl ⟨_, rfl, fun i hi => (by rw [HN.out] at hi; cases hi), ext_set5 HS.out.ext HS.out.z0 _ _ _ _ _⟩
              rw [HN.out]
              simp [results, Tryz.results64, go_sem, insVal, insZr, kc]
            | some p =>
              obtain ⟨m, r⟩ := p
              obtain ⟨T2, rfl⟩ := named_head hN
              have hTr : T2.length ≤ 299 := by have := named_len hN; simp at this; omega
              have HW0 : Hid (goF (F.drop (i + 1)) (restF 102 T2 ({ j with s := mkB m } : Ins)) = R) := Lib.hid (by rw [← HGO.out, hN]; rfl)
              rw [hN, namedV_some] at HNA
              have hc1 := Lib.hid (mk_cons 47 T2)
              have hc3 : (mkB (47 :: T2)).size = T2.length + 1 := mkB_size _
              have hx0 : 0 < (mkB (47 :: T2)).size := by omega
              have hx1 : 1 ≤ (mkB (47 :: T2)).size := by omega
              clear HGO hN hc3
              generalize mkB (47 :: T2) = B2 at *
              go_upto_region 20 with (go_at_call 108; refine (HNA _).out.mono ?_; rintro e W5 ⟨rfl, hx⟩; have HS5 := Lib.hid (HS.out.go hx); clear hx HS)
              have hj : Blk _ _ _ #[.int .i64 j.op, .string j.s, .int .i64 j.n, .int .i64 j.v, .int .i64 j.a] := HS5.out.jb
              have j1 := hj.cell 1
              have jf := hj.frozen
              clear hj
              go_upto_region 23 with fail
              rw [hc1.out]
              have HS6 := Lib.hid (HS5.out.setS (mkB m))
              generalize W5.setCell ⟨g, 1, none⟩ (.string (mkB m)) = W6 at *
              generalize ({ j with s := mkB m } : Ins) = j at *
              have HS := HS6
              have HW := HW0
              clear HS5 HS6 HW0 j1 jf hc1 hx0 hx1 HND HNA
              clear hTl
              have hTl := hTr
              clear hTr
              have hTz : (mkB T2).size = T2.length := mkB_size T2
              have HTZ := Lib.hid hTz
              have hT1 : (mkB T2).size ≤ 300 := by omega
              have HTK := fun (q : Nat) => Lib.hid (mk_take T2 q)
              have HDR := fun (q : Nat) => Lib.hid (mk_drop T2 q)
              have HAT := fun (q : Nat) (h : q < (mkB T2).size) (h2 : q < T2.length) => Lib.hid (mk_at T2 q h h2)
              have hwl := word_le T2
              have hwz : (mkB (wordF T2)).size = (wordF T2).length := mkB_size _
              have HWZ := Lib.hid hwz
              have hwn : (mkB (wordF T2)).size ≤ (mkB T2).size := by omega
              have hTd : (T2.drop (wordF T2).length).length ≤ 300 := by rw [List.length_drop]; omega
              clear hTz hwz
              generalize hBT : mkB T2 = BT at *
              have HBT := Lib.hid hBT
              clear hBT
              go_upto_block 3 with fail
              obtain ⟨V, hV⟩ : ∃ V1 : World, V1 = W6 := ⟨_, rfl⟩
              go_cut [13] (fun z wx => z = .string (mkB (wordF T2)) ∧ W6 = wx)
              case first =>
                go_wp2_with fail
                go_loopw [13, 14] (fun wv jv wx => ∃ q : Nat, q ≤ BT.size ∧ jv = .int .i64 q ∧ wv = .string BT ∧ W6 = wx ∧ Hid ((T2.take q).all notSp = true)) (fun _ jv _ => BT.size - (intOf jv).toNat)
                case atStart => exact ⟨0, Nat.zero_le _, rfl, rfl, rfl, Lib.hid rfl⟩
                case round =>
                  obtain ⟨q, hq, rfl, rfl, rfl, HA⟩ := hrel
                  by_cases hq2 : q < BT.size
                  · have hqT : q < T2.length := by have := HTZ.out; omega
                    have hat := (HAT q hq2 hqT).out
                    by_cases h32 : BT[q]'hq2 = 32
                    · have e32 : (((BT[q]'hq2).toNat : Int) == 32) = true := by rw [h32]; rfl
                      have HW2 : Hid (mkB (T2.take q) = mkB (wordF T2)) := Lib.hid (by rw [word_at hqT HA.out (hat.symm.trans h32)])
                      clear hat h32
                      go_wp2_with fail
                      go_meet
                      exact ⟨by rw [(HTK q).out, HW2.out], rfl⟩
                    · have e32 : (((BT[q]'hq2).toNat : Int) == 32) = false := u8_ne (n := 32) (by omega) h32
                      have HA2 : Hid ((T2.take (q + 1)).all notSp = true) := Lib.hid (by rw [List.take_succ_eq_append_getElem hqT, List.all_append, HA.out, ← hat]; simp [notSp, h32])
                      clear hat h32
                      go_wp2_with fail
                      go_roundw
                      case rel => exact ⟨q + 1, hq2, by go_num, rfl, trivial, HA2⟩
                      case measure => simp [intOf]; omega
                  · have hqe : q = T2.length := by have := HTZ.out; omega
                    have HW2 : Hid (BT = mkB (wordF T2)) := Lib.hid (by rw [← HBT.out, word_end (by have := HA.out; rw [hqe, List.take_length] at this; exact this)])
                    clear hqe
                    go_wp2_with fail
                    go_meet
                    exact ⟨by rw [← HW2.out], rfl⟩
              case rest =>
                obtain ⟨rfl, rfl⟩ := hcut
                clear HTK HAT
                have HWL : Hid (BT.extract (mkB (wordF T2)).size BT.size = mkB (T2.drop (wordF T2).length)) := Lib.hid (by rw [HWZ.out]; exact (HDR _).out)
                clear HDR
                have hnl : (mkB (wordF T2)).size ≤ 1000 := by omega
                have hnq : numL (mkB (wordF T2)).data.toList = numL (wordF T2) := by rw [mkB_list]
                have HWR : Hid (restF 102 T2 j = (match numL (wordF T2) with | none => none | some y => match setN 102 0 y j with | none => none | some j2 => some (T2.drop (wordF T2).length, j2))) := Lib.hid (by unfold restF leadF; rfl)
                generalize mkB (wordF T2) = bw at *
                cases hn : numL (wordF T2) with
                | none =>
                  have HN : Hid (R = none) := Lib.hid (by rw [← HW.out, HWR.out, hn]; rfl)
                  rw [hn] at hnq
                  clear hn HW HWR
                  go_upto_region 38 with (go_at_call 109; refine (rNumP _ hnl _ _ hnq).mono ?_; rintro e W9 ⟨m9, rfl, hm9, hb9, rfl⟩; have HM9 := Lib.hid hm9; clear hm9)
                  have hz : Blk _ _ _ #[.int .i64 0, .string ⟨#[]⟩, .int .i64 0, .int .i64 0, .int .i64 0] := HS.out.zb
                  have z0 := hz.cell 0
                  have z1 := hz.cell 1
                  have z2 := hz.cell 2
                  have z3 := hz.cell 3
                  have z4 := hz.cell 4
                  have kzf := hz.frozen
                  clear hz
                  go_wp2_with fail
                  have kb := blk_set5 HS.out.zb (.int .i64 0) (.string ⟨#[]⟩) (.int .i64 0) (.int .i64 0) (.int .i64 0)
                  have kc := kb.cell
                  refine bodyPost_ret (v := .tuple #[insVal insZr, .bool R.isSome]) ?_ rfl ⟨_, rfl, fun i hi => (by rw [HN.out] at hi; cases hi), ext_set5 HS.out.ext HS.out.z0 _ _ _ _ _⟩
                  rw [HN.out]
                  simp [results, Tryz.results64, go_sem, insVal, insZr, kc]
                | some y =>
                  rw [hn] at hnq
                  have HWR2 := Lib.hid (HWR.out.trans (by rw [hn]))
                  have HG : Hid (endF (runF (F.drop (i + 1)) (T2.drop (wordF T2).length) ({ j with n := y } : Ins)) = R) := Lib.hid (by rw [← HW.out, HWR.out, hn]; rfl)
                  clear hn HW HWR HWR2
                  go_upto_region 30 with fail
                  rw [HWL.out]
                  have hj : Blk _ _ _ #[.int .i64 j.op, .string j.s, .int .i64 j.n, .int .i64 j.v, .int .i64 j.a] := HS.out.jb
                  have j0 := hj.cell 0
                  have j1 := hj.cell 1
                  have j2 := hj.cell 2
                  have j3 := hj.cell 3
                  have j4 := hj.cell 4
                  have jf := hj.frozen
                  clear hj
                  go_wp2_with (go_at_call 109; refine (rNumP _ hnl _ _ hnq).mono ?_; rintro e W9 ⟨m9, rfl, hm9, hb9, rfl⟩; have HM9 := Lib.hid hm9; clear hm9)
                  obtain rfl := (HM9.out y rfl)
                  go_roundw
                  case rel => exact ⟨i + 1, _, _, hlt, by go_num, rfl, hTd, HG.out, Lib.hid (HS.out.setN _)⟩
                  case measure => simp [intOf]; omega
          · rw [step_f (.inr rfl)] at HGO
            cases hN : namedFrom T true T.length with
            | none =>
              have HN : Hid (R = none) := Lib.hid (by rw [← HGO.out, hN]; rfl)
              rw [hN, namedV_none] at HNA
              clear HGO hN
              go_upto_region 19 with (go_at_call 108; refine (HNA _).out.mono ?_; rintro e W5 ⟨rfl, hx⟩; have HS5 := Lib.hid (HS.out.go hx); clear hx HS)
              have HS := HS5
              have hz : Blk _ _ _ #[.int .i64 0, .string ⟨#[]⟩, .int .i64 0, .int .i64 0, .int .i64 0] := HS.out.zb
              have z0 := hz.cell 0
              have z1 := hz.cell 1
              have z2 := hz.cell 2
              have z3 := hz.cell 3
              have z4 := hz.cell 4
              have kzf := hz.frozen
              clear hz
              go_wp2_with fail
              have kb := blk_set5 HS.out.zb (.int .i64 0) (.string ⟨#[]⟩) (.int .i64 0) (.int .i64 0) (.int .i64 0)
              have kc := kb.cell
              refine bodyPost_ret (v := .tuple #[insVal insZr, .bool R.isSome]) ?_ rfl ⟨_, rfl, fun i hi => (by rw [HN.out] at hi; cases hi), ext_set5 HS.out.ext HS.out.z0 _ _ _ _ _⟩
              rw [HN.out]
              simp [results, Tryz.results64, go_sem, insVal, insZr, kc]
            | some p =>
              obtain ⟨m, r⟩ := p
              obtain ⟨T2, rfl⟩ := named_head hN
              have hTr : T2.length ≤ 299 := by have := named_len hN; simp at this; omega
              have HW0 : Hid (goF (F.drop (i + 1)) (restF 112 T2 ({ j with s := mkB m } : Ins)) = R) := Lib.hid (by rw [← HGO.out, hN]; rfl)
              rw [hN, namedV_some] at HNA
              have hc1 := Lib.hid (mk_cons 47 T2)
              have hc3 : (mkB (47 :: T2)).size = T2.length + 1 := mkB_size _
              have hx0 : 0 < (mkB (47 :: T2)).size := by omega
              have hx1 : 1 ≤ (mkB (47 :: T2)).size := by omega
              clear HGO hN hc3
              generalize mkB (47 :: T2) = B2 at *
              go_upto_region 20 with (go_at_call 108; refine (HNA _).out.mono ?_; rintro e W5 ⟨rfl, hx⟩; have HS5 := Lib.hid (HS.out.go hx); clear hx HS)
              have hj : Blk _ _ _ #[.int .i64 j.op, .string j.s, .int .i64 j.n, .int .i64 j.v, .int .i64 j.a] := HS5.out.jb
              have j1 := hj.cell 1
              have jf := hj.frozen
              clear hj
              go_upto_region 23 with fail
              rw [hc1.out]
              have HS6 := Lib.hid (HS5.out.setS (mkB m))
              generalize W5.setCell ⟨g, 1, none⟩ (.string (mkB m)) = W6 at *
              generalize ({ j with s := mkB m } : Ins) = j at *
              have HS := HS6
              have HW := HW0
              clear HS5 HS6 HW0 j1 jf hc1 hx0 hx1 HND HNA
              clear hTl
              have hTl := hTr
              clear hTr
              have hTz : (mkB T2).size = T2.length := mkB_size T2
              have HTZ := Lib.hid hTz
              have hT1 : (mkB T2).size ≤ 300 := by omega
              have HTK := fun (q : Nat) => Lib.hid (mk_take T2 q)
              have HDR := fun (q : Nat) => Lib.hid (mk_drop T2 q)
              have HAT := fun (q : Nat) (h : q < (mkB T2).size) (h2 : q < T2.length) => Lib.hid (mk_at T2 q h h2)
              have hwl := word_le T2
              have hwz : (mkB (wordF T2)).size = (wordF T2).length := mkB_size _
              have HWZ := Lib.hid hwz
              have hwn : (mkB (wordF T2)).size ≤ (mkB T2).size := by omega
              have hTd : (T2.drop (wordF T2).length).length ≤ 300 := by rw [List.length_drop]; omega
              clear hTz hwz
              generalize hBT : mkB T2 = BT at *
              have HBT := Lib.hid hBT
              clear hBT
              go_upto_block 3 with fail
              obtain ⟨V, hV⟩ : ∃ V1 : World, V1 = W6 := ⟨_, rfl⟩
              go_cut [13] (fun z wx => z = .string (mkB (wordF T2)) ∧ W6 = wx)
              case first =>
                go_wp2_with fail
                go_loopw [13, 14] (fun wv jv wx => ∃ q : Nat, q ≤ BT.size ∧ jv = .int .i64 q ∧ wv = .string BT ∧ W6 = wx ∧ Hid ((T2.take q).all notSp = true)) (fun _ jv _ => BT.size - (intOf jv).toNat)
                case atStart => exact ⟨0, Nat.zero_le _, rfl, rfl, rfl, Lib.hid rfl⟩
                case round =>
                  obtain ⟨q, hq, rfl, rfl, rfl, HA⟩ := hrel
                  by_cases hq2 : q < BT.size
                  · have hqT : q < T2.length := by have := HTZ.out; omega
                    have hat := (HAT q hq2 hqT).out
                    by_cases h32 : BT[q]'hq2 = 32
                    · have e32 : (((BT[q]'hq2).toNat : Int) == 32) = true := by rw [h32]; rfl
                      have HW2 : Hid (mkB (T2.take q) = mkB (wordF T2)) := Lib.hid (by rw [word_at hqT HA.out (hat.symm.trans h32)])
                      clear hat h32
                      go_wp2_with fail
                      go_meet
                      exact ⟨by rw [(HTK q).out, HW2.out], rfl⟩
                    · have e32 : (((BT[q]'hq2).toNat : Int) == 32) = false := u8_ne (n := 32) (by omega) h32
                      have HA2 : Hid ((T2.take (q + 1)).all notSp = true) := Lib.hid (by rw [List.take_succ_eq_append_getElem hqT, List.all_append, HA.out, ← hat]; simp [notSp, h32])
                      clear hat h32
                      go_wp2_with fail
                      go_roundw
                      case rel => exact ⟨q + 1, hq2, by go_num, rfl, trivial, HA2⟩
                      case measure => simp [intOf]; omega
                  · have hqe : q = T2.length := by have := HTZ.out; omega
                    have HW2 : Hid (BT = mkB (wordF T2)) := Lib.hid (by rw [← HBT.out, word_end (by have := HA.out; rw [hqe, List.take_length] at this; exact this)])
                    clear hqe
                    go_wp2_with fail
                    go_meet
                    exact ⟨by rw [← HW2.out], rfl⟩
              case rest =>
                obtain ⟨rfl, rfl⟩ := hcut
                clear HTK HAT
                have HWL : Hid (BT.extract (mkB (wordF T2)).size BT.size = mkB (T2.drop (wordF T2).length)) := Lib.hid (by rw [HWZ.out]; exact (HDR _).out)
                clear HDR
                have hnl : (mkB (wordF T2)).size ≤ 1000 := by omega
                have hnq : numL (mkB (wordF T2)).data.toList = numL (wordF T2) := by rw [mkB_list]
                have HWR : Hid (restF 112 T2 j = (match numL (wordF T2) with | none => none | some y => match setN 112 0 y j with | none => none | some j2 => some (T2.drop (wordF T2).length, j2))) := Lib.hid (by unfold restF leadF; rfl)
                generalize mkB (wordF T2) = bw at *
                cases hn : numL (wordF T2) with
                | none =>
                  have HN : Hid (R = none) := Lib.hid (by rw [← HW.out, HWR.out, hn]; rfl)
                  rw [hn] at hnq
                  clear hn HW HWR
                  go_upto_region 38 with (go_at_call 109; refine (rNumP _ hnl _ _ hnq).mono ?_; rintro e W9 ⟨m9, rfl, hm9, hb9, rfl⟩; have HM9 := Lib.hid hm9; clear hm9)
                  have hz : Blk _ _ _ #[.int .i64 0, .string ⟨#[]⟩, .int .i64 0, .int .i64 0, .int .i64 0] := HS.out.zb
                  have z0 := hz.cell 0
                  have z1 := hz.cell 1
                  have z2 := hz.cell 2
                  have z3 := hz.cell 3
                  have z4 := hz.cell 4
                  have kzf := hz.frozen
                  clear hz
                  go_wp2_with fail
                  have kb := blk_set5 HS.out.zb (.int .i64 0) (.string ⟨#[]⟩) (.int .i64 0) (.int .i64 0) (.int .i64 0)
                  have kc := kb.cell
                  refine bodyPost_ret (v := .tuple #[insVal insZr, .bool R.isSome]) ?_ rfl ⟨_, rfl, fun i hi => (by rw [HN.out] at hi; cases hi), ext_set5 HS.out.ext HS.out.z0 _ _ _ _ _⟩
                  rw [HN.out]
                  simp [results, Tryz.results64, go_sem, insVal, insZr, kc]
                | some y =>
                  rw [hn] at hnq
                  have HWR2 := Lib.hid (HWR.out.trans (by rw [hn]))
                  have HG : Hid (endF (runF (F.drop (i + 1)) (T2.drop (wordF T2).length) ({ j with n := y } : Ins)) = R) := Lib.hid (by rw [← HW.out, HWR.out, hn]; rfl)
                  clear hn HW HWR HWR2
                  go_upto_region 30 with fail
                  rw [HWL.out]
                  have hj : Blk _ _ _ #[.int .i64 j.op, .string j.s, .int .i64 j.n, .int .i64 j.v, .int .i64 j.a] := HS.out.jb
                  have j0 := hj.cell 0
                  have j1 := hj.cell 1
                  have j2 := hj.cell 2
                  have j3 := hj.cell 3
                  have j4 := hj.cell 4
                  have jf := hj.frozen
                  clear hj
                  go_wp2_with (go_at_call 109; refine (rNumP _ hnl _ _ hnq).mono ?_; rintro e W9 ⟨m9, rfl, hm9, hb9, rfl⟩; have HM9 := Lib.hid hm9; clear hm9)
                  obtain rfl := (HM9.out y rfl)
                  go_roundw
                  case rel => exact ⟨i + 1, _, _, hlt, by go_num, rfl, hTd, HG.out, Lib.hid (HS.out.setN _)⟩
                  case measure => simp [intOf]; omega
      · obtain rfl : i = F.length := by omega
        have HE2 : Hid (endF (some (S, j)) = R) := Lib.hid (by have := HE.out; rw [List.drop_length] at this; exact this)
        have hFz : ¬ F.length < fb.size := by have := HFS.out; omega
        clear HE HGF hfc
        have hSz : (mkB S).size = S.length := mkB_size S
        have HSB : Hid (R.isSome = decide (S.length = 0) ∧ ∀ q, R = some q → j = q) := Lib.hid (by
          rw [← HE2.out]
          cases S with
          | nil => exact ⟨rfl, fun q hq => by injection hq⟩
          | cons x T => exact ⟨rfl, fun q hq => by cases hq⟩)
        have hsb : (((mkB S).size : Int) == 0) = decide (S.length = 0) := by rw [hSz, Bool.eq_iff_iff]; simp
        generalize decide (S.length = 0) = bb at *
        have hsp : (mkB S).size = 0 ↔ bb = true := by rw [← hsb]; simp
        clear hSz HE2
        generalize mkB S = BS at *
        have hj : Blk _ _ _ #[.int .i64 j.op, .string j.s, .int .i64 j.n, .int .i64 j.v, .int .i64 j.a] := HS.out.jb
        have j0 := hj.cell 0
        have j1 := hj.cell 1
        have j2 := hj.cell 2
        have j3 := hj.cell 3
        have j4 := hj.cell 4
        have jf := hj.frozen
        clear hj
        have hz : Blk _ _ _ #[.int .i64 0, .string ⟨#[]⟩, .int .i64 0, .int .i64 0, .int .i64 0] := HS.out.zb
        have z0 := hz.cell 0
        have z1 := hz.cell 1
        have z2 := hz.cell 2
        have z3 := hz.cell 3
        have z4 := hz.cell 4
        have kzf := hz.frozen
        clear hz
        have hng := HS.out.ne
        go_wp2_with fail
        have kb := blk_set5 HS.out.zb (.int .i64 j.op) (.string j.s) (.int .i64 j.n) (.int .i64 j.v) (.int .i64 j.a)
        have kc := kb.cell
        refine bodyPost_ret (v := .tuple #[insVal j, .bool bb]) ?_ rfl ⟨j, by rw [HSB.out.1], HSB.out.2, ext_set5 HS.out.ext HS.out.z0 _ _ _ _ _⟩
        simp [results, Tryz.results64, go_sem, insVal, kc]

end Go.Proofs.YtmnnhdegoapfcaaGreatDoor
