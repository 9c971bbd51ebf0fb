/- Layer 10, the reference: the walk of variable. -/
import Derived.Test.YtgcdhffeacdegaaGreatDoorC40
import Derived.Test.YtgcdhffeacdegaaGreatDoorC16
namespace Go.Proofs.YtgcdhffeacdegaaGreatDoor
open Go.RowKit Go.El

/-- A name at a place. -/
theorem name_cell {w : World} {A : Option Addr} {c : Nat} {ns : List ByteArray} (h : w.ownsRow 0 9 1 (.slice A ns.length c) ns.length (ns.map Value.string)) {k : Nat} {s : ByteArray} (hk : ns[k]? = some s) : ∃ b off, A = some ⟨b, off, none⟩ ∧ w.cell? ⟨b, off + k, none⟩ = some (.string s) := by
  have hlt : k < ns.length := (List.getElem?_eq_some_iff.1 hk).1
  obtain ⟨b, off, rfl, hc⟩ := El.Src.form (Src.of_own h) (by omega) (by omega)
  exact ⟨b, off, rfl, hc k _ (by rw [List.getElem?_map, hk]; rfl)⟩
theorem us_list : usB.toList = [95] := by rw [ByteArray.toList_eq]; rfl

set_option maxRecDepth 100000 in
set_option maxHeartbeats 4000000 in
theorem raVar_old (s : ByteArray) (k : Nat) {f : RF} {w : World} {r : List TokV} {nv : Value} {ns : List ByteArray} {bad : Bool} (h : RaAt f w r nv ns bad) (hk : varI s ns = some k) :
    Calls Tryz.prog 110 #[.pointer (some ⟨f.pb, 0, none⟩), .string s] w fun e w' => e = .returned (tmVal (.mk 1 k ⟨#[]⟩ []) none 0) ∧ RaAt f w' r nv ns bad ∧ PStep f.S nv w nv w' := by
  have hne : s ≠ usB := by
    rintro rfl
    simp [varI] at hk
  unfold varI at hk
  rw [if_neg hne] at hk
  obtain ⟨hkl, hks, hkn⟩ := List.findIdx?_eq_some_iff_getElem.1 hk
  have hks : ns[k] = s := by simpa using hks
  have hkn : ∀ (j : Nat) (hj : j < k), ns[j]'(Nat.lt_trans hj hkl) ≠ s := fun j hj => by simpa using hkn j hj
  have e1 : (s.toList == [95]) = false := by
    have := @str_beq s usB
    rw [decide_eq_false hne, us_list] at this
    exact this
  have e2 : ¬ s.toList = [95] := by simpa using e1
  rw [tmVal_var]
  have hx := ext_box4 w (.cells #[.int .i64 0, .int .i64 0, .string ⟨#[]⟩, .slice none 0 0] 32)
  have HO := Lib.hid h.old
  have H := Lib.hid h
  have HX := Lib.hid hx
  have HZ := Lib.hid (Blk.new w 32 #[.int .i64 0, .int .i64 0, .string ⟨#[]⟩, .slice none 0 0])
  have HV := fun n W => Lib.hid (refVar_any n W)
  have hp : f.pb < w.heap.size := h.blk.lt
  have hnl : ns.length ≤ 65537 := by have := h.toks.len; have := h.nl; omega
  obtain ⟨A0, c0, hnv⟩ := own_value h.own
  have hown := h.own
  have c3 := hx.cell h.cells.c3
  rw [hnv] at hown c3
  have HOW := Lib.hid (own_ext hown hx)
  have HKN := Lib.hid hkn
  have HKS := Lib.hid hks
  clear h hx hne hk hown hkn hks
  go_enter Tryz.func110, Tryz.ntmps110
  go_upto_region 1 with fail
  generalize w.alloc (.cells #[.int .i64 0, .int .i64 0, .string ⟨#[]⟩, .slice none 0 0] 32) = W1 at *
  go_wp2_with fail
  go_loop [5] (fun i => ∃ j : Nat, j ≤ k ∧ i = .int .i64 j) (fun i => k + 1 - (intOf i).toNat)
  case atStart => exact ⟨0, Nat.zero_le _, rfl⟩
  case round =>
    obtain ⟨j, hj, rfl⟩ := hrel
    have hjl : j < ns.length := by omega
    obtain ⟨b, off, rfl, cj⟩ := name_cell HOW.out (List.getElem?_eq_getElem hjl)
    have hjq : (j : Int) < (ns.length : Int) := by omega
    by_cases hjk : j = k
    · subst hjk
      rw [HKS.out] at cj
      have hss : (s.toList == s.toList) = true := by simp
      go_wp2_with (go_at_call 34; refine (HV _ _).out.mono ?_; rintro e W2 ⟨rfl, hx⟩; have X2 := Lib.hid (HX.out.trans hx); have HZ2 := Lib.hid (HZ.out.ext hx); have zc := (HZ.out.ext hx).cell; have zf := (HZ.out.ext hx).frozen; clear hx)
      have kb := blk_set4 HZ2.out (.int .i64 1) (.int .i64 (j : Int)) (.string ⟨#[]⟩) (.slice none 0 0)
      have kc := kb.cell
      have h4 := (H.out.ext X2.out).set4 HO.out (Nat.le_refl _) HZ2.out (.int .i64 1) (.int .i64 (j : Int)) (.string ⟨#[]⟩) (.slice none 0 0)
      have s4 := pstep_set4 (PStep.ext (S := f.S) (nv := nv) X2.out) (Nat.le_refl _) (.int .i64 1) (.int .i64 (j : Int)) (.string ⟨#[]⟩) (.slice none 0 0)
      refine bodyPost_ret (v := .agg #[.int .i64 1, .int .i64 (j : Int), .string ⟨#[]⟩, .slice none 0 0]) ?_ rfl ⟨rfl, h4, s4⟩
      simp [results, Tryz.results110, go_sem, kc]
    · have hlt : j < k := by omega
      have hsb : (ns[j].toList == s.toList) = false := by rw [str_beq]; exact decide_eq_false (HKN.out j hlt)
      have hsp : ¬ ns[j].toList = s.toList := by simpa using hsb
      generalize ns[j] = nj at *
      go_wp2_with fail
      go_round
      case rel => exact ⟨j + 1, hlt, by go_num⟩
      case measure => simp [intOf]; omega

/-- What is known behind the names' growth. -/
structure RVarSt (f : RF) (w : World) (nv nv' : Value) (ns' : List ByteArray) (r : List TokV) (bad : Bool) (V : World) : Prop where
  pa : RaAt f V r nv' ns' bad
  st : PStep f.S nv w nv' V
  zb : Blk V w.heap.size 32 #[.int .i64 0, .int .i64 0, .string ⟨#[]⟩, .slice none 0 0]

set_option maxRecDepth 100000 in
set_option maxHeartbeats 4000000 in
theorem raVar_new (s : ByteArray) {f : RF} {w : World} {r : List TokV} {nv : Value} {ns : List ByteArray} {bad : Bool} (h : RaAt f w r nv ns bad) (hl : ns.length + r.length + 1 ≤ f.L.length) (hk : varI s ns = none) :
    Calls Tryz.prog 110 #[.pointer (some ⟨f.pb, 0, none⟩), .string s] w fun e w' => ∃ nv', e = .returned (tmVal (.mk 1 ns.length ⟨#[]⟩ []) none 0) ∧ RaAt f w' r nv' (ns ++ [s]) bad ∧ PStep f.S nv w nv' w' := by
  obtain ⟨i1, hi1, hz0, hz1, hz2⟩ := infoP strInfo
  have hcs : s = usB ∨ (s ≠ usB ∧ ∀ (j : Nat) (hj : j < ns.length), ns[j] ≠ s) := by
    by_cases hu : s = usB
    · exact .inl hu
    · right
      unfold varI at hk
      rw [if_neg hu] at hk
      exact ⟨hu, fun j hj e => by
        have := List.findIdx?_eq_none_iff.1 hk ns[j] (List.getElem_mem hj)
        rw [e] at this
        simp at this⟩
  have hbs : (s.toList == [95]) = decide (s = usB) := by rw [← us_list]; exact str_beq
  rw [tmVal_var]
  have hx := ext_box4 w (.cells #[.int .i64 0, .int .i64 0, .string ⟨#[]⟩, .slice none 0 0] 32)
  have HO := Lib.hid h.old
  have H := Lib.hid (h.ext hx)
  have HX := Lib.hid hx
  have HZ := Lib.hid (Blk.new w 32 #[.int .i64 0, .int .i64 0, .string ⟨#[]⟩, .slice none 0 0])
  have HV := fun n W => Lib.hid (refVar_any n W)
  have hp : f.pb < w.heap.size := h.blk.lt
  have hnl : ns.length ≤ 65537 := by have := h.toks.len; omega
  have HL := Lib.hid hl
  obtain ⟨A0, c0, hnv⟩ := own_value h.own
  have HNV := Lib.hid hnv
  have hown := h.own
  rw [hnv] at hown
  have HOW := Lib.hid (own_ext hown hx)
  have c3 := hx.cell h.cells.c3
  have hfz := (h.ext hx).blk.frozen 3
  rw [hnv] at c3
  have HLIT := fun (W : World) => Lib.hid (El.Src.new W #[.string s] 9 1 1 rfl)
  have HCS := Lib.hid hcs
  have HS := Lib.hid (World.size_alloc w (.cells #[.int .i64 0, .int .i64 0, .string ⟨#[]⟩, .slice none 0 0] 32))
  have HOLT := Lib.hid (fun b (hb : nv.ownBlock = some b) => own_lt h.own hb)
  clear h hx hk hl hown hnv hcs
  go_enter Tryz.func110, Tryz.ntmps110
  go_upto_region 1 with fail
  generalize w.alloc (.cells #[.int .i64 0, .int .i64 0, .string ⟨#[]⟩, .slice none 0 0] 32) = W1 at *
  go_wp2_with fail
  go_loop [5] (fun i => ∃ j : Nat, j ≤ ns.length ∧ i = .int .i64 j) (fun i => ns.length + 1 - (intOf i).toNat)
  case atStart => exact ⟨0, Nat.zero_le _, rfl⟩
  case round =>
    obtain ⟨j, hj, rfl⟩ := hrel
    by_cases hgo : j < ns.length ∧ s ≠ usB
    · obtain ⟨hjl, hu⟩ := hgo
      obtain ⟨b, off, rfl, cj⟩ := name_cell HOW.out (List.getElem?_eq_getElem hjl)
      have hjq : (j : Int) < (ns.length : Int) := by omega
      rw [decide_eq_false hu] at hbs
      have hbp : ¬ s.toList = [95] := by simpa using hbs
      have hnj : ns[j] ≠ s := by
        rcases HCS.out with e | e
        · exact absurd e hu
        · exact e.2 j hjl
      have hsb : (ns[j].toList == s.toList) = false := by rw [str_beq]; exact decide_eq_false hnj
      have hsp : ¬ ns[j].toList = s.toList := by simpa using hsb
      generalize ns[j] = nj at *
      clear hnj hu
      go_wp2_with fail
      go_round
      case rel => exact ⟨j + 1, hjl, by go_num⟩
      case measure => simp [intOf]; omega
    · have hstop : ((j : Int) < (ns.length : Int)) ∧ (s.toList == [95]) = true ∨ ¬ ((j : Int) < (ns.length : Int)) := by
        by_cases h1 : j < ns.length
        · left
          have hu : s = usB := Decidable.byContradiction fun hu => hgo ⟨h1, hu⟩
          rw [hbs]
          exact ⟨by omega, decide_eq_true hu⟩
        · right
          omega
      clear hgo hbs
      rcases hstop with ⟨hq1, hq2⟩ | hq1
      all_goals
        go_upto_region 7 with (at_builtin; refine wpList_append_src (P := Tryz.prog) rfl (.tmp 34) (.tmp 36) 33 rfl 9 i1 _ 1 16 Tryz.underlying33 hi1 hz0 hz1 hz2 rfl (by omega) (.slice A0 ns.length c0) rfl _ _ _ rfl ns.length (ns.map Value.string) (own_ext HOW.out (ext_box4 _ _)) [.string s] (HLIT _).out (by intro u hu; simp at hu; subst hu; rfl) (by unfold maxLen; omega) (by omega) ?_; intro v3 w3 ho3 hm3 hb3; obtain ⟨A3, q3, rfl⟩ := own_value ho3; have HO3 := Lib.hid ho3; have HM3 := Lib.hid hm3; have HB3 := Lib.hid hb3; have bp : Blk w3 f.pb 87 (raA f r nv bad) := ((H.out.ext (ext_box4 _ _)).blk.mods hm3 (by rw [← HNV.out]; simpa [ownL] using H.out.np)); have b3 := bp.cell 3; have f3 := bp.frozen 3; have HBP := Lib.hid bp; clear ho3 hm3 hb3 bp)
        have hX3 : Mods (ownL nv) W1 w3 := (Mods.ext (ext_box4 _ (.cells #[.string s] 9))).trans (by have := HM3.out; rw [← HNV.out] at this; exact this)
        have hz3 : Blk w3 w.heap.size 32 #[.int .i64 0, .int .i64 0, .string ⟨#[]⟩, .slice none 0 0] := HZ.out.mods hX3 (by intro hm; have := HOLT.out _ (mem_ownL hm); omega)
        have hnp3 : (Value.slice A3 (ns.length + 1) q3).ownBlock ≠ some f.pb := fun e => own_heap HO3.out HBP.out (.inl (by decide)) (by simp [ownL, e])
        have hs3 : PStep f.S nv W1 (Value.slice A3 (ns.length + 1) q3) w3 := ⟨hX3.mono (fun k hk => List.mem_append.2 (.inr hk)), fun k hk => by
          rcases HB3.out with e | e
          · left; rw [HNV.out, ← e]; exact hk
          · right; rw [e] at hk; injection hk with hk; rw [← hk]; exact (ext_box4 _ _).size⟩
        have ho3 : w3.ownsRow 0 9 1 (Value.slice A3 (ns.length + 1) q3) (ns ++ [s]).length ((ns ++ [s]).map Value.string) := by have := HO3.out; simpa using this
        have hs4 := hs3.trans (PStep.set_ (RaAt.pbS (f := f)) (i := 3) (Value.slice A3 (ns.length + 1) q3))
        have HS3 : Hid (RVarSt f w nv (Value.slice A3 (ns.length + 1) q3) (ns ++ [s]) r bad (w3.setCell ⟨f.pb, 3, none⟩ (Value.slice A3 (ns.length + 1) q3))) := Lib.hid ⟨H.out.step hs4 (HBP.out.set_ 3 (Value.slice A3 (ns.length + 1) q3)) (ownsRow_setCell_other ho3 hnp3 _) H.out.suf H.out.nil hnp3 (by have := HL.out; simp; omega), (PStep.ext HX.out).trans hs4, hz3.far (p := ⟨f.pb, 3, none⟩) (by simp; omega) _⟩
        clear hX3 hz3 hnp3 hs3 ho3 hs4 HO3 HM3 HB3 HBP b3 f3 c3 hfz
        generalize w3.setCell ⟨f.pb, 3, none⟩ (.slice A3 (ns.length + 1) q3) = W4 at *
        have c3 := HS3.out.pa.cells.c3
        go_wp2_with (go_at_call 34; refine (HV _ _).out.mono ?_; rintro e W6 ⟨rfl, hx⟩; have H6 := Lib.hid (HS3.out.pa.ext hx); have S6 := Lib.hid (HS3.out.st.trans (PStep.ext hx)); have HZ6 := Lib.hid (HS3.out.zb.ext hx); have zc := (HS3.out.zb.ext hx).cell; have zf := (HS3.out.zb.ext hx).frozen; clear hx)
        have kb := blk_set4 HZ6.out (.int .i64 1) (.int .i64 (ns.length : Int)) (.string ⟨#[]⟩) (.slice none 0 0)
        have kc := kb.cell
        have h7 := H6.out.set4 HO.out (Nat.le_refl _) HZ6.out (.int .i64 1) (.int .i64 (ns.length : Int)) (.string ⟨#[]⟩) (.slice none 0 0)
        have s7 := pstep_set4 S6.out (Nat.le_refl _) (.int .i64 1) (.int .i64 (ns.length : Int)) (.string ⟨#[]⟩) (.slice none 0 0)
        refine bodyPost_ret (v := .agg #[.int .i64 1, .int .i64 (ns.length : Int), .string ⟨#[]⟩, .slice none 0 0]) ?_ rfl ⟨_, rfl, h7, s7⟩
        simp [results, Tryz.results110, go_sem, kc]

theorem raVariable (s : ByteArray) {f : RF} {w : World} {r : List TokV} {nv : Value} {ns : List ByteArray} {bad : Bool} (h : RaAt f w r nv ns bad) (hl : ns.length + r.length + 1 ≤ f.L.length) :
    Calls Tryz.prog 110 #[.pointer (some ⟨f.pb, 0, none⟩), .string s] w fun e w' => ∃ nv', e = .returned (tmVal (varT s ns) none 0) ∧ RaAt f w' r nv' (varN s ns) bad ∧ PStep f.S nv w nv' w' := by
  unfold varT varN
  cases hk : varI s ns with
  | none => exact raVar_new s h hl hk
  | some k => exact (raVar_old s k h hk).mono fun e w' ⟨e1, h1, s1⟩ => ⟨nv, e1, h1, s1⟩
end Go.Proofs.YtgcdhffeacdegaaGreatDoor
