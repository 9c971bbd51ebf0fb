/- Layer 10, the program: the walk of variable. -/
import Derived.Test.YtgcdhffeacdegaaGreatDoorH13
import Derived.Test.YtgcdhffeacdegaaGreatDoorH22
import Derived.Lib.LazyBuf
import Derived.Lib.Hide
import Derived.Deep.LoopGhost
namespace Go.Proofs.YtgcdhffeacdegaaGreatDoor
open Go.RowKit Go.El
theorem find_app {s x : ByteArray} {ns : List ByteArray} : (ns ++ [s]).findIdx? (fun y => decide (y = x)) = (match ns.findIdx? (fun y => decide (y = x)) with | some k => some k | none => if s = x then some ns.length else none) := by
 rw [List.findIdx?_append]
 cases h : ns.findIdx? (fun y => decide (y = x)) with
 | some k => rfl
 | none =>
  by_cases e : s = x
  ·simp [e, List.findIdx?_cons]
  ·simp [e, List.findIdx?_cons]
theorem findP_set {s x : ByteArray} {v : Value} : ∀ {ps : List (ByteArray × Value)}, findP x (setP s v ps) = if s = x then some v else findP x ps
 | [] => by simp [setP, findP]
 | p :: ps => by
  have ih := findP_set (s := s) (x := x) (v := v) (ps := ps)
  simp only [setP]
  by_cases h1 : p.1 = s
  ·rw [if_pos h1]
   simp only [findP]
   by_cases h2 : s = x
   ·rw [if_pos h2, if_pos h2]
   ·rw [if_neg h2, if_neg h2, if_neg (fun e => h2 (h1.symm.trans e))]
  ·rw [if_neg h1]
   simp only [findP]
   by_cases h3 : p.1 = x
   ·rw [if_pos h3, if_pos h3, if_neg (fun e => h1 (h3.trans e.symm))]
   ·rw [if_neg h3, if_neg h3, ih]
theorem names_more {ps : List (ByteArray × Value)} {ns : List ByteArray} {s : ByteArray} (h : NamesIn ps ns) (hs : varI s ns = none) : NamesIn (setP s (.int .i64 (ns.length : Int)) ps) (ns ++ [s]) := by
 intro x hx
 rw [findP_set, find_app]
 by_cases e : s = x
 ·subst e
  rw [if_pos rfl]
  unfold varI at hs
  rw [if_neg hx] at hs
  rw [hs]
  simp
 ·rw [if_neg e, h x hx]
  cases ns.findIdx? (fun y => decide (y = x)) with
  | some k => rfl
  | none => simp [e]
theorem zeroI (W : World) : (zeroValue 3).run Tryz.prog W = .ok (.int .i64 0) W := by kernel_rfl
theorem strInfo : (Tryz.prog.info? 9).map (fun i => (i.zero, i.size, i.bytes)) = some (some (.string ⟨#[]⟩), 1, 16) := by kernel_rfl
theorem tmVal_var (k : Int) : tmVal (.mk 1 k ⟨#[]⟩ []) none 0 = .agg #[.int .i64 1, .int .i64 k, .string ⟨#[]⟩, .slice none 0 0] := rfl
structure VarSt (f : PF) (w : World) (nv nv' : Value) (ns' : List ByteArray) (ps : List (ByteArray × Value)) (r : List TokV) (bad : Bool) (V : World) : Prop where
 st : PStep f.S nv w nv' V
 blk : Blk V f.pb 81 (paA f r nv' bad)
 own : V.ownsRow 0 9 1 nv' ns'.length (ns'.map Value.string)
 map : MapAt Value.string V f.mb ps
 zb : Blk V w.heap.size 32 #[.int .i64 0, .int .i64 0, .string ⟨#[]⟩, .slice none 0 0]
set_option maxRecDepth 100000 in
set_option maxHeartbeats 4000000 in
theorem paVar_old (s : ByteArray) (k : Nat) {f : PF} {w : World} {r : List TokV} {nv : Value} {ns : List ByteArray} {bad : Bool} (h : PaAt f w r nv ns bad) (hk : varI s ns = some k) :
  Calls Tryz.prog 97 #[.pointer (some ⟨f.pb, 0, none⟩), .string s] w fun e w' => e = .returned (tmVal (.mk 1 k ⟨#[]⟩ []) none 0) ∧ PaAt f w' r nv ns bad ∧ PStep f.S nv w nv w' := by
 obtain ⟨ps, hm, hps⟩ := h.map
 have hne : s ≠ usB := by
  rintro rfl
  simp [varI] at hk
 have hfp := hps s hne
 unfold varI at hk
 rw [if_neg hne] at hk
 rw [hk] at hfp
 have e1 : (s.toList == [95]) = false := by
  have := @str_beq s usB
  rw [decide_eq_false hne] at this
  have e : usB.toList = [95] := by rw [ByteArray.toList_eq]; rfl
  rw [e] at this
  exact this
 have e2 : ¬ s.toList = [95] := by simpa using e1
 rw [tmVal_var]
 have hx := ext_box4 w (.cells #[.int .i64 0, .int .i64 0, .string ⟨#[]⟩, .slice none 0 0] 32)
 have HO := Lib.hid h.old
 have H := Lib.hid h
 have HX := Lib.hid hx
 have HZ := Lib.hid (Blk.new w 32 #[.int .i64 0, .int .i64 0, .string ⟨#[]⟩, .slice none 0 0])
 have HV := fun W => Lib.hid (var_any (k : Int) W)
 have c4 := hx.cell h.cells.c4
 have HM := Lib.hid (hm.ext hx)
 have HF := Lib.hid hfp
 have hp : f.pb < w.heap.size := h.blk.lt
 clear h hx hm hps hne hk hfp
 go_enter Tryz.func97, Tryz.ntmps97
 go_upto_region 6 with (at_lookup; refine wpList_lookup_at (P := Tryz.prog) _ rfl _ _ true rfl strKind Tryz.underlying79 Tryz.underlying9 f.mb rfl s rfl _ zeroI ps HM.out ?_; rw [HF.out]; simp only [if_true, Option.map_some, Option.getD_some, Option.isSome_some])
 generalize w.alloc (.cells #[.int .i64 0, .int .i64 0, .string ⟨#[]⟩, .slice none 0 0] 32) = W1 at *
 go_wp2_with (go_at_call 124; refine (HV _).out.mono ?_; rintro e W2 ⟨rfl, hx⟩; have X2 := Lib.hid (HX.out.trans hx); have HZ2 := Lib.hid (HZ.out.ext hx); have zc := (HZ.out.ext hx).cell; have zf := (HZ.out.ext hx).frozen; clear hx)
 have kb := blk_set4 HZ2.out (.int .i64 1) (.int .i64 (k : Int)) (.string ⟨#[]⟩) (.slice none 0 0)
 have kc := kb.cell
 have h4 := (H.out.ext X2.out).set4 HO.out (Nat.le_refl _) HZ2.out (.int .i64 1) (.int .i64 (k : Int)) (.string ⟨#[]⟩) (.slice none 0 0)
 have s4 := pstep_set4 (PStep.ext (S := f.S) (nv := nv) X2.out) (Nat.le_refl _) (.int .i64 1) (.int .i64 (k : Int)) (.string ⟨#[]⟩) (.slice none 0 0)
 refine bodyPost_ret (v := .agg #[.int .i64 1, .int .i64 (k : Int), .string ⟨#[]⟩, .slice none 0 0]) ?_ rfl ⟨rfl, h4, s4⟩
 simp [results, Tryz.results97, go_sem, kc]
set_option maxRecDepth 100000 in
set_option maxHeartbeats 4000000 in
theorem paVar_new (s : ByteArray) {f : PF} {w : World} {r : List TokV} {nv : Value} {ns : List ByteArray} {bad : Bool} (h : PaAt f w r nv ns bad) (hl : ns.length + r.length + 1 ≤ f.L.length) (hk : varI s ns = none) :
  Calls Tryz.prog 97 #[.pointer (some ⟨f.pb, 0, none⟩), .string s] w fun e w' => ∃ nv', e = .returned (tmVal (.mk 1 ns.length ⟨#[]⟩ []) none 0) ∧ PaAt f w' r nv' (ns ++ [s]) bad ∧ PStep f.S nv w nv' w' := by
 obtain ⟨i1, hi1, hz0, hz1, hz2⟩ := infoP strInfo
 obtain ⟨ps, hm, hps⟩ := h.map
 have hNM := names_more hps hk
 rw [tmVal_var]
 have hx := ext_box4 w (.cells #[.int .i64 0, .int .i64 0, .string ⟨#[]⟩, .slice none 0 0] 32)
 have HO := Lib.hid h.old
 have H := Lib.hid h
 have HX := Lib.hid hx
 have HZ := Lib.hid (Blk.new w 32 #[.int .i64 0, .int .i64 0, .string ⟨#[]⟩, .slice none 0 0])
 have HV := fun W => Lib.hid (var_any (ns.length : Int) W)
 have c4 := hx.cell h.cells.c4
 have c3 := hx.cell h.cells.c3
 have HM := Lib.hid (hm.ext hx)
 have HNM := Lib.hid hNM
 have hp : f.pb < w.heap.size := h.blk.lt
 have hnl : ns.length ≤ 65537 := by have := h.toks.len; omega
 have HL := Lib.hid hl
 have hcs : ((findP s ps).isSome = false) ∨ ((findP s ps).isSome = true ∧ (s.toList == [95]) = true) := by
  cases hf : (findP s ps).isSome
  ·exact .inl rfl
  ·right
   refine ⟨rfl, ?_⟩
   have hu : s = usB := Decidable.byContradiction fun hne => by
    rw [hps s hne] at hf
    unfold varI at hk
    rw [if_neg hne] at hk
    rw [hk] at hf
    cases hf
   rw [hu, ByteArray.toList_eq]
   rfl
 obtain ⟨gv, hgv⟩ : ∃ gv, (findP s ps).getD (.int .i64 0) = gv := ⟨_, rfl⟩
 obtain ⟨gb, hgb⟩ : ∃ gb, (findP s ps).isSome = gb := ⟨_, rfl⟩
 have HGV := Lib.hid hgv
 have HGB := Lib.hid hgb
 rw [hgb] at hcs
 obtain ⟨A0, c0, hnv⟩ := own_value h.own
 have hown := h.own
 rw [hnv] at c3 hown
 have HOW := Lib.hid (own_ext hown hx)
 have HNV := Lib.hid hnv
 clear h hx hm hps hk hNM hl hgv hgb hown hnv
 have hlit : ∀ (W : World), El.Src (W.alloc (.cells #[.string s] 9)) (some ⟨W.heap.size, 0, none⟩) 1 1 [.string s] := fun W => El.Src.new W #[.string s] 9 1 1 rfl
 have HLIT := fun W => Lib.hid (hlit W)
 clear hlit
 rcases hcs with rfl | ⟨rfl, e1⟩
 all_goals
  go_enter Tryz.func97, Tryz.ntmps97
  go_upto_region 4 with (at_lookup; refine wpList_lookup_at (P := Tryz.prog) _ rfl _ _ true rfl strKind Tryz.underlying79 Tryz.underlying9 f.mb rfl s rfl _ zeroI ps HM.out ?_; rw [HGV.out, HGB.out]; simp only [if_true])
  have HW1 := Lib.hid (World.size_alloc w (.cells #[.int .i64 0, .int .i64 0, .string ⟨#[]⟩, .slice none 0 0] 32))
  generalize w.alloc (.cells #[.int .i64 0, .int .i64 0, .string ⟨#[]⟩, .slice none 0 0] 32) = W1 at *
  go_upto_region 5 with (at_builtin; refine wpList_append_src (P := Tryz.prog) rfl (.tmp 31) (.tmp 33) 33 rfl 9 i1 _ 1 16 Tryz.underlying33 hi1 hz0 hz1 hz2 rfl (by omega) (.slice A0 ns.length c0) rfl _ _ _ rfl ns.length (ns.map Value.string) (own_ext HOW.out (ext_box4 _ _)) [.string s] (HLIT _).out (by intro u hu; simp at hu; subst hu; rfl) (by unfold maxLen; omega) (by omega) ?_; intro v3 w3 ho3 hm3 hb3; obtain ⟨A3, q3, rfl⟩ := own_value ho3; have HO3 := Lib.hid ho3; have HM3 := Lib.hid hm3; have HB3 := Lib.hid hb3; have bp : Blk w3 f.pb 81 (paA f r nv bad) := ((H.out.ext (HX.out.trans (ext_box4 _ _))).blk.mods hm3 (by rw [← HNV.out]; simpa [ownL] using H.out.np)); have b3 := bp.cell 3; have f3 := bp.frozen 3; have HBP := Lib.hid bp; clear ho3 hm3 hb3 bp)
  have hnvl : ∀ b, nv.ownBlock = some b → b < w.heap.size := fun b hb => own_lt H.out.own hb
  have hX3 : Mods (ownL nv) w w3 := (Mods.ext (HX.out.trans (ext_box4 _ (.cells #[.string s] 9)))).trans (by have := HM3.out; rw [← HNV.out] at this; exact this)
  have hz3 : Blk w3 w.heap.size 32 #[.int .i64 0, .int .i64 0, .string ⟨#[]⟩, .slice none 0 0] := (HZ.out.ext (ext_box4 _ _)).mods HM3.out (by rw [← HNV.out]; intro hm; have := hnvl _ (mem_ownL hm); omega)
  have hnp3 : (Value.slice A3 (ns.length + 1) q3).ownBlock ≠ some f.pb := fun e => own_heap HO3.out HBP.out (.inl (by decide)) (by simp [ownL, e])
  have hm3 : MapAt Value.string w3 f.mb ps := (HM.out.ext (ext_box4 _ _)).mods HM3.out (by rw [← HNV.out]; simpa [ownL] using H.out.nm)
  have hnm3 : (Value.slice A3 (ns.length + 1) q3).ownBlock ≠ some f.mb := fun e => own_ne_map HO3.out hm3 _ e rfl
  have hs3 : PStep f.S nv w (Value.slice A3 (ns.length + 1) q3) w3 := ⟨hX3.mono (fun k hk => List.mem_append.2 (.inr hk)), fun k hk => by
   rcases HB3.out with e | e
   ·left; rw [HNV.out, ← e]; exact hk
   ·right; rw [e] at hk; injection hk with hk; rw [← hk]; exact Nat.le_trans HX.out.size (ext_box4 _ _).size⟩
  have ho3 : w3.ownsRow 0 9 1 (Value.slice A3 (ns.length + 1) q3) (ns ++ [s]).length ((ns ++ [s]).map Value.string) := by have := HO3.out; simpa using this
  have HS3 : Hid (VarSt f w nv (Value.slice A3 (ns.length + 1) q3) (ns ++ [s]) ps r bad (w3.setCell ⟨f.pb, 3, none⟩ (Value.slice A3 (ns.length + 1) q3))) := Lib.hid ⟨hs3.trans (PStep.set_ (PaAt.pbS (f := f)) (Value.slice A3 (ns.length + 1) q3)), HBP.out.set_ 3 (Value.slice A3 (ns.length + 1) q3), ownsRow_setCell_other ho3 hnp3 _, map_set hm3 _, hz3.far (p := ⟨f.pb, 3, none⟩) (by simp; omega) _⟩
  have HNP := Lib.hid hnp3
  have HNN := Lib.hid hnm3
  have hw3 := HM3.out.size
  clear hX3 hz3 hnp3 hm3 hnm3 hs3 ho3 HO3 HM3 HB3 HBP hnvl
  generalize w3.setCell ⟨f.pb, 3, none⟩ (.slice A3 (ns.length + 1) q3) = W4 at *
  have c4 : W4.cell? ⟨f.pb, 4, none⟩ = some (.map (some f.mb)) := HS3.out.blk.cell 4
  clear c3 b3 f3
  go_upto_region 6 with (at_mapUpdate; refine wpList_mapUpdate_at (P := Tryz.prog) _ rfl _ _ _ 79 rfl strKind Tryz.underlying79 Tryz.underlying9 (m := f.mb) (ps := ps) rfl HS3.out.map s (.int .i64 ns.length) rfl rfl ?_; intro w5 hm5 hd5 hs5; have HM5 := Lib.hid hm5; have HD5 := Lib.hid hd5; clear hm5 hd5 hs5)
  have hzm : w.heap.size ≠ f.mb := by have := HO.out.2.1; omega
  have hz5 : Blk w5 w.heap.size 32 #[.int .i64 0, .int .i64 0, .string ⟨#[]⟩, .slice none 0 0] := HS3.out.zb.mods HD5.out (by simpa using hzm)
  have hp5 : Blk w5 f.pb 81 (paA f r (.slice A3 (ns.length + 1) q3) bad) := HS3.out.blk.mods HD5.out (by simpa using H.out.pm)
  have ho5 : w5.ownsRow 0 9 1 (.slice A3 (ns.length + 1) q3) (ns ++ [s]).length ((ns ++ [s]).map Value.string) := own_mods HS3.out.own HD5.out (fun b hb => by simp; rintro rfl; exact HNN.out hb)
  have hs5 : PStep f.S nv w (.slice A3 (ns.length + 1) q3) w5 := HS3.out.st.trans ⟨HD5.out.mono (fun k hk => List.mem_append.2 (.inl (by simp at hk; subst hk; simp [PF.S]))), fun k hk => .inl hk⟩
  have h5 : PaAt f w5 r (.slice A3 (ns.length + 1) q3) (ns ++ [s]) bad := H.out.step hs5 hp5 ho5 ⟨_, HM5.out, HNM.out⟩ H.out.suf H.out.nil HNP.out HNN.out (by have := HL.out; simp; omega)
  have H5 := Lib.hid h5
  have S5 := Lib.hid hs5
  have HZ5 := Lib.hid hz5
  clear h5 hs5 hz5 hp5 ho5 c4 HS3 HM5 HD5 hzm
  go_wp2_with (go_at_call 124; refine (HV _).out.mono ?_; rintro e W6 ⟨rfl, hx⟩; have H6 := Lib.hid (H5.out.ext hx); have S6 := Lib.hid (S5.out.trans (PStep.ext hx)); have HZ6 := Lib.hid (HZ5.out.ext hx); have zc := (HZ5.out.ext hx).cell; have zf := (HZ5.out.ext hx).frozen; clear hx)
  have kb := blk_set4 HZ6.out (.int .i64 1) (.int .i64 (ns.length : Int)) (.string ⟨#[]⟩) (.slice none 0 0)
  have kc := kb.cell
  have h7 := H6.out.set4 HO.out (Nat.le_refl _) HZ6.out (.int .i64 1) (.int .i64 (ns.length : Int)) (.string ⟨#[]⟩) (.slice none 0 0)
  have s7 := pstep_set4 S6.out (Nat.le_refl _) (.int .i64 1) (.int .i64 (ns.length : Int)) (.string ⟨#[]⟩) (.slice none 0 0)
  refine bodyPost_ret (v := .agg #[.int .i64 1, .int .i64 (ns.length : Int), .string ⟨#[]⟩, .slice none 0 0]) ?_ rfl ⟨_, rfl, h7, s7⟩
  simp [results, Tryz.results97, go_sem, kc]
theorem paVariable (s : ByteArray) {f : PF} {w : World} {r : List TokV} {nv : Value} {ns : List ByteArray} {bad : Bool} (h : PaAt f w r nv ns bad) (hl : ns.length + r.length + 1 ≤ f.L.length) :
  Calls Tryz.prog 97 #[.pointer (some ⟨f.pb, 0, none⟩), .string s] w fun e w' => ∃ nv', e = .returned (tmVal (varT s ns) none 0) ∧ PaAt f w' r nv' (varN s ns) bad ∧ PStep f.S nv w nv' w' := by
 unfold varT varN
 cases hk : varI s ns with
 | none => exact paVar_new s h hl hk
 | some k => exact (paVar_old s k h hk).mono fun e w' ⟨e1, h1, s1⟩ => ⟨nv, e1, h1, s1⟩
end Go.Proofs.YtgcdhffeacdegaaGreatDoor

/- Layer 6, the program: the walks of Int, Atom, slices.Clone, Comp. -/
namespace Go.Proofs.YtgcdhffeacdegaaGreatDoor
open Go.RowKit Go.El
set_option maxRecDepth 100000 in
theorem pInt_any (n : Int) (w : World) :
  Calls Tryz.prog 96 #[.int .i64 n] w fun e w' => e = .returned (.agg #[.int .i64 2, .int .i64 n, .string ⟨#[]⟩, .slice none 0 0]) ∧ Ext w w' := by
 go_enter Tryz.func96, Tryz.ntmps96
 go_wp2_with fail
 have hE := (Ext.refl w).alloc (.cells #[.int .i64 2, .int .i64 n, .string ⟨#[]⟩, .slice none 0 0] 32)
 have hB := Blk.new w 32 #[.int .i64 2, .int .i64 n, .string ⟨#[]⟩, .slice none 0 0]
 generalize w.alloc (.cells #[.int .i64 2, .int .i64 n, .string ⟨#[]⟩, .slice none 0 0] 32) = V at hE hB ⊢
 have r0 : V.cell? ⟨w.heap.size, 0, none⟩ = some (.int .i64 2) := hB.cell 0
 have r1 : V.cell? ⟨w.heap.size, 1, none⟩ = some (.int .i64 n) := hB.cell 1
 have r2 : V.cell? ⟨w.heap.size, 2, none⟩ = some (.string ⟨#[]⟩) := hB.cell 2
 have r3 : V.cell? ⟨w.heap.size, 3, none⟩ = some (.slice none 0 0) := hB.cell 3
 refine bodyPost_ret (v := .agg #[.int .i64 2, .int .i64 n, .string ⟨#[]⟩, .slice none 0 0]) (by simp [results, Tryz.results96, go_sem, r0, r1, r2, r3]) rfl ⟨rfl, hE⟩
set_option maxRecDepth 100000 in
theorem pAtom_any (s : ByteArray) (w : World) :
  Calls Tryz.prog 103 #[.string s] w fun e w' => e = .returned (.agg #[.int .i64 3, .int .i64 0, .string s, .slice none 0 0]) ∧ Ext w w' := by
 go_enter Tryz.func103, Tryz.ntmps103
 go_wp2_with fail
 have hE := (Ext.refl w).alloc (.cells #[.int .i64 3, .int .i64 0, .string s, .slice none 0 0] 32)
 have hB := Blk.new w 32 #[.int .i64 3, .int .i64 0, .string s, .slice none 0 0]
 generalize w.alloc (.cells #[.int .i64 3, .int .i64 0, .string s, .slice none 0 0] 32) = V at hE hB ⊢
 have r0 : V.cell? ⟨w.heap.size, 0, none⟩ = some (.int .i64 3) := hB.cell 0
 have r1 : V.cell? ⟨w.heap.size, 1, none⟩ = some (.int .i64 0) := hB.cell 1
 have r2 : V.cell? ⟨w.heap.size, 2, none⟩ = some (.string s) := hB.cell 2
 have r3 : V.cell? ⟨w.heap.size, 3, none⟩ = some (.slice none 0 0) := hB.cell 3
 refine bodyPost_ret (v := .agg #[.int .i64 3, .int .i64 0, .string s, .slice none 0 0]) (by simp [results, Tryz.results103, go_sem, r0, r1, r2, r3]) rfl ⟨rfl, hE⟩
set_option maxRecDepth 100000 in
set_option maxHeartbeats 1000000 in
theorem sclone_any (M : List TmP) (A : Option Addr) (c : Nat) (w : World) (hs : El.Src w A M.length 4 (flat tmC M)) (hn : M ≠ []) (hl : M.length ≤ 70000) :
  Calls Tryz.prog 104 #[.slice A M.length c] w fun e w' => ∃ A' c', e = .returned (.slice A' M.length c') ∧ w'.ownsRow 0 32 4 (.slice A' M.length c') M.length (flat tmC M) ∧ (∀ k, (Value.slice A' M.length c').ownBlock = some k → w.heap.size ≤ k) ∧ Ext w w' := by
 obtain ⟨i1, hi1, hz0, hz1, hz2⟩ := infoP tmInfo4
 have hpos : 0 < M.length := List.length_pos_iff.2 hn
 have hq := fun W => run_eql_slice_nil (P := Tryz.prog) W 30 32 A M.length c Tryz.underlying30
 obtain ⟨b, off, rfl, _⟩ := El.Src.form hs hpos (by omega)
 have HO := Lib.hid (own_empty w 32 4)
 have HS := Lib.hid (hs.ext ((Ext.refl w).alloc (.cells #[] 32)))
 have hone : ∀ u ∈ flat tmC M, u.oneCell' = true := fun u hu => by
  obtain ⟨p, _, h⟩ := List.mem_flatMap.1 hu
  exact tmC_one p u h
 have HONE := Lib.hid hone
 clear hs hn hone
 go_enter Tryz.func104, Tryz.ntmps104
 go_wp2_with (at_builtin; refine wpList_append_src (P := Tryz.prog) rfl (.tmp 5) (.tmp 6) 30 rfl 32 i1 _ 4 56 Tryz.underlying30 hi1 hz0 hz1 hz2 rfl (by omega) (.slice (some ⟨w.heap.size, 0, none⟩) 0 0) rfl _ _ _ rfl 0 [] HO.out (flat tmC M) HS.out HONE.out (by unfold maxLen; omega) (by omega) ?_; intro v3 w3 ho3 hm3 hb3; rw [Nat.zero_add, List.nil_append] at ho3; obtain ⟨A3, c3, rfl⟩ := own_value ho3; have HO3 := Lib.hid ho3; have HM3 := Lib.hid hm3; have HV3 := Lib.hid hb3; clear ho3 hm3 hb3)
 go_ret
 refine ⟨A3, c3, rfl, HO3.out, fun k e => ?_, ext_mods ((Ext.refl w).alloc _) HM3.out (fun k hk => by simp [ownL, Value.ownBlock] at hk; omega)⟩
 rcases HV3.out with h | h
 ·rw [h] at e
  simp [Value.ownBlock] at e
  omega
 ·rw [h] at e
  simp [World.size_alloc] at e
  omega
set_option maxRecDepth 100000 in
set_option maxHeartbeats 1000000 in
theorem pComp_any (s : ByteArray) (M : List TmP) (A : Option Addr) (c : Nat) (w : World) (D : Nat → Prop) (hs : El.Src w A M.length 4 (flat tmC M)) (hk : ∀ p ∈ M, TmIn D w p.1 p.2.1 p.2.2) (hn : M ≠ []) (hl : M.length ≤ 70000) :
  Calls Tryz.prog 67 #[.string s, .slice A M.length c] w fun e w' => ∃ A' c', e = .returned (.agg #[.int .i64 4, .int .i64 0, .string s, .slice A' M.length c']) ∧ TmIn (fun k => D k ∨ (w.heap.size ≤ k ∧ k < w'.heap.size)) w' (.mk 4 0 s (M.map (·.1))) A' c' ∧ Ext w w' := by
 have q1 : ((M.length : Int) == 0) = false := by
  have : M.length ≠ 0 := fun e => hn (List.eq_nil_of_length_eq_zero e)
  simpa using this
 have hx := (Ext.refl w).alloc (.cells #[.int .i64 0, .int .i64 0, .string ⟨#[]⟩, .slice none 0 0] 32)
 have HC := Lib.hid (sclone_any M A c _ (hs.ext hx) hn hl)
 have HX := Lib.hid hx
 have HZ := Lib.hid (Blk.new w 32 #[.int .i64 0, .int .i64 0, .string ⟨#[]⟩, .slice none 0 0])
 have HK := Lib.hid hk
 clear hs hn hk hx hl
 go_enter Tryz.func67, Tryz.ntmps67
 go_wp2_with (go_at_call 104; refine HC.out.mono ?_; rintro e w3 ⟨A3, c3, rfl, ho, hb, hx3⟩; have HO3 := Lib.hid ho; have HV3 := Lib.hid hb; have HX3 := Lib.hid (HX.out.trans hx3); have HB3 := Lib.hid (HZ.out.ext hx3); have zc := HB3.out.cell; have zf := HB3.out.frozen; clear ho hb hx3)
 have hbf := (((HB3.out.set_ 0 (.int .i64 4)).set_ 1 (.int .i64 0)).set_ 2 (.string s)).set_ 3 (.slice A3 M.length c3)
 have hown : ∀ k, (Value.slice A3 M.length c3).ownBlock = some k → w.heap.size + 1 ≤ k ∧ k < w3.heap.size := fun k e => ⟨by have := HV3.out k e; rw [World.size_alloc] at this; exact this, (HO3.out.lt k e).2⟩
 have hno : (Value.slice A3 M.length c3).ownBlock ≠ some w.heap.size := fun e => by have := (hown _ e).1; omega
 have hO := ownsRow_setCell_other (ownsRow_setCell_other (ownsRow_setCell_other (ownsRow_setCell_other HO3.out (a := ⟨w.heap.size, 0, none⟩) hno (.int .i64 4)) (a := ⟨w.heap.size, 1, none⟩) hno (.int .i64 0)) (a := ⟨w.heap.size, 2, none⟩) hno (.string s)) (a := ⟨w.heap.size, 3, none⟩) hno (.slice A3 M.length c3)
 have hEF := (((HX3.out.setCell (p := ⟨w.heap.size, 0, none⟩) (by simp) (.int .i64 4)).setCell (p := ⟨w.heap.size, 1, none⟩) (by simp) (.int .i64 0)).setCell (p := ⟨w.heap.size, 2, none⟩) (by simp) (.string s)).setCell (p := ⟨w.heap.size, 3, none⟩) (by simp) (.slice A3 M.length c3)
 have hsz : ((((w3.setCell ⟨w.heap.size, 0, none⟩ (.int .i64 4)).setCell ⟨w.heap.size, 1, none⟩ (.int .i64 0)).setCell ⟨w.heap.size, 2, none⟩ (.string s)).setCell ⟨w.heap.size, 3, none⟩ (.slice A3 M.length c3)).heap.size = w3.heap.size := by simp
 generalize (((w3.setCell ⟨w.heap.size, 0, none⟩ (.int .i64 4)).setCell ⟨w.heap.size, 1, none⟩ (.int .i64 0)).setCell ⟨w.heap.size, 2, none⟩ (.string s)).setCell ⟨w.heap.size, 3, none⟩ (.slice A3 M.length c3) = VF at hbf hO hEF hsz ⊢
 have r0 : VF.cell? ⟨w.heap.size, 0, none⟩ = some (.int .i64 4) := hbf.cell 0
 have r1 : VF.cell? ⟨w.heap.size, 1, none⟩ = some (.int .i64 0) := hbf.cell 1
 have r2 : VF.cell? ⟨w.heap.size, 2, none⟩ = some (.string s) := hbf.cell 2
 have r3 : VF.cell? ⟨w.heap.size, 3, none⟩ = some (.slice A3 M.length c3) := hbf.cell 3
 refine bodyPost_ret (v := .agg #[.int .i64 4, .int .i64 0, .string s, .slice A3 M.length c3]) (by simp [results, Tryz.results67, go_sem, r0, r1, r2, r3]) rfl ⟨A3, c3, rfl, ?_, hEF⟩
 refine src_tm (Src.of_own hO) (fun p hp => ((HK.out p hp).ext hEF).mono (fun k hk => .inl hk)) (fun b off e => ?_) (own_cap hO) 4 0 s
 subst e
 have := hown b rfl
 exact .inr ⟨by omega, by omega⟩
end Go.Proofs.YtgcdhffeacdegaaGreatDoor

/- Layer 10, the program: the contract of term; the walk of row. -/
namespace Go.Proofs.YtgcdhffeacdegaaGreatDoor
open Go.RowKit Go.El
def TPost (f : PF) (w : World) (nv : Value) (r0 : List TokV) (x : PR Tm) (e : Ending) (w' : World) : Prop :=
 ∃ t A c nv' r ns bad, e = .returned (.agg #[.int .i64 (Tm.k t), .int .i64 (Tm.n t), .string (Tm.s t), .slice A (Tm.l t).length c]) ∧ resIs x t r ns bad ∧ PaAt f w' r nv' ns bad ∧ PStep f.S nv w nv' w' ∧ TmIn (NewT f.S nv' w w') w' t A c ∧ r.length ≤ r0.length
def PTermC (f : PF) (N : Nat) : Prop := ∀ (r : List TokV) (ns : List ByteArray) (nv : Value) (w : World) (n : Nat) (most : Int), r.length ≤ N → PaAt f w r nv ns false → 5 * r.length + 5 ≤ n →
 Calls Tryz.prog 41 #[.pointer (some ⟨f.pb, 0, none⟩), .int .i64 most] w (TPost f w nv r (termN f.O n most r ns))
structure RowP (f : PF) (w : World) (nv : Value) (W : World) (v : Value) (M : List TmP) : Prop where
 own : W.ownsRow 0 32 4 v M.length (flat tmC M)
 kid : ∀ p ∈ M, TmIn (fun k => NewT f.S nv w W k ∧ v.ownBlock ≠ some k) W p.1 p.2.1 p.2.2
 far : ∀ k, v.ownBlock = some k → NewT f.S nv w W k
theorem RowP.step {f : PF} {w W W' : World} {nv nv' v : Value} {M : List TmP} (h : RowP f w nv W v M) (s : PStep f.S nv W nv' W') : RowP f w nv' W' v M :=
 ⟨own_mods h.own s.mods (fun b hb => (h.far b hb).2.no), fun p hp => TmIn.mods s.mods (fun _ hk => hk.1.2.no) (fun _ hk => ⟨hk.1.step s, hk.2⟩) (h.kid p hp), fun k hk => (h.far k hk).step s⟩
theorem RowP.one {f : PF} {w W : World} {nv : Value} {r : List TokV} {ns : List ByteArray} {bad : Bool} (hp : PaAt f W r nv ns bad) (ho : f.old w.heap.size) (hw : w.heap.size ≤ W.heap.size) {p : TmP} (ht : TmIn (NewT f.S nv w W) W p.1 p.2.1 p.2.2) :
  RowP f w nv (W.alloc (.cells #[.int .i64 (Tm.k p.1), .int .i64 (Tm.n p.1), .string (Tm.s p.1), .slice p.2.1 (Tm.l p.1).length p.2.2] 32)) (.slice (some ⟨W.heap.size, 0, none⟩) 1 1) [p] := by
 have hx := (Ext.refl W).alloc (.cells #[.int .i64 (Tm.k p.1), .int .i64 (Tm.n p.1), .string (Tm.s p.1), .slice p.2.1 (Tm.l p.1).length p.2.2] 32)
 have s := PStep.ext (S := f.S) (nv := nv) hx
 refine ⟨World.ownsRow_lit W #[.int .i64 (Tm.k p.1), .int .i64 (Tm.n p.1), .string (Tm.s p.1), .slice p.2.1 (Tm.l p.1).length p.2.2] 1 (Nat.zero_le _) (by unfold maxLen; omega) rfl, fun q hq => ?_, fun k hk => ?_⟩
 ·simp at hq
  subst hq
  exact TmIn.mods s.mods (fun _ hk => hk.2.no) (fun k hk => ⟨hk.step s, fun e => by simp [Value.ownBlock] at e; have := hk.2.2.2; omega⟩) ht
 ·simp [Value.ownBlock] at hk
  subst hk
  refine ⟨hw, clr2_new (w := W) (fun k hk => ?_) (fun k hk => own_lt hp.own hk) (Nat.le_refl _) (by rw [World.size_alloc]; omega)⟩
  simp [PF.S] at hk
  obtain ⟨h1, h2, _⟩ := ho
  rcases hk with rfl | rfl <;> omega
theorem RowP.push {f : PF} {w W V W' : World} {nv0 nv v v' : Value} {M : List TmP} {p : TmP} {r : List TokV} {ns : List ByteArray} {bad : Bool} (h : RowP f w nv W v M) (hp : PaAt f W r nv ns bad) (ho : f.old w.heap.size) (hs0 : PStep f.S nv0 w nv W) (ht : TmIn (fun k => NewT f.S nv w W k ∧ v.ownBlock ≠ some k) W p.1 p.2.1 p.2.2) (x : Ext W V)
  (hown : W'.ownsRow 0 32 4 v' (M.length + 1) (flat tmC M ++ tmC p)) (hm : Mods (ownL v) V W') (hb : v'.ownBlock = v.ownBlock ∨ v'.ownBlock = some V.heap.size) : RowP f w nv W' v' (M ++ [p]) ∧ PaAt f W' r nv ns bad ∧ PStep f.S nv0 w nv W' := by
 have hw := hs0.mods.size
 have hS : ∀ k ∈ f.S, k < W.heap.size := fun k hk => by
  simp [PF.S] at hk
  obtain ⟨h1, h2, _⟩ := ho
  rcases hk with rfl | rfl <;> omega
 have hN : ∀ k, nv.ownBlock = some k → k < W.heap.size := fun k hk => own_lt hp.own hk
 have hC : ∀ k, Clr2 f.S nv W k → Clr2 f.S nv W' k := fun k hk => ⟨hk.1, hk.2.1, Nat.lt_of_lt_of_le hk.2.2 (Nat.le_trans x.size hm.size)⟩
 have hfar : ∀ k, v'.ownBlock = some k → NewT f.S nv w W' k := fun k hk => by
  rcases hb with e | e
  ·rw [e] at hk
   have := h.far k hk
   exact ⟨this.1, hC k this.2⟩
  ·have hlt := own_lt hown hk
   rw [e] at hk
   injection hk with hk
   subst hk
   exact ⟨Nat.le_trans hw x.size, clr2_new hS hN x.size hlt⟩
 have hD : ∀ k, (NewT f.S nv w W k ∧ v.ownBlock ≠ some k) → (NewT f.S nv w W' k ∧ v'.ownBlock ≠ some k) := fun k hk => by
  refine ⟨⟨hk.1.1, hC k hk.1.2⟩, fun e => ?_⟩
  rcases hb with e2 | e2
  ·exact hk.2 (e2.symm.trans e)
  ·rw [e2] at e
   injection e with e
   have := hk.1.2.2.2
   have := x.size
   omega
 have hX : Mods (ownL v) W W' := (Mods.ext x).trans hm
 have hno : ∀ k, (NewT f.S nv w W k ∧ v.ownBlock ≠ some k) → k ∉ ownL v := fun k hk hm => hk.2 (by simpa [ownL] using hm)
 have hvb : ∀ k ∈ ownL v, w.heap.size ≤ k ∧ Clr2 f.S nv W k := fun k hk => h.far k (by simpa [ownL] using hk)
 obtain ⟨o1, o2, o3, o4, o5⟩ := ho
 refine ⟨⟨by simpa [flat_append, flat] using hown, fun q hq => ?_, hfar⟩, ?_, ?_⟩
 ·rcases List.mem_append.1 hq with hq | hq
  ·exact TmIn.mods hX hno hD (h.kid q hq)
  ·simp at hq
   subst hq
   exact TmIn.mods hX hno hD ht
 ·obtain ⟨m1, m2, ht1, c1, c2, c3⟩ := hp.ops
  obtain ⟨ps, hmp, hps⟩ := hp.map
  have far2 : ∀ k, k < w.heap.size → k ∉ ownL v := fun k hk hm => by have := (hvb k hm).1; omega
  have own2 : ∀ b, nv.ownBlock = some b → b ∉ ownL v := fun b hb hm => (hvb b hm).2.2.1 hb
  obtain ⟨es1, k1, hm1, _⟩ := id ht1.mi
  obtain ⟨es2, k2, hm2, _⟩ := id ht1.mq
  have mno : ∀ m (es : Array MapEntry) (k : Nat), W.heap[m]? = some (.map es k) → m ∉ ownL v := fun m es k hme hmm => by
   have hvo := h.own
   have hbb := mem_ownL hmm
   rcases hvo.2 with ⟨rfl, _⟩ | ⟨g', cap, cur, rfl, _, hc, _⟩
   ·simp [Value.ownBlock] at hbb
   ·have e1 : g' = m := by simpa [Value.ownBlock] using hbb
    subst e1
    rw [hme] at hc
    cases hc
  exact ⟨hp.blk.mods hX (far2 _ o1), own_mods hp.own hX own2, ⟨ps, hmp.mods hX (far2 _ o2), hps⟩, hp.tok.mods hX (fun a ha => far2 _ (o5 a ha)), hp.toks, hp.suf, hp.nil,
   ⟨m1, m2, ht1.mods hX (far2 _ o3) (mno _ _ _ hm1) (mno _ _ _ hm2), hC _ c1, hC _ c2, hC _ c3⟩, hp.bnd, hp.typ.mods hX (far2 _ o4), hC _ hp.typc, fun a ha => hC _ (hp.ca a ha), hp.pm, hp.np, hp.nm, hp.nl, hp.cp⟩
 ·exact ⟨hs0.mods.step hX (fun k hk => .inr (hvb k hk).1), hs0.own⟩
end Go.Proofs.YtgcdhffeacdegaaGreatDoor
