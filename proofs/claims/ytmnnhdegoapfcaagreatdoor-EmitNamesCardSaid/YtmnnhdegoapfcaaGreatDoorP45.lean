/- EmitNames: code does not hang on which numbers variables have. -/
import Derived.Test.YtmnnhdegoapfcaaGreatDoorP07
import Derived.Test.YtmnnhdegoapfcaaGreatDoorP27
import Derived.Test.YtmnnhdegoapfcaaGreatDoorP44
namespace Go.Proofs.YtmnnhdegoapfcaaGreatDoor
open Go.RowKit Go.El Go.ChangeShapes Go.WideShapes Go.ChangeAt Go.Joins Go.ChangeMaps
set_option maxRecDepth 100000 in
theorem emitNames_calls (H : Type) (enc : TypeId × Value → H) (W : World) (base : Nat) (args : Array Value) (ds gs : List (DataW H)) (before : List MemPlace)
  (hval : ∀ (j : Nat) t v, Tryz.f5.params[j]? = some t → args[j]? = some v → Value.okWide Tryz.prog W .any base t v)
  (hW : DataW.Whole enc Tryz.prog Tryz.f5.params.toList Rows.emitNamesSpec.vars false W args.toList ds gs before) (g : EnvT W) :
  Calls Tryz.prog 5 args W fun e W' => e = .returned (.bool true) ∧ Ext W W' ∧ Rows.emitNamesSpec.fn H (ds ++ gs) = { results := [.lit (.bool true)], args := ds } := by
 obtain ⟨p, q, hA0, hV, rfl, hfz, hnd⟩ := hW
 have hA : DataW.TrodAll enc Tryz.prog W 0 (fun _ => true) true Tryz.f5.params.toList args.toList ds p := hA0
 rw [Tryz.params5] at hA hval
 obtain ⟨v0, vs0, d0, ds0, p0, q0, hargs, rfl, rfl, h0, r0⟩ := trodAll_cons hA
 obtain ⟨v1, vs1, d1, ds1, p1, q1, rfl, rfl, rfl, h1, r1⟩ := trodAll_cons r0
 obtain ⟨rfl, rfl, rfl⟩ := trodAll_nil r1
 obtain rfl : args = #[v0, v1] := Array.ext' hargs
 obtain ⟨rfl, rfl⟩ := trodVars_none hV
 obtain ⟨t, A, c, rfl, ht, hft⟩ := open_tm tmType (hval 0 30 v0 rfl rfl) h0
 obtain ⟨n1, rfl, _, _, _⟩ := open_int Tryz.underlying3 (hval 1 3 v1 rfl rfl) h1
 exact (emitNames_any fromC_any t n1 A c W _ ht hft g).mono fun e W' ⟨he, hx⟩ => ⟨he, hx, rfl⟩
set_option maxRecDepth 100000 in
theorem emitNames_row (H : Type) (enc : TypeId × Value → H) (W : World) (base : Nat) (args : Array Value) (ds gs : List (DataW H)) (before : List MemPlace)
  (hval : ∀ (j : Nat) t v, Tryz.f5.params[j]? = some t → args[j]? = some v → Value.okWide Tryz.prog W .any base t v)
  (hW : DataW.Whole enc Tryz.prog Tryz.f5.params.toList Rows.emitNamesSpec.vars false W args.toList ds gs before) (hL : laidMetH Tryz.prog Rows.emitNamesRow.laid W) (hS : W.ShapedOpen Tryz.prog) :
  Calls Tryz.prog 5 args W fun e W' => ∃ v, e = .returned v ∧ Rows.emitNamesSpec.post enc Tryz.prog Tryz.f5 false true false false W args v W' := by
 have hlaid : Rows.emitNamesRow.laid = laidL := rfl
 rw [hlaid] at hL
 refine (emitNames_calls H enc W base args ds gs before hval hW (env_of_laid hL hS)).mono fun e W' ⟨he, hx, hs⟩ => ?_
 subst he
 exact ⟨_, rfl, post_law (tb := 4) laidOut (by kernel_rfl) rfl (by kernel_rfl) Tryz.underlying4 hW hs hx⟩
theorem emitNames_reads (os : Os) {H : Type} (enc : TypeId × Value → H) : ∃ places, DataW.whole enc Tryz.prog ((laidWorld os).forCall (fun _ _ => 0) ⟨#[], #[.agg #[.int .i64 0, .int .i64 0, .string ⟨#[]⟩, .slice none 0 0], .int .i64 0], []⟩).memory Tryz.f5.params.toList Rows.emitNamesSpec.vars false (#[.agg #[.int .i64 0, .int .i64 0, .string ⟨#[]⟩, .slice none 0 0], .int .i64 0] : Array Value).toList 8 = some ([.agg [.lit (.int .i64 0), .lit (.int .i64 0), .lit (.string []), .nil], .lit (.int .i64 0)], [], places) :=
 ⟨[], by kernel_rfl⟩
set_option maxRecDepth 100000 in
theorem emitNames_start (os : Os) {H : Type} (enc : TypeId × Value → H) : ∃ (w : World) (tape : Tape) (i : Input), w.os = os ∧ (w.forCall tape i).Shaped Tryz.prog ∧ i.vars = [] ∧ Input.okWide Tryz.prog (w.forCall tape i) .any w.heap.size 5 i ∧
   (OpenSpec.ofChange Rows.emitNamesSpec).preRow enc Tryz.prog Tryz.f5 Rows.emitNamesRow.domain false Rows.emitNamesRow.laid (w.forCall tape i).memory i.args ∧ ({} : Assume).holds Tryz.prog (lone (Frame.enter Tryz.prog 5 i.args .normal) [] (w.forCall tape i)) := by
 obtain ⟨places, hx⟩ := emitNames_reads os enc
 refine ⟨laidWorld os, fun _ _ => 0, ⟨#[], #[.agg #[.int .i64 0, .int .i64 0, .string ⟨#[]⟩, .slice none 0 0], .int .i64 0], []⟩, World.laidAll_os _ _ _, World.shaped_of_ZipB (by kernel_rfl) (by kernel_rfl), rfl, ?_, ?_, ?_⟩
 ·have hok : Input.okWideB Tryz.prog ((laidWorld os).forCall (fun _ _ => 0) ⟨#[], #[.agg #[.int .i64 0, .int .i64 0, .string ⟨#[]⟩, .slice none 0 0], .int .i64 0], []⟩) 5 ⟨#[], #[.agg #[.int .i64 0, .int .i64 0, .string ⟨#[]⟩, .slice none 0 0], .int .i64 0], []⟩ = true := by kernel_rfl
  exact (Input.okWide_of_okWideB hok).2
 ·exact OpenSpec.preRow_of_cond 8 hx (by kernel_rfl) (fun k hk => by cases hk) (by kernel_rfl) (laid_met os _)
 ·simp only [Assume.holds]
  exact ⟨by simp, by simp, (fun h => by cases h), by simp, by simp⟩
set_option maxRecDepth 100000 in
theorem emitNames_lifted (os : Os) (started : os.Started) (H : Type) (enc : TypeId × Value → H) (F : Stop.Interp) :
  ReturnsInHanded {} Tryz.checked os 5 .any ((OpenSpec.ofChange Rows.emitNamesSpec).preRow enc Tryz.prog Tryz.f5 Rows.emitNamesRow.domain false Rows.emitNamesRow.laid) (((OpenSpec.ofChange Rows.emitNamesSpec).at F).post enc Tryz.prog Tryz.f5 false true false false) := by
 refine returnsInHanded_of_row (C := Tryz.checked) (s := OpenSpec.ofChange Rows.emitNamesSpec) own started (by kernel_rfl) Tryz.func5 (emitNames_start os enc) ?_
 intro W base args ds gs before hval hW _ _ _ hL hS _
 exact emitNames_row H enc W base args ds gs before hval hW hL hS
theorem emitNames_said : Rows.EmitNamesSaid :=
 OpenClaim.holds_of_cond 5 Tryz.f5 rfl rfl rfl rfl rfl rfl rfl ⟨rfl, rfl, rfl, rfl, rfl⟩ rfl rfl rfl rfl rfl (by kernel_rfl) Tryz.func5 (by kernel_rfl)
  (of_decide_eq_true (by kernel_rfl)) (by unfold Func.isWrapper; first | (rw [if_pos (by decide +kernel)]; kernel_rfl) | (rw [if_neg (by decide +kernel)]; exact ⟨rfl, rfl⟩))
  (fun os started H enc _ F => by rw [OpenClaim.pre_eq_preRow]; exact emitNames_lifted os started H enc F)
theorem emitNames_plain (f : FuncId) (fn : Func) (hf : Tryz.pinned.checked.prog.funcNamed Rows.emitNamesRow.func = some f) (hfn : Tryz.pinned.checked.prog.funcs[f]? = some fn) :
  true = Tryz.pinned.checked.prog.looks [] ∧ ∀ (j : Nat) t, fn.params[j]? = some t → Tryz.pinned.checked.prog.wantsStandIn t = false := by
 obtain rfl : f = 5 := Option.some.inj ((show Tryz.prog.funcNamed Rows.emitNamesRow.func = some 5 by kernel_rfl).symm.trans hf) |>.symm
 obtain rfl : fn = Tryz.f5 := (Option.some.inj (Tryz.func5.symm.trans hfn)).symm
 refine ⟨by kernel_rfl, fun j t ht => ?_⟩
 have hall : (Tryz.f5.params.toList.all fun t => !Tryz.prog.wantsStandIn t) = true := by kernel_rfl
 have hm := List.all_eq_true.1 hall t (by simpa using Array.mem_of_getElem? ht)
 have hw : Tryz.prog.wantsStandIn t = false := by simpa using hm
 exact hw
theorem emitNames_card : Rows.EmitNamesCardSaid :=
 Claim7.holds_tied_plain_at .later [] _ _ _ _ emitNames_said (fun _ h => by cases h) (by kernel_rfl) (fun _ h => by cases h) emitNames_row_tie rfl ⟨rfl, rfl⟩ (by kernel_rfl) rfl emitNames_plain (by kernel_rfl)
end Go.Proofs.YtmnnhdegoapfcaaGreatDoor
