/- WriteAll: clauses that are written one behind the other are read one by one. -/
import Derived.Test.YtgcdhffeacdegaaGreatDoorH38
import Derived.Test.YtgcdhffeacdegaaGreatDoorH47
namespace Go.Proofs.YtgcdhffeacdegaaGreatDoor
open Go.RowKit Go.El Go.ChangeShapes Go.WideShapes Go.ChangeAt Go.Joins Go.ChangeMaps
set_option maxRecDepth 100000 in
theorem writeAll_calls (H : Type) (enc : TypeId × Value → H) (W : World) (base : Nat) (args : Array Value) (ds gs : List (DataW H)) (before : List MemPlace)
  (hval : ∀ (j : Nat) t v, Tryz.f9.params[j]? = some t → args[j]? = some v → Value.okWide Tryz.prog W .any base t v)
  (hW : DataW.Whole enc Tryz.prog Tryz.f9.params.toList Rows.writeAllSpec.vars false W args.toList ds gs before) (g : EnvW W) :
  Calls Tryz.prog 9 args W fun e W' => e = .returned (.bool true) ∧ Ext W W' ∧ Rows.writeAllSpec.fn H (ds ++ gs) = { results := [.lit (.bool true)], args := ds } := by
 obtain ⟨p, q, hA0, hV, rfl, hfz, hnd⟩ := hW
 have hA : DataW.TrodAll enc Tryz.prog W 0 (fun _ => true) true Tryz.f9.params.toList args.toList ds p := hA0
 rw [Tryz.params9] at hA hval
 obtain ⟨v0, vs0, d0, ds0, p0, q0, hargs, rfl, rfl, h0, r0⟩ := trodAll_cons hA
 obtain ⟨v1, vs1, d1, ds1, p1, q1, rfl, rfl, rfl, h1, r1⟩ := trodAll_cons r0
 obtain ⟨rfl, rfl, rfl⟩ := trodAll_nil r1
 obtain rfl : args = #[v0, v1] := Array.ext' hargs
 obtain ⟨rfl, rfl⟩ := trodVars_none hV
 obtain ⟨A0, L, c0, rfl, hl, hn, hLn⟩ := open_ops opType Tryz.underlying22 (hval 0 22 v0 rfl rfl) h0
 unfold maxLen at hn hLn
 obtain ⟨A, l, c, rfl, ht, hf, hl1⟩ := open_tms tmType (hval 1 30 v1 rfl rfl) h1
 unfold maxLen at hl1
 exact (writeAll_any L A0 c0 l A c W _ hl (by omega) (fun o ho => by have := hn o ho; omega) ht hf (by omega) g.e g.g).mono fun e W' ⟨he, hx⟩ => ⟨he, hx, rfl⟩
set_option maxRecDepth 100000 in
theorem writeAll_row (H : Type) (enc : TypeId × Value → H) (W : World) (base : Nat) (args : Array Value) (ds gs : List (DataW H)) (before : List MemPlace)
  (hval : ∀ (j : Nat) t v, Tryz.f9.params[j]? = some t → args[j]? = some v → Value.okWide Tryz.prog W .any base t v)
  (hW : DataW.Whole enc Tryz.prog Tryz.f9.params.toList Rows.writeAllSpec.vars false W args.toList ds gs before) (hL : laidMetH Tryz.prog Rows.writeAllRow.laid W) (hS : W.ShapedOpen Tryz.prog) :
  Calls Tryz.prog 9 args W fun e W' => ∃ v, e = .returned v ∧ Rows.writeAllSpec.post enc Tryz.prog Tryz.f9 false true false false W args v W' := by
 have hlaid : Rows.writeAllRow.laid = laidL := rfl
 rw [hlaid] at hL
 refine (writeAll_calls H enc W base args ds gs before hval hW (envw_of_laid hL hS)).mono fun e W' ⟨he, hx, hs⟩ => ?_
 subst he
 exact ⟨_, rfl, post_law (tb := 4) laidOut (by kernel_rfl) rfl (by kernel_rfl) Tryz.underlying4 hW hs hx⟩
theorem writeAll_reads (os : Os) {H : Type} (enc : TypeId × Value → H) : ∃ places, DataW.whole enc Tryz.prog ((laidWorld os).forCall (fun _ _ => 0) ⟨#[], #[.slice none 0 0, .slice none 0 0], []⟩).memory Tryz.f9.params.toList Rows.writeAllSpec.vars false (#[.slice none 0 0, .slice none 0 0] : Array Value).toList 8 = some ([.nil, .nil], [], places) :=
 ⟨[], by kernel_rfl⟩
set_option maxRecDepth 100000 in
theorem writeAll_start (os : Os) {H : Type} (enc : TypeId × Value → H) : ∃ (w : World) (tape : Tape) (i : Input), w.os = os ∧ (w.forCall tape i).Shaped Tryz.prog ∧ i.vars = [] ∧ Input.okWide Tryz.prog (w.forCall tape i) .any w.heap.size 9 i ∧
   (OpenSpec.ofChange Rows.writeAllSpec).preRow enc Tryz.prog Tryz.f9 Rows.writeAllRow.domain false Rows.writeAllRow.laid (w.forCall tape i).memory i.args ∧ ({} : Assume).holds Tryz.prog (lone (Frame.enter Tryz.prog 9 i.args .normal) [] (w.forCall tape i)) := by
 obtain ⟨places, hx⟩ := writeAll_reads os enc
 refine ⟨laidWorld os, fun _ _ => 0, ⟨#[], #[.slice none 0 0, .slice none 0 0], []⟩, World.laidAll_os _ _ _, World.shaped_of_ZipB (by kernel_rfl) (by kernel_rfl), rfl, ?_, ?_, ?_⟩
 ·have hok : Input.okWideB Tryz.prog ((laidWorld os).forCall (fun _ _ => 0) ⟨#[], #[.slice none 0 0, .slice none 0 0], []⟩) 9 ⟨#[], #[.slice none 0 0, .slice none 0 0], []⟩ = true := by kernel_rfl
  exact (Input.okWide_of_okWideB hok).2
 ·exact OpenSpec.preRow_of_cond 8 hx (by kernel_rfl) (fun k hk => by cases hk) (by kernel_rfl) (laid_met os _)
 ·simp only [Assume.holds]
  exact ⟨by simp, by simp, (fun h => by cases h), by simp, by simp⟩
set_option maxRecDepth 100000 in
theorem writeAll_lifted (os : Os) (started : os.Started) (H : Type) (enc : TypeId × Value → H) (F : Stop.Interp) :
  ReturnsInHanded {} Tryz.checked os 9 .any ((OpenSpec.ofChange Rows.writeAllSpec).preRow enc Tryz.prog Tryz.f9 Rows.writeAllRow.domain false Rows.writeAllRow.laid) (((OpenSpec.ofChange Rows.writeAllSpec).at F).post enc Tryz.prog Tryz.f9 false true false false) := by
 refine returnsInHanded_of_row (C := Tryz.checked) (s := OpenSpec.ofChange Rows.writeAllSpec) own started (by kernel_rfl) Tryz.func9 (writeAll_start os enc) ?_
 intro W base args ds gs before hval hW _ _ _ hL hS _
 exact writeAll_row H enc W base args ds gs before hval hW hL hS
theorem writeAll_said : Rows.WriteAllSaid :=
 OpenClaim.holds_of_cond 9 Tryz.f9 rfl rfl rfl rfl rfl rfl rfl ⟨rfl, rfl, rfl, rfl, rfl⟩ rfl rfl rfl rfl rfl (by kernel_rfl) Tryz.func9 (by kernel_rfl)
  (of_decide_eq_true (by kernel_rfl)) (by unfold Func.isWrapper; first | (rw [if_pos (by decide +kernel)]; kernel_rfl) | (rw [if_neg (by decide +kernel)]; exact ⟨rfl, rfl⟩))
  (fun os started H enc _ F => by rw [OpenClaim.pre_eq_preRow]; exact writeAll_lifted os started H enc F)
theorem writeAll_plain (f : FuncId) (fn : Func) (hf : Tryz.pinned.checked.prog.funcNamed Rows.writeAllRow.func = some f) (hfn : Tryz.pinned.checked.prog.funcs[f]? = some fn) :
  true = Tryz.pinned.checked.prog.looks [] ∧ ∀ (j : Nat) t, fn.params[j]? = some t → Tryz.pinned.checked.prog.wantsStandIn t = false := by
 obtain rfl : f = 9 := Option.some.inj ((show Tryz.prog.funcNamed Rows.writeAllRow.func = some 9 by kernel_rfl).symm.trans hf) |>.symm
 obtain rfl : fn = Tryz.f9 := (Option.some.inj (Tryz.func9.symm.trans hfn)).symm
 refine ⟨by kernel_rfl, fun j t ht => ?_⟩
 have hall : (Tryz.f9.params.toList.all fun t => !Tryz.prog.wantsStandIn t) = true := by kernel_rfl
 have hm := List.all_eq_true.1 hall t (by simpa using Array.mem_of_getElem? ht)
 have hw : Tryz.prog.wantsStandIn t = false := by simpa using hm
 exact hw
theorem writeAll_card : Rows.WriteAllCardSaid :=
 Claim7.holds_tied_plain_at .later [] _ _ _ _ writeAll_said (fun _ h => by cases h) (by kernel_rfl) (fun _ h => by cases h) writeAll_row_tie rfl ⟨rfl, rfl⟩ (by kernel_rfl) rfl writeAll_plain (by kernel_rfl)
end Go.Proofs.YtgcdhffeacdegaaGreatDoor
