/- WriteBindings: any names and terms as an answer. -/
import Derived.Test.YtnedihbffiddpaaGreatDoorW42
import Derived.Test.YtnedihbffiddpaaGreatDoorN1
namespace Go.Proofs.YtnedihbffiddpaaGreatDoor
open Go.RowKit Go.El Go.ChangeShapes Go.WideShapes Go.ChangeAt Go.Joins Go.ChangeMaps

set_option maxRecDepth 100000 in
theorem writeBindings_calls (H : Type) (enc : TypeId × Value → H) (W : World) (base : Nat) (args : Array Value) (ds gs : List (DataW H)) (before : List MemPlace)
    (hval : ∀ (j : Nat) t v, Tryz.f3.params[j]? = some t → args[j]? = some v → Value.okWide Tryz.prog W .any base t v)
    (hW : DataW.Whole enc Tryz.prog Tryz.f3.params.toList Rows.writeBindingsSpec.vars false W args.toList ds gs before) (g : Env W) :
    Calls Tryz.prog 3 args W fun e W' => e = .returned (.bool true) ∧ Ext W W' ∧ Rows.writeBindingsSpec.fn H (ds ++ gs) = { results := [.lit (.bool true)], args := ds } := by
  obtain ⟨p, q, hA0, hV, rfl, hfz, hnd⟩ := hW
  have hA : DataW.TrodAll enc Tryz.prog W 0 (fun _ => true) true Tryz.f3.params.toList args.toList ds p := hA0
  rw [Tryz.params3] at hA hval
  obtain ⟨v0, vs0, d0, ds0, p0, q0, hargs, rfl, rfl, h0, r0⟩ := trodAll_cons hA
  obtain ⟨v1, vs1, d1, ds1, p1, q1, rfl, rfl, rfl, h1, r1⟩ := trodAll_cons r0
  obtain ⟨rfl, rfl, rfl⟩ := trodAll_nil r1
  obtain rfl : args = #[v0, v1] := Array.ext' hargs
  obtain ⟨rfl, rfl⟩ := trodVars_none hV
  obtain ⟨B, ns, d, rfl, hn, hns, hnl⟩ := open_names Tryz.underlying22 Tryz.underlying9 (by kernel_rfl) (hval 0 22 v0 rfl rfl) h0
  obtain ⟨A, l, c, rfl, ht, hf, hl⟩ := open_tms tmType (hval 1 23 v1 rfl rfl) h1
  unfold maxLen at hns hnl hl
  exact (writeBindings_any ns l B A d c W _ hn (by omega) (fun s hs => by have := hns s hs; omega) ht hf (by omega) g).mono fun e W' ⟨he, hx⟩ => ⟨he, hx, rfl⟩

set_option maxRecDepth 100000 in
/-- What is claimed of one call: it returns true; nothing that was there has turned. -/
theorem writeBindings_row (H : Type) (enc : TypeId × Value → H) (W : World) (base : Nat) (args : Array Value) (ds gs : List (DataW H)) (before : List MemPlace)
    (hval : ∀ (j : Nat) t v, Tryz.f3.params[j]? = some t → args[j]? = some v → Value.okWide Tryz.prog W .any base t v)
    (hW : DataW.Whole enc Tryz.prog Tryz.f3.params.toList Rows.writeBindingsSpec.vars false W args.toList ds gs before) (hL : laidMetH Tryz.prog Rows.writeBindingsRow.laid W) :
    Calls Tryz.prog 3 args W fun e W' => ∃ v, e = .returned v ∧ Rows.writeBindingsSpec.post enc Tryz.prog Tryz.f3 false true false false W args v W' := by
  have hlaid : Rows.writeBindingsRow.laid = laidL := rfl
  rw [hlaid] at hL
  refine (writeBindings_calls H enc W base args ds gs before hval hW (env_of_laid hL)).mono fun e W' ⟨he, hx, hs⟩ => ?_
  subst he
  exact ⟨_, rfl, post_law (tb := 4) laidOut (by kernel_rfl) rfl (by kernel_rfl) Tryz.underlying4 hW hs hx⟩

theorem writeBindings_reads (os : Os) {H : Type} (enc : TypeId × Value → H) : ∃ places, DataW.whole enc Tryz.prog ((laidWorld os).forCall (fun _ _ => 0) ⟨#[], #[.slice none 0 0, .slice none 0 0], []⟩).memory Tryz.f3.params.toList Rows.writeBindingsSpec.vars false (#[.slice none 0 0, .slice none 0 0] : Array Value).toList 8 = some ([.nil, .nil], [], places) :=
  ⟨[], by kernel_rfl⟩

set_option maxRecDepth 100000 in
theorem writeBindings_start (os : Os) {H : Type} (enc : TypeId × Value → H) : ∃ (w : World) (tape : Tape) (i : Input), w.os = os ∧ (w.forCall tape i).Shaped Tryz.prog ∧ i.vars = [] ∧ Input.okWide Tryz.prog (w.forCall tape i) .any w.heap.size 3 i ∧
      (OpenSpec.ofChange Rows.writeBindingsSpec).preRow enc Tryz.prog Tryz.f3 Rows.writeBindingsRow.domain false Rows.writeBindingsRow.laid (w.forCall tape i).memory i.args ∧ ({} : Assume).holds Tryz.prog (lone (Frame.enter Tryz.prog 3 i.args .normal) [] (w.forCall tape i)) := by
  obtain ⟨places, hx⟩ := writeBindings_reads os enc
  refine ⟨laidWorld os, fun _ _ => 0, ⟨#[], #[.slice none 0 0, .slice none 0 0], []⟩, World.laidAll_os _ _ _, World.shaped_of_ZipB (by kernel_rfl) (by kernel_rfl), rfl, ?_, ?_, ?_⟩
  · have hok : Input.okWideB Tryz.prog ((laidWorld os).forCall (fun _ _ => 0) ⟨#[], #[.slice none 0 0, .slice none 0 0], []⟩) 3 ⟨#[], #[.slice none 0 0, .slice none 0 0], []⟩ = true := by kernel_rfl
    exact (Input.okWide_of_okWideB hok).2
  · exact OpenSpec.preRow_of_cond 8 hx (by kernel_rfl) (fun k hk => by cases hk) (by kernel_rfl) (laid_met os _)
  · simp only [Assume.holds]
    exact ⟨by simp, by simp, (fun h => by cases h), by simp, by simp⟩

set_option maxRecDepth 100000 in
theorem writeBindings_lifted (os : Os) (started : os.Started) (H : Type) (enc : TypeId × Value → H) (F : Stop.Interp) :
    ReturnsInHanded {} Tryz.checked os 3 .any ((OpenSpec.ofChange Rows.writeBindingsSpec).preRow enc Tryz.prog Tryz.f3 Rows.writeBindingsRow.domain false Rows.writeBindingsRow.laid) (((OpenSpec.ofChange Rows.writeBindingsSpec).at F).post enc Tryz.prog Tryz.f3 false true false false) := by
  refine returnsInHanded_of_row (C := Tryz.checked) (s := OpenSpec.ofChange Rows.writeBindingsSpec) own started (by kernel_rfl) Tryz.func3 (writeBindings_start os enc) ?_
  intro W base args ds gs before hval hW _ _ _ hL _ _
  exact writeBindings_row H enc W base args ds gs before hval hW hL

theorem writeBindings_said : Rows.WriteBindingsSaid :=
  OpenClaim.holds_of_cond 3 Tryz.f3 rfl rfl rfl rfl rfl rfl rfl ⟨rfl, rfl, rfl, rfl, rfl⟩ rfl rfl rfl rfl rfl (by kernel_rfl) Tryz.func3 (by kernel_rfl)
    (of_decide_eq_true (by kernel_rfl)) (by unfold Func.isWrapper; first | (rw [if_pos (by decide +kernel)]; kernel_rfl) | (rw [if_neg (by decide +kernel)]; exact ⟨rfl, rfl⟩))
    (fun os started H enc _ F => by rw [OpenClaim.pre_eq_preRow]; exact writeBindings_lifted os started H enc F)

theorem writeBindings_plain (f : FuncId) (fn : Func) (hf : Tryz.pinned.checked.prog.funcNamed Rows.writeBindingsRow.func = some f) (hfn : Tryz.pinned.checked.prog.funcs[f]? = some fn) :
    false = Tryz.pinned.checked.prog.looks [] ∧ ∀ (j : Nat) t, fn.params[j]? = some t → Tryz.pinned.checked.prog.wantsStandIn t = false := by
  obtain rfl : f = 3 := Option.some.inj ((show Tryz.prog.funcNamed Rows.writeBindingsRow.func = some 3 by kernel_rfl).symm.trans hf) |>.symm
  obtain rfl : fn = Tryz.f3 := (Option.some.inj (Tryz.func3.symm.trans hfn)).symm
  refine ⟨by kernel_rfl, fun j t ht => ?_⟩
  have hall : (Tryz.f3.params.toList.all fun t => !Tryz.prog.wantsStandIn t) = true := by kernel_rfl
  have hm := List.all_eq_true.1 hall t (by simpa using Array.mem_of_getElem? ht)
  have hw : Tryz.prog.wantsStandIn t = false := by simpa using hm
  exact hw

/-- The card: WriteBindings. -/
theorem writeBindings_card : Rows.WriteBindingsCardSaid :=
  Claim7.holds_tied_plain_at .later [] _ _ _ _ writeBindings_said (fun _ h => by cases h) (by kernel_rfl) (fun _ h => by cases h) writeBindings_row_tie rfl ⟨rfl, rfl⟩ (by kernel_rfl) rfl writeBindings_plain (by kernel_rfl)

end Go.Proofs.YtnedihbffiddpaaGreatDoor
