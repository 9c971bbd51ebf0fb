/- MachineNobody: a nil machine. -/
import Derived.Test.YtkenjhchfidpbaaGreatDoorC26
import Derived.Test.YtkenjhchfidpbaaGreatDoorC32
import Derived.Test.YtkenjhchfidpbaaGreatDoorC42
namespace Go.Proofs.YtkenjhchfidpbaaGreatDoor
open Go.RowKit Go.El Go.ChangeShapes Go.WideShapes Go.ChangeAt Go.Joins Go.ChangeMaps

theorem tmType : TmType Tryz.prog 24 22 3 9 := ⟨⟨_, _, _, _, Tryz.underlying24, rfl, rfl, rfl, rfl, rfl, rfl, rfl, rfl⟩, Tryz.underlying3, Tryz.underlying9, Tryz.underlying22, by kernel_rfl, by kernel_rfl, by kernel_rfl, by kernel_rfl⟩
theorem clType : ClType Tryz.prog 27 53 25 24 3 := ⟨⟨_, _, Tryz.underlying53, rfl, rfl, rfl, rfl⟩, ⟨_, _, _, Tryz.underlying27, rfl, rfl, rfl, rfl, rfl, rfl⟩, Tryz.underlying25, by kernel_rfl, by kernel_rfl, by kernel_rfl⟩

set_option maxRecDepth 100000 in
theorem machineNobody_calls (H : Type) (enc : TypeId × Value → H) (W : World) (base : Nat) (args : Array Value) (ds gs : List (DataW H)) (before : List MemPlace)
    (hval : ∀ (j : Nat) t v, Tryz.f3.params[j]? = some t → args[j]? = some v → Value.okWide Tryz.prog W .any base t v)
    (hW : DataW.Whole enc Tryz.prog Tryz.f3.params.toList Rows.machineNobodySpec.vars false W args.toList ds gs before) (g : Ev.Lain W arrs) :
    Calls Tryz.prog 3 args W fun e W' => e = .returned (.bool true) ∧ Ext W W' ∧ Rows.machineNobodySpec.fn H (ds ++ gs) = { results := [.lit (.bool true)], args := ds } := by
  obtain ⟨p, q, hA0, hV, rfl, hfz, hnd⟩ := hW
  have hA : DataW.TrodAll enc Tryz.prog W 0 (fun _ => true) true Tryz.f3.params.toList args.toList ds p := hA0
  rw [Tryz.params3] at hA hval
  obtain ⟨v0, vs0, d0, ds0, p0, q0, hargs, rfl, rfl, h0, r0⟩ := trodAll_cons hA
  obtain ⟨v1, vs1, d1, ds1, p1, q1, rfl, rfl, rfl, h1, r1⟩ := trodAll_cons r0
  obtain ⟨rfl, rfl, rfl⟩ := trodAll_nil r1
  obtain rfl : args = #[v0, v1] := Array.ext' hargs
  obtain ⟨rfl, rfl⟩ := trodVars_none hV
  obtain ⟨p, B, G, cb, n, rfl, hp, hG, hS, hm⟩ := open_cl tmType clType (hval 0 27 v0 rfl rfl) h0
  unfold maxLen at hm
  obtain ⟨n1, rfl, _, _, _⟩ := open_int Tryz.underlying3 (hval 1 3 v1 rfl rfl) h1
  exact (machineNobody_any p B G cb n n1 W hp hG hS (by omega) (fun W x => lives_any W (lain_ext g x))).mono fun e W' ⟨he, hx⟩ => ⟨he, hx, rfl⟩

set_option maxRecDepth 100000 in
/-- What is claimed of one call: it returns true; nothing that was there has turned. -/
theorem machineNobody_row (H : Type) (enc : TypeId × Value → H) (W : World) (base : Nat) (args : Array Value) (ds gs : List (DataW H)) (before : List MemPlace)
    (hval : ∀ (j : Nat) t v, Tryz.f3.params[j]? = some t → args[j]? = some v → Value.okWide Tryz.prog W .any base t v)
    (hW : DataW.Whole enc Tryz.prog Tryz.f3.params.toList Rows.machineNobodySpec.vars false W args.toList ds gs before) (hL : laidMetH Tryz.prog Rows.machineNobodyRow.laid W) (hS : W.ShapedOpen Tryz.prog) :
    Calls Tryz.prog 3 args W fun e W' => ∃ v, e = .returned v ∧ Rows.machineNobodySpec.post enc Tryz.prog Tryz.f3 false true false false W args v W' := by
  have hlaid : Rows.machineNobodyRow.laid = laidL := rfl
  rw [hlaid] at hL
  refine (machineNobody_calls H enc W base args ds gs before hval hW (lain_of_laid hL hS)).mono fun e W' ⟨he, hx, hs⟩ => ?_
  subst he
  exact ⟨_, rfl, post_law (tb := 4) f_laid (by kernel_rfl) rfl (by kernel_rfl) Tryz.underlying4 hW hs hx⟩

theorem machineNobody_reads (os : Os) {H : Type} (enc : TypeId × Value → H) : ∃ places, DataW.whole enc Tryz.prog ((laidWorld os).forCall (fun _ _ => 0) ⟨#[], #[.agg #[.int .i64 0, .int .i64 0, .string ⟨#[]⟩, .slice none 0 0, .slice none 0 0, .int .i64 0], .int .i64 0], []⟩).memory Tryz.f3.params.toList Rows.machineNobodySpec.vars false (#[.agg #[.int .i64 0, .int .i64 0, .string ⟨#[]⟩, .slice none 0 0, .slice none 0 0, .int .i64 0], .int .i64 0] : Array Value).toList 8 = some ([.agg [.agg [.lit (.int .i64 0), .lit (.int .i64 0), .lit (.string []), .nil], .nil, .lit (.int .i64 0)], .lit (.int .i64 0)], [], places) :=
  ⟨[], by kernel_rfl⟩

set_option maxRecDepth 100000 in
theorem machineNobody_start (os : Os) {H : Type} (enc : TypeId × Value → H) : ∃ (w : World) (tape : Tape) (i : Input), w.os = os ∧ (w.forCall tape i).Shaped Tryz.prog ∧ i.vars = [] ∧ Input.okWide Tryz.prog (w.forCall tape i) .any w.heap.size 3 i ∧
      (OpenSpec.ofChange Rows.machineNobodySpec).preRow enc Tryz.prog Tryz.f3 Rows.machineNobodyRow.domain false Rows.machineNobodyRow.laid (w.forCall tape i).memory i.args ∧ ({} : Assume).holds Tryz.prog (lone (Frame.enter Tryz.prog 3 i.args .normal) [] (w.forCall tape i)) := by
  obtain ⟨places, hx⟩ := machineNobody_reads os enc
  refine ⟨laidWorld os, fun _ _ => 0, ⟨#[], #[.agg #[.int .i64 0, .int .i64 0, .string ⟨#[]⟩, .slice none 0 0, .slice none 0 0, .int .i64 0], .int .i64 0], []⟩, World.laidAll_os _ _ _, World.shaped_of_ZipB (by kernel_rfl) (by kernel_rfl), rfl, ?_, ?_, ?_⟩
  · have hok : Input.okWideB Tryz.prog ((laidWorld os).forCall (fun _ _ => 0) ⟨#[], #[.agg #[.int .i64 0, .int .i64 0, .string ⟨#[]⟩, .slice none 0 0, .slice none 0 0, .int .i64 0], .int .i64 0], []⟩) 3 ⟨#[], #[.agg #[.int .i64 0, .int .i64 0, .string ⟨#[]⟩, .slice none 0 0, .slice none 0 0, .int .i64 0], .int .i64 0], []⟩ = true := by kernel_rfl
    exact (Input.okWide_of_okWideB hok).2
  · exact OpenSpec.preRow_of_cond 8 hx (by kernel_rfl) (fun k hk => by cases hk) (by kernel_rfl) (laid_met os _)
  · simp only [Assume.holds]
    exact ⟨by simp, by simp, (fun h => by cases h), by simp, by simp⟩

set_option maxRecDepth 100000 in
theorem machineNobody_lifted (os : Os) (started : os.Started) (H : Type) (enc : TypeId × Value → H) (F : Stop.Interp) :
    ReturnsInHanded {} Tryz.checked os 3 .any ((OpenSpec.ofChange Rows.machineNobodySpec).preRow enc Tryz.prog Tryz.f3 Rows.machineNobodyRow.domain false Rows.machineNobodyRow.laid) (((OpenSpec.ofChange Rows.machineNobodySpec).at F).post enc Tryz.prog Tryz.f3 false true false false) := by
  refine returnsInHanded_of_row (C := Tryz.checked) (s := OpenSpec.ofChange Rows.machineNobodySpec) own started (by kernel_rfl) Tryz.func3 (machineNobody_start os enc) ?_
  intro W base args ds gs before hval hW _ _ _ hL hS _
  exact machineNobody_row H enc W base args ds gs before hval hW hL hS

theorem machineNobody_said : Rows.MachineNobodySaid :=
  OpenClaim.holds_of_cond 3 Tryz.f3 rfl rfl rfl rfl rfl rfl rfl ⟨rfl, rfl, rfl, rfl, rfl⟩ rfl rfl rfl rfl rfl (by kernel_rfl) Tryz.func3 f_joined
    (of_decide_eq_true (by kernel_rfl)) (by unfold Func.isWrapper; first | (rw [if_pos (by decide +kernel)]; kernel_rfl) | (rw [if_neg (by decide +kernel)]; exact ⟨rfl, rfl⟩))
    (fun os started H enc _ F => by rw [OpenClaim.pre_eq_preRow]; exact machineNobody_lifted os started H enc F)

theorem machineNobody_plain (f : FuncId) (fn : Func) (hf : Tryz.pinned.checked.prog.funcNamed Rows.machineNobodyRow.func = some f) (hfn : Tryz.pinned.checked.prog.funcs[f]? = some fn) :
    false = Tryz.pinned.checked.prog.looks [] ∧ ∀ (j : Nat) t, fn.params[j]? = some t → Tryz.pinned.checked.prog.wantsStandIn t = false := by
  obtain rfl : f = 3 := Option.some.inj ((show Tryz.prog.funcNamed Rows.machineNobodyRow.func = some 3 by kernel_rfl).symm.trans hf) |>.symm
  obtain rfl : fn = Tryz.f3 := (Option.some.inj (Tryz.func3.symm.trans hfn)).symm
  refine ⟨f_looks.symm, fun j t ht => ?_⟩
  have hall : (Tryz.f3.params.toList.all fun t => !Tryz.prog.wantsStandIn t) = true := by kernel_rfl
  have hm := List.all_eq_true.1 hall t (by simpa using Array.mem_of_getElem? ht)
  have hw : Tryz.prog.wantsStandIn t = false := by simpa using hm
  exact hw

/-- The card: MachineNobody. -/
theorem machineNobody_card : Rows.MachineNobodyCardSaid :=
  Claim7.holds_tied_plain_at .later [] _ _ _ _ machineNobody_said (fun _ h => by cases h) (by kernel_rfl) (fun _ h => by cases h) machineNobody_row_tie rfl ⟨rfl, rfl⟩ (by kernel_rfl) rfl machineNobody_plain (goes_none f_goes rfl)

end Go.Proofs.YtkenjhchfidpbaaGreatDoor
