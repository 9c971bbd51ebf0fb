/- OperSets: what was set is told, and all other operators stay, for all operators in any order. -/
import Derived.Test.YtckkbghmiomfiaaDoorOpRow
import Derived.Test.YtckkbghmiomfiaaDoorSets
namespace Go.Proofs.YtckkbghmiomfiaaDoor
open Go.RowKit Go.El Go.ChangeShapes Go.WideShapes Go.ChangeAt Go.Joins Go.ChangeMaps

set_option maxRecDepth 100000 in
theorem operSets_calls (H : Type) (enc : TypeId × Value → H) (W : World) (base : Nat) (args : Array Value) (ds gs : List (DataW H)) (before : List MemPlace)
    (hval : ∀ (j : Nat) t v, Tryd.f5.params[j]? = some t → args[j]? = some v → Value.okWide Tryd.prog W .any base t v)
    (hW : DataW.Whole enc Tryd.prog Tryd.f5.params.toList Rows.operSetsSpec.vars false W args.toList ds gs before) (hT : TypesAt 0 W) :
    Calls Tryd.prog 5 args W fun e W' => e = .returned (.bool true) ∧ Ext W W' ∧ Rows.operSetsSpec.fn H (ds ++ gs) = { results := [.lit (.bool true)], args := ds } := by
  obtain ⟨p, q, hA0, hV, rfl, hfz, hnd⟩ := hW
  have hA : DataW.TrodAll enc Tryd.prog W 0 (fun _ => true) true Tryd.f5.params.toList args.toList ds p := hA0
  rw [Tryd.params5] at hA hval
  obtain ⟨v0, vs0, d0, ds0, p0, q0, hargs, rfl, rfl, h0, r0⟩ := trodAll_cons hA
  obtain ⟨v1, vs1, d1, ds1, p1, q1, rfl, rfl, rfl, h1, r1⟩ := trodAll_cons r0
  obtain ⟨rfl, rfl, rfl⟩ := trodAll_nil r1
  obtain rfl : args = #[v0, v1] := Array.ext' hargs
  obtain ⟨rfl, rfl⟩ := trodVars_none hV
  obtain ⟨A1, L1, c1, rfl, s1, _, b1⟩ := open_ops opType Tryd.underlying29 (hval 0 29 v0 rfl rfl) h0
  obtain ⟨o, rfl, _, _, b2⟩ := open_op opType (hval 1 32 v1 rfl rfl) h1
  exact (sets_any A1 c1 L1 o.p o.t o.s W hT s1 (by unfold maxLen at b1; omega) (by unfold maxLen at b2; omega)).mono fun e W' ⟨he, hx⟩ => ⟨he, hx, rfl⟩

set_option maxRecDepth 100000 in
/-- What is claimed of one call: it returns true; nothing that was there has turned. -/
theorem operSets_row (H : Type) (enc : TypeId × Value → H) (W : World) (base : Nat) (args : Array Value) (ds gs : List (DataW H)) (before : List MemPlace)
    (hval : ∀ (j : Nat) t v, Tryd.f5.params[j]? = some t → args[j]? = some v → Value.okWide Tryd.prog W .any base t v)
    (hW : DataW.Whole enc Tryd.prog Tryd.f5.params.toList Rows.operSetsSpec.vars false W args.toList ds gs before) (hL : laidMetH Tryd.prog Rows.operSetsRow.laid W) :
    Calls Tryd.prog 5 args W fun e W' => ∃ v, e = .returned v ∧ Rows.operSetsSpec.post enc Tryd.prog Tryd.f5 false true false false W args v W' := by
  have hlaid : Rows.operSetsRow.laid = [(tyName, Rows.laid_elenchus_oper_types)] := rfl
  rw [hlaid] at hL
  refine (operSets_calls H enc W base args ds gs before hval hW (types_of_laid hL)).mono fun e W' ⟨he, hx, hs⟩ => ?_
  subst he
  exact ⟨_, rfl, post_law (tb := 4) laidOut (by kernel_rfl) rfl (by kernel_rfl) Tryd.underlying4 hW hs hx⟩

theorem operSets_reads (os : Os) {H : Type} (enc : TypeId × Value → H) : ∃ places, DataW.whole enc Tryd.prog ((laidWorld os).forCall (fun _ _ => 0) ⟨#[], #[.slice none 0 0, .agg #[.int .i64 0, .int .i64 0, .string ⟨#[]⟩]], []⟩).memory Tryd.f5.params.toList Rows.operSetsSpec.vars false (#[.slice none 0 0, .agg #[.int .i64 0, .int .i64 0, .string ⟨#[]⟩]] : Array Value).toList 8 = some ([.nil, .agg [.lit (.int .i64 0), .lit (.int .i64 0), .lit (.string [])]], [], places) :=
  ⟨[], by kernel_rfl⟩

set_option maxRecDepth 100000 in
theorem operSets_lifted (os : Os) (started : os.Started) (H : Type) (enc : TypeId × Value → H) (F : Stop.Interp) :
    ReturnsInHanded {} Tryd.checked os 5 .any ((OpenSpec.ofChange Rows.operSetsSpec).preRow enc Tryd.prog Tryd.f5 Rows.operSetsRow.domain false Rows.operSetsRow.laid) (((OpenSpec.ofChange Rows.operSetsSpec).at F).post enc Tryd.prog Tryd.f5 false true false false) := by
  obtain ⟨places, hx⟩ := operSets_reads os enc
  refine returnsInHanded_of_row (C := Tryd.checked) (s := OpenSpec.ofChange Rows.operSetsSpec) own started (by kernel_rfl) Tryd.func5
    (witness_row_at (enc := enc) (C := Tryd.checked) false (laidWorld os) #[.slice none 0 0, .agg #[.int .i64 0, .int .i64 0, .string ⟨#[]⟩]] rfl (by kernel_rfl) (by kernel_rfl) (by kernel_rfl)
      (OpenSpec.preRow_of_cond 8 hx (by kernel_rfl) (fun k hk => by cases hk) (by kernel_rfl) (laid_met os _))) ?_
  intro W base args ds gs before hval hW _ _ _ hL _ _
  exact operSets_row H enc W base args ds gs before hval hW hL

theorem operSets_said : Rows.OperSetsSaid :=
  OpenClaim.holds_of_cond 5 Tryd.f5 rfl rfl rfl rfl rfl rfl rfl ⟨rfl, rfl, rfl, rfl, rfl⟩ rfl rfl rfl rfl rfl (by kernel_rfl) Tryd.func5 (by kernel_rfl)
    (of_decide_eq_true (by kernel_rfl)) (by unfold Func.isWrapper; first | (rw [if_pos (by decide +kernel)]; kernel_rfl) | (rw [if_neg (by decide +kernel)]; exact ⟨rfl, rfl⟩))
    (fun os started H enc _ F => by rw [OpenClaim.pre_eq_preRow]; exact operSets_lifted os started H enc F)

theorem operSets_plain (f : FuncId) (fn : Func) (hf : Tryd.pinned.checked.prog.funcNamed Rows.operSetsRow.func = some f) (hfn : Tryd.pinned.checked.prog.funcs[f]? = some fn) :
    true = Tryd.pinned.checked.prog.looks [] ∧ ∀ (j : Nat) t, fn.params[j]? = some t → Tryd.pinned.checked.prog.wantsStandIn t = false := by
  obtain rfl : f = 5 := Option.some.inj ((show Tryd.prog.funcNamed Rows.operSetsRow.func = some 5 by kernel_rfl).symm.trans hf) |>.symm
  obtain rfl : fn = Tryd.f5 := (Option.some.inj (Tryd.func5.symm.trans hfn)).symm
  refine ⟨by kernel_rfl, fun j t ht => ?_⟩
  have hall : (Tryd.f5.params.toList.all fun t => !Tryd.prog.wantsStandIn t) = true := by kernel_rfl
  have hm := List.all_eq_true.1 hall t (by simpa using Array.mem_of_getElem? ht)
  have hw : Tryd.prog.wantsStandIn t = false := by simpa using hm
  exact hw

/-- The card: OperSets. -/
theorem operSets_card : Rows.OperSetsCardSaid :=
  Claim7.holds_tied_plain_at .later [] _ _ _ _ operSets_said (fun _ h => by cases h) (by kernel_rfl) (fun _ h => by cases h) operSets_row_tie rfl ⟨rfl, rfl⟩ (by kernel_rfl) rfl operSets_plain (by kernel_rfl)

end Go.Proofs.YtckkbghmiomfiaaDoor
