/- OperForks: what is set in a table changes nothing in another one that was forked from it, nor the other way round, for all operators. -/
import Derived.Test.YtckkbghmiomfiaaDoorOpRow
import Derived.Test.YtckkbghmiomfiaaDoorForks
namespace Go.Proofs.YtckkbghmiomfiaaDoor
open Go.RowKit Go.El Go.ChangeShapes Go.WideShapes Go.ChangeAt Go.Joins Go.ChangeMaps

set_option maxRecDepth 100000 in
theorem operForks_calls (H : Type) (enc : TypeId × Value → H) (W : World) (base : Nat) (args : Array Value) (ds gs : List (DataW H)) (before : List MemPlace)
    (hval : ∀ (j : Nat) t v, Tryd.f7.params[j]? = some t → args[j]? = some v → Value.okWide Tryd.prog W .any base t v)
    (hW : DataW.Whole enc Tryd.prog Tryd.f7.params.toList Rows.operForksSpec.vars false W args.toList ds gs before) (hT : TypesAt 0 W) :
    Calls Tryd.prog 7 args W fun e W' => e = .returned (.bool true) ∧ Ext W W' ∧ Rows.operForksSpec.fn H (ds ++ gs) = { results := [.lit (.bool true)], args := ds } := by
  obtain ⟨p, q, hA0, hV, rfl, hfz, hnd⟩ := hW
  have hA : DataW.TrodAll enc Tryd.prog W 0 (fun _ => true) true Tryd.f7.params.toList args.toList ds p := hA0
  rw [Tryd.params7] at hA hval
  obtain ⟨v0, vs0, d0, ds0, p0, q0, hargs, rfl, rfl, h0, r0⟩ := trodAll_cons hA
  obtain ⟨v1, vs1, d1, ds1, p1, q1, rfl, rfl, rfl, h1, r1⟩ := trodAll_cons r0
  obtain ⟨rfl, rfl, rfl⟩ := trodAll_nil r1
  obtain rfl : args = #[v0, v1] := Array.ext' hargs
  obtain ⟨rfl, rfl⟩ := trodVars_none hV
  obtain ⟨A1, L1, c1, rfl, s1, _, b1⟩ := open_ops opType Tryd.underlying29 (hval 0 29 v0 rfl rfl) h0
  obtain ⟨A2, L2, c2, rfl, s2, _, b2⟩ := open_ops opType Tryd.underlying29 (hval 1 29 v1 rfl rfl) h1
  exact (forks_any A1 A2 c1 c2 L1 L2 W hT s1 s2 (by unfold maxLen at b1; omega) (by unfold maxLen at b2; omega)).mono fun e W' ⟨he, hx⟩ => ⟨he, hx, rfl⟩

set_option maxRecDepth 100000 in
/-- What is claimed of one call: it returns true; nothing that was there has turned. -/
theorem operForks_row (H : Type) (enc : TypeId × Value → H) (W : World) (base : Nat) (args : Array Value) (ds gs : List (DataW H)) (before : List MemPlace)
    (hval : ∀ (j : Nat) t v, Tryd.f7.params[j]? = some t → args[j]? = some v → Value.okWide Tryd.prog W .any base t v)
    (hW : DataW.Whole enc Tryd.prog Tryd.f7.params.toList Rows.operForksSpec.vars false W args.toList ds gs before) (hL : laidMetH Tryd.prog Rows.operForksRow.laid W) :
    Calls Tryd.prog 7 args W fun e W' => ∃ v, e = .returned v ∧ Rows.operForksSpec.post enc Tryd.prog Tryd.f7 false true false false W args v W' := by
  have hlaid : Rows.operForksRow.laid = [(tyName, Rows.laid_elenchus_oper_types)] := rfl
  rw [hlaid] at hL
  refine (operForks_calls H enc W base args ds gs before hval hW (types_of_laid hL)).mono fun e W' ⟨he, hx, hs⟩ => ?_
  subst he
  exact ⟨_, rfl, post_law (tb := 4) laidOut (by kernel_rfl) rfl (by kernel_rfl) Tryd.underlying4 hW hs hx⟩

theorem operForks_reads (os : Os) {H : Type} (enc : TypeId × Value → H) : ∃ places, DataW.whole enc Tryd.prog ((laidWorld os).forCall (fun _ _ => 0) ⟨#[], #[.slice none 0 0, .slice none 0 0], []⟩).memory Tryd.f7.params.toList Rows.operForksSpec.vars false (#[.slice none 0 0, .slice none 0 0] : Array Value).toList 8 = some ([.nil, .nil], [], places) :=
  ⟨[], by kernel_rfl⟩

set_option maxRecDepth 100000 in
theorem operForks_lifted (os : Os) (started : os.Started) (H : Type) (enc : TypeId × Value → H) (F : Stop.Interp) :
    ReturnsInHanded {} Tryd.checked os 7 .any ((OpenSpec.ofChange Rows.operForksSpec).preRow enc Tryd.prog Tryd.f7 Rows.operForksRow.domain false Rows.operForksRow.laid) (((OpenSpec.ofChange Rows.operForksSpec).at F).post enc Tryd.prog Tryd.f7 false true false false) := by
  obtain ⟨places, hx⟩ := operForks_reads os enc
  refine returnsInHanded_of_row (C := Tryd.checked) (s := OpenSpec.ofChange Rows.operForksSpec) own started (by kernel_rfl) Tryd.func7
    (witness_row_at (enc := enc) (C := Tryd.checked) false (laidWorld os) #[.slice none 0 0, .slice none 0 0] rfl (by kernel_rfl) (by kernel_rfl) (by kernel_rfl)
      (OpenSpec.preRow_of_cond 8 hx (by kernel_rfl) (fun k hk => by cases hk) (by kernel_rfl) (laid_met os _))) ?_
  intro W base args ds gs before hval hW _ _ _ hL _ _
  exact operForks_row H enc W base args ds gs before hval hW hL

theorem operForks_said : Rows.OperForksSaid :=
  OpenClaim.holds_of_cond 7 Tryd.f7 rfl rfl rfl rfl rfl rfl rfl ⟨rfl, rfl, rfl, rfl, rfl⟩ rfl rfl rfl rfl rfl (by kernel_rfl) Tryd.func7 (by kernel_rfl)
    (of_decide_eq_true (by kernel_rfl)) (by unfold Func.isWrapper; first | (rw [if_pos (by decide +kernel)]; kernel_rfl) | (rw [if_neg (by decide +kernel)]; exact ⟨rfl, rfl⟩))
    (fun os started H enc _ F => by rw [OpenClaim.pre_eq_preRow]; exact operForks_lifted os started H enc F)

theorem operForks_plain (f : FuncId) (fn : Func) (hf : Tryd.pinned.checked.prog.funcNamed Rows.operForksRow.func = some f) (hfn : Tryd.pinned.checked.prog.funcs[f]? = some fn) :
    true = Tryd.pinned.checked.prog.looks [] ∧ ∀ (j : Nat) t, fn.params[j]? = some t → Tryd.pinned.checked.prog.wantsStandIn t = false := by
  obtain rfl : f = 7 := Option.some.inj ((show Tryd.prog.funcNamed Rows.operForksRow.func = some 7 by kernel_rfl).symm.trans hf) |>.symm
  obtain rfl : fn = Tryd.f7 := (Option.some.inj (Tryd.func7.symm.trans hfn)).symm
  refine ⟨by kernel_rfl, fun j t ht => ?_⟩
  have hall : (Tryd.f7.params.toList.all fun t => !Tryd.prog.wantsStandIn t) = true := by kernel_rfl
  have hm := List.all_eq_true.1 hall t (by simpa using Array.mem_of_getElem? ht)
  have hw : Tryd.prog.wantsStandIn t = false := by simpa using hm
  exact hw

/-- The card: OperForks. -/
theorem operForks_card : Rows.OperForksCardSaid :=
  Claim7.holds_tied_plain_at .later [] _ _ _ _ operForks_said (fun _ h => by cases h) (by kernel_rfl) (fun _ h => by cases h) operForks_row_tie rfl ⟨rfl, rfl⟩ (by kernel_rfl) rfl operForks_plain (by kernel_rfl)

end Go.Proofs.YtckkbghmiomfiaaDoor
