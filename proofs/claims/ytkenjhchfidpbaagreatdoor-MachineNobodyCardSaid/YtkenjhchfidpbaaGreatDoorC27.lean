/- Closed facts of a great program, in parts. Over any program. -/
import Derived.JoinedOf
import GoSem.ClaimGoes
namespace Go
/-- Where no body at all starts a goroutine, no call does. -/
theorem goes_none {P : Program} (h : P.funcs.toList.any Func.goes = false) {c : OpenClaim} (hs : c.start = .entering) : false = c.goesBy P := by
  have hf : ∀ g : Nat, (P.funcs[g]?).any Func.goes = false := by
    intro g
    cases hg : P.funcs[g]? with
    | none => rfl
    | some fn =>
      rw [List.any_eq_false] at h
      have := h fn (by rw [← Array.getElem?_toList] at hg; exact List.mem_of_getElem? hg)
      simpa using this
  have h1 : P.funcs.any Func.goes = false := by rw [← Array.any_toList]; exact h
  have h2 : ∀ f, P.goes f = false := by
    intro f
    unfold Program.goes
    rw [h1, Bool.and_false, Bool.or_false, List.any_eq_false]
    intro g _
    rw [hf g]; simp
  unfold OpenClaim.goesBy Program.goesAt Program.goesFrom
  rw [hs]
  cases hn : P.funcNamed c.func with
  | none => rfl
  | some f => simp [h2 f]
/-- Where calls are not followed, a call may recurse. -/
theorem recurses_of {P : Program} {f : FuncId} (h : P.unfollowed f = true) : P.recurses f = true := by unfold Program.recurses; rw [h]; rfl
end Go
