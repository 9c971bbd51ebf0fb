/- What slices.SortFunc leaves, in the words of Row. Over any program. -/
import Derived.Test.YtckkbghmiomfiaaDoorS09
import Derived.Shelf.SlSortCmp.NoneTotal
namespace Go.El
open Go.RowKit Go.Sort Go.Proofs

instance : Inhabited OpV := ⟨zeroO⟩

theorem flatK_at (M : List OpV) (t : Nat) (ht : t < M.length * 3) : some (flatK opCells 3 M.toArray)[t]! = (flat opCells M)[t]? := by
  have hk : t / 3 < M.length := by omega
  have ho : M[t / 3]? = some M[t / 3] := List.getElem?_eq_getElem hk
  have h3 : t % 3 < 3 := Nat.mod_lt _ (by omega)
  rw [get_flatK _ _ _ _ (by simpa using ht)]
  have e1 : M.toArray[t / 3]! = M[t / 3] := by rw [getElem!_pos _ _ (by simpa using hk)]; simp
  rw [e1]
  have := flat_at opCells_len M (t / 3) (t % 3) _ ho h3
  have e2 : t / 3 * 3 + t % 3 = t := by omega
  rw [e2] at this
  rw [this, getElem!_pos _ _ (by rw [opCells_len]; exact h3)]
  exact (List.getElem?_eq_getElem _).symm

theorem holds_own {w : World} {e : TypeId} {g c : Nat} {L : List OpV} (h : w.ownsRow 0 e 3 (.slice (some ⟨g, 0, none⟩) L.length c) L.length (flat opCells L)) : HoldsK opCells 3 w g 0 L.toArray := by
  intro t ht
  have ht' : t < L.length * 3 := by simpa using ht
  refine ⟨?_, ?_⟩
  · rw [Nat.zero_add, h.cellAt t ht', ← flatK_at L t ht']
    rfl
  · rw [Nat.zero_add]
    exact h.frozenAt t

theorem sorted_own {w : World} {e : TypeId} {g c n : Nat} {os : Array Obj} {L M : List OpV} (h : w.ownsRow 0 e 3 (.slice (some ⟨g, 0, none⟩) L.length c) L.length (flat opCells L)) (hM : M.length = L.length) :
    (sortWorldK opCells 3 w g 0 n M.toArray os).ownsRow 0 e 3 (.slice (some ⟨g, 0, none⟩) M.length c) M.length (flat opCells M) ∧ Mods [g] w (sortWorldK opCells 3 w g 0 n M.toArray os) := by
  rcases h.2 with ⟨hv, _⟩ | ⟨g', cap, cur, hv, hb0, hb, hle, hmx, hsz, _⟩
  · cases hv
  · injection hv with e1 e2 e3
    injection e1 with e1
    injection e1 with e1
    subst e1 e3
    have hlt : g < w.heap.size := heap_lt hb
    have hg : (sortWorldK opCells 3 w g 0 n M.toArray os).heap[g]? = some (.cells (putCells id 0 (flatK opCells 3 M.toArray) cur) e (0, 0)) := by
      unfold sortWorldK grow putRowK putRow mapBlock Go.Sort.ahead
      show (w.heap.modify g _ ++ os)[g]? = _
      rw [Array.getElem?_append_left (by simpa using hlt), Array.getElem?_modify]
      simp [hb, onCells]
    refine ⟨⟨flat_len opCells_len M, .inr ⟨g, c, _, rfl, Nat.zero_le _, hg, by omega, hmx, ?_, ?_⟩⟩, ⟨rfl, rfl, rfl, ?_, fun k hk hS => ?_⟩⟩
    · simp [putCells, hsz]
    · refine List.ext_getElem? fun t => ?_
      rw [List.getElem?_take]
      split
      · next ht =>
        rw [← flatK_at M t ht]
        have : t < cur.size := by rw [hsz]; omega
        simp [putCells, this, ht]
      · next ht => exact (List.getElem?_eq_none (by rw [flat_len opCells_len M]; omega)).symm
    · simp [sortWorldK, grow, putRowK, putRow, mapBlock, Go.Sort.ahead]
    · have hne : g ≠ k := fun e => hS (by simp [e])
      unfold sortWorldK grow putRowK putRow mapBlock Go.Sort.ahead
      show (w.heap.modify g _ ++ os)[k]? = _
      rw [Array.getElem?_append_left (by simpa using hk), Array.getElem?_modify, if_neg hne]

end Go.El
