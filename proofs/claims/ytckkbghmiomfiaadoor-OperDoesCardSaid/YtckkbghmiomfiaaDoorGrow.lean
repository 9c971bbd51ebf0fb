/- append(nil, make([]E, n)...): the builtin's own form for it. Over any program. -/
import Derived.Test.YtckkbghmiomfiaaDoorRow
import Derived.Lib.AppendZerosOnto
namespace Go.El
open Go.RowKit

theorem run_append_zeros_nil {P : Program} (w : World) (t tn ty e : TypeId) (i : TypeInfo) (z : Value) (kq kn : IntKind) (size bytes : Nat) (ht : P.underlying t = some (.slice e)) (htn : P.underlying tn = some (.int kn)) (hi : P.info? e = some i) (hz : i.zero = some z)
    (hsize : i.size = size) (hby : i.bytes = bytes) (hzs : z.cells.size = size) (hsz : 0 < size) (hbb : bytes ≤ 1000) (n : Nat) (h0 : 0 < n) (hn : n ≤ 100000) :
    ∃ c w', (Builtin.append_ #[t, tn] ty #[.slice none 0 0, .int kq n]).run P w = .ok (.slice (some ⟨w.heap.size, 0, none⟩) n c) w' ∧ Ext w w' ∧ w.heap.size < w'.heap.size ∧ n ≤ c ∧ c ≤ maxLen ∧ w'.ownsRow 0 e size (.slice (some ⟨w.heap.size, 0, none⟩) 0 c) 0 [] := by
  have hnb : n * bytes ≤ 100000 * 1000 := Nat.mul_le_mul hn hbb
  have hnx : Builtin.nextslicecap n 0 = n := by unfold Builtin.nextslicecap; rw [if_pos (by omega)]
  have hrun := Go.Lib.run_append_grow_zeros (P := P) w t tn ty e i z kq kn ht htn hi hz none 0 0 [] (by simp [Builtin.firstCells]) n h0 (by omega) (by omega) (by omega) (by rw [hby]; omega) (by rw [Nat.zero_add, hnx, hby]; omega)
  rw [Nat.zero_add] at hrun
  refine ⟨grownCap w n 0 e, _, hrun, ((Ext.refl w).drew).alloc _, by simp, grownCap_ge _ _ _ _, grownCap_le_maxLen _ _ _ _ (by unfold maxLen; omega), ⟨by simp, .inr ⟨w.heap.size, grownCap w n 0 e, _, rfl, Nat.zero_le _, Blk.new w.drew e _, Nat.zero_le _, grownCap_le_maxLen _ _ _ _ (by unfold maxLen; omega), ?_, by simp⟩⟩⟩
  have hge := grownCap_ge w n 0 e
  have e1 : ∀ k, (Builtin.zeroCells z.cells k).size = k * size := fun k => by rw [size_zeroCells, hzs]
  rw [Array.size_append, Array.size_append, e1, e1]
  simp only [List.size_toArray, List.length_nil, Nat.zero_add]
  rw [← Nat.add_mul, Nat.add_sub_cancel' hge]

theorem wpList_append_zeros {P : Program} {w : World} {ops : Array Oper} {rest : List Oper} {o : Oper} {a : Act} {Q : Exit → Act → World → Prop} (hgd : o.guard = none) (s x : Operand) (t tn : TypeId)
    (ho : o.op = .call { callee := .builtin .append, args := #[s, x], argTypes := #[t, tn] })
    (e : TypeId) (i : TypeInfo) (z : Value) (kq kn : IntKind) (size bytes : Nat) (ht : P.underlying t = some (.slice e)) (htn : P.underlying tn = some (.int kn)) (hi : P.info? e = some i) (hz : i.zero = some z)
    (hsize : i.size = size) (hby : i.bytes = bytes) (hzs : z.cells.size = size) (hsz : 0 < size) (hbb : bytes ≤ 1000) (n : Nat) (h0 : 0 < n) (hn : n ≤ 100000) (hs : a.eval s = .slice none 0 0) (hx : a.eval x = .int kq n)
    (h : ∀ c w', Ext w w' → w.heap.size < w'.heap.size → n ≤ c → c ≤ maxLen → w'.ownsRow 0 e size (.slice (some ⟨w.heap.size, 0, none⟩) 0 c) 0 [] → wpList P ops Q rest (a.put o.dst (.slice (some ⟨w.heap.size, 0, none⟩) n c)) w') : wpList P ops Q (o :: rest) a w := by
  refine wpList_plain hgd fun K hK => ?_
  obtain ⟨c, w', hrun, h2, h3, h4, h5, h6⟩ := run_append_zeros_nil (P := P) w t tn o.type e i z kq kn size bytes ht htn hi hz hsize hby hzs hsz hbb n h0 hn
  unfold Oper.wp execOp
  simp only [ho, resolve, invoke, builtin, Sem.run_bind, Sem.run_pure, Result.andThen_ok, List.map_toArray, List.map_cons, List.map_nil, hs, hx, hrun]
  exact hK _ _ (h c w' h2 h3 h4 h5 h6)

end Go.El
