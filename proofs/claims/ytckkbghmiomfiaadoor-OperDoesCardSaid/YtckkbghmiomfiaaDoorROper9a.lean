/- Layer 9, the reference: ahead; what All owns on its way. -/
import Derived.Test.YtckkbghmiomfiaaDoorOper16
import Derived.Test.YtckkbghmiomfiaaDoorIns
import Derived.Test.YtckkbghmiomfiaaDoorForks
namespace Go.Proofs.YtckkbghmiomfiaaDoor
open Go.RowKit Go.El

set_option maxHeartbeats 1600000 in
theorem ahead_any (a b : OpV) (w : World) : Calls Tryd.prog 40 #[opVal a, opVal b] w fun e w' => e = .returned (.bool (ltO a b)) ∧ Ext w w' := by
  obtain ⟨p, t, s⟩ := a
  obtain ⟨p2, t2, s2⟩ := b
  obtain ⟨z, hz⟩ : ∃ z, z = ltO ⟨p, t, s⟩ ⟨p2, t2, s2⟩ := ⟨_, rfl⟩
  rw [← hz]
  simp only [opVal_eq]
  unfold ltO at hz
  dsimp only at hz
  by_cases hs : s = s2
  · have e1 := isR_beq hs
    have hs0 : decide (s = s2) = true := by simpa using hs
    rw [hs0, hs, bl_irrefl] at hz
    cases h1 : preB t <;> cases h2 : preB t2 <;> rw [h1, h2] at hz <;> simp at hz <;> subst hz
    all_goals
      clear hs0
      have HS := Lib.hid hs
      clear hs
      go_enter Tryd.func40, Tryd.ntmps40
      go_wp2_with (go_at_call 46; refine (rPrefix_any _ _).mono ?_; rintro e w' ⟨rfl, rfl⟩)
      go_ret
      exact ⟨rfl, (ext_box _ _).trans (ext_box _ _)⟩
  · have e1 := isR_bne hs
    have hs0 : decide (s = s2) = false := by simpa using hs
    rw [hs0] at hz
    simp only [Bool.false_and, Bool.or_false] at hz
    have HS := Lib.hid hs
    clear hs hs0
    have HZ := Lib.hid hz
    clear hz
    go_enter Tryd.func40, Tryd.ntmps40
    go_wp2_with (go_at_call 46; refine (rPrefix_any _ _).mono ?_; rintro e w' ⟨rfl, rfl⟩)
    go_ret
    exact ⟨by rw [HZ.out]; rfl, (ext_box _ _).trans (ext_box _ _)⟩

theorem own_then {v v' : Value} {B n : Nat} (h : ∀ b, v.ownBlock = some b → B ≤ b) (hn : B ≤ n) (hb : v'.ownBlock = v.ownBlock ∨ v'.ownBlock = some n) : ∀ b, v'.ownBlock = some b → B ≤ b := by
  intro b h'
  rcases hb with e | e
  · exact h b (e.symm.trans h')
  · rw [e] at h'
    injection h' with h'
    omega
theorem own_ins {w : World} {e : TypeId} {v : Value} {O : List OpV} {x : OpV} {q : Nat} (h : w.ownsRow 0 e 3 v (0 + q + 1 + (O.length - q)) ([] ++ (flat opCells O).take (q * 3) ++ opCells x ++ (flat opCells O).drop (q * 3))) (hq : q ≤ O.length) (hp : posO x O = q) :
    w.ownsRow 0 e 3 v (insO x O).length (flat opCells (insO x O)) := by
  have e1 : (insO x O).length = 0 + q + 1 + (O.length - q) := by rw [insO_len]; omega
  have e2 : flat opCells (insO x O) = [] ++ (flat opCells O).take (q * 3) ++ opCells x ++ (flat opCells O).drop (q * 3) := by
    rw [List.nil_append, flat_take opCells_len, flat_drop opCells_len]
    unfold insO
    rw [hp, flat_append]
    have e3 : flat opCells (x :: O.drop q) = opCells x ++ flat opCells (O.drop q) := by simp [flat]
    rw [e3, List.append_assoc]
  rw [e1, e2]
  exact h
theorem base_le {B b C : Nat} {n c : Nat} (h : (Value.slice (some ⟨C, 0, none⟩) n c).ownBlock = some b) (hC : B ≤ C := by omega) : B ≤ b := by
  simp only [Value.ownBlock] at h
  injection h with h
  omega
theorem own_ins1 {w : World} {e : TypeId} {v : Value} {O : List OpV} {x : OpV} (h : w.ownsRow 0 e 3 v (0 + O.length + 1 + 0) ([] ++ (flat opCells O).take (O.length * 3) ++ opCells x ++ [])) (hp : posO x O = O.length) :
    w.ownsRow 0 e 3 v (insO x O).length (flat opCells (insO x O)) := by
  refine own_ins (q := O.length) ?_ (Nat.le_refl _) hp
  have e1 : (flat opCells O).drop (O.length * 3) = [] := List.drop_eq_nil_of_le (by rw [flat_len opCells_len]; omega)
  rw [e1, Nat.sub_self]
  exact h
theorem own_ins0 {w : World} {e : TypeId} {v : Value} {x : OpV} (h : w.ownsRow 0 e 3 v (0 + 1 + 0) ([] ++ opCells x ++ [])) : w.ownsRow 0 e 3 v (insO x []).length (flat opCells (insO x [])) := by
  have e2 : flat opCells (insO x []) = [] ++ opCells x ++ [] := by simp [insO, posO, flat]
  rw [e2]
  exact h

theorem all2_keep {w0 a c : World} {rb b off g f : Nat} {v : Value} {x y : OpV} (k : Ext a c) (h : (a.cell? ⟨rb, 0, none⟩ = some v ∧ a.cell? ⟨b, off, none⟩ = some (.int .i64 y.p) ∧ a.cell? ⟨b, off + 1, none⟩ = some (.int .i64 y.t) ∧ a.cell? ⟨b, off + 2, none⟩ = some (.string y.s) ∧ a.cell? ⟨g, f, none⟩ = some (.int .i64 x.p) ∧ a.cell? ⟨g, f + 1, none⟩ = some (.int .i64 x.t) ∧ a.cell? ⟨g, f + 2, none⟩ = some (.string x.s) ∧ Hid (Ext w0 a))) :
    (c.cell? ⟨rb, 0, none⟩ = some v ∧ c.cell? ⟨b, off, none⟩ = some (.int .i64 y.p) ∧ c.cell? ⟨b, off + 1, none⟩ = some (.int .i64 y.t) ∧ c.cell? ⟨b, off + 2, none⟩ = some (.string y.s) ∧ c.cell? ⟨g, f, none⟩ = some (.int .i64 x.p) ∧ c.cell? ⟨g, f + 1, none⟩ = some (.int .i64 x.t) ∧ c.cell? ⟨g, f + 2, none⟩ = some (.string x.s) ∧ Hid (Ext w0 c)) := by
  obtain ⟨h1, h2, h3, h4, h5, h6, h7, h8⟩ := h
  exact ⟨k.cell h1, k.cell h2, k.cell h3, k.cell h4, k.cell h5, k.cell h6, k.cell h7, Ext.trans (Hid.out h8) k⟩

theorem at_world {P : Program} {ops : Array Oper} {o : Oper} {a : Act} {K : Act → World → Prop} {Q : Exit → Act → World → Prop} {E : Prop} (W : World) (h : if Region.wanted o (yielded ops a.tmps) = true then Oper.wp P o a W K Q else E) :
    if Region.wanted o (yielded ops a.tmps) = true then Oper.wp P o a W K Q else E := h

theorem all3_keep {w0 a c : World} {rb g f : Nat} {v : Value} {x : OpV} (k : Ext a c) (h : (a.cell? ⟨rb, 0, none⟩ = some v ∧ a.cell? ⟨g, f, none⟩ = some (.int .i64 x.p) ∧ a.cell? ⟨g, f + 1, none⟩ = some (.int .i64 x.t) ∧ a.cell? ⟨g, f + 2, none⟩ = some (.string x.s) ∧ Hid (Ext w0 a))) :
    (c.cell? ⟨rb, 0, none⟩ = some v ∧ c.cell? ⟨g, f, none⟩ = some (.int .i64 x.p) ∧ c.cell? ⟨g, f + 1, none⟩ = some (.int .i64 x.t) ∧ c.cell? ⟨g, f + 2, none⟩ = some (.string x.s) ∧ Hid (Ext w0 c)) := by
  obtain ⟨h1, h5, h6, h7, h8⟩ := h
  exact ⟨k.cell h1, k.cell h5, k.cell h6, k.cell h7, Ext.trans (Hid.out h8) k⟩

end Go.Proofs.YtckkbghmiomfiaaDoor
