/- Layer 11, the program: the walk of term: its contract for all terms that may be. -/
import Derived.Test.YtnedihbffiddpaaGreatDoorW21
namespace Go.Proofs.YtnedihbffiddpaaGreatDoor
open Go.RowKit Go.El

theorem find_mem {s : ByteArray} : ∀ {l : List OpV} {p : OpV}, findO s l = some p → p ∈ l
  | [], p, h => by simp [findO] at h
  | q :: l, p, h => by
    unfold findO at h
    split at h
    · injection h with h
      subst h
      simp
    · exact List.mem_cons_of_mem _ (find_mem h)
theorem opr_mem {I Q : List OpV} {t : Tm} {p : OpV} (h : oprT I Q t = some p) : p ∈ I ∨ p ∈ Q := by
  unfold oprT oprK at h
  split at h
  · cases h
  · split at h
    · exact .inl (find_mem h)
    · split at h
      · exact .inr (find_mem h)
      · cases h
theorem WrSt.bd {base : Nat} {w : World} {b : Nat} {v : Value} {F : List UInt8} {I Q : List OpV} {op : Value} (h : WrSt base w b v F (some (I, Q)) op) {t : Tm} {p : OpV} (hp : oprT I Q t = some p) : -1000000 ≤ p.p ∧ p.p ≤ 1000000 := by
  obtain ⟨_, ⟨_, _, _, _, _, _, _, _, hb⟩, _, _⟩ := h
  exact hb p (opr_mem hp)

/-- What operated leaves. -/
theorem operated_all (N : Nat) (IH : TermC N) (t : Tm) (hN : szT t ≤ N + 1) (hm : mayT t = true) (base : Nat) (w : World) (b : Nat) (v : Value) (F : List UInt8) (o : OpsV) (op : Value) (most : Int) (A : Option Addr) (c : Nat) (h : WrSt base w b v F o op) (he : EnvIn w b v) (ht : TmIn (Clr w b v) w t A c) (hl : F.length + 400 * szT t ≤ 800000000) :
    Calls Tryz.prog 46 #[.pointer (some ⟨b, 0, none⟩), tmVal t A c, .int .i64 most] w fun e w' =>
      (∃ X, o.bind (fun q => operF q.1 q.2 t.k t.s t.l most (a0T o t.l) (a1T o t.l)) = some X ∧ e = .returned (.bool true) ∧ WrPost base w b v F X o op w') ∨
      (o.bind (fun q => operF q.1 q.2 t.k t.s t.l most (a0T o t.l) (a1T o t.l)) = none ∧ e = .returned (.bool false) ∧ Ext w w') := by
  cases o with
  | none =>
    refine (operated_none t base w b v F op most A c h).mono ?_
    rintro e w' ⟨rfl, hx⟩
    exact .inr ⟨rfl, rfl, hx⟩
  | some q =>
    obtain ⟨I, Q⟩ := q
    simp only [Option.bind_some]
    cases hb : isBraces t.s t.l.length
    · cases hr : oprT I Q t with
      | none =>
        refine (operated_no t hb base w b v F I Q op hr most A c h ht).mono ?_
        rintro e w' ⟨rfl, hx⟩
        refine .inr ⟨?_, rfl, hx⟩
        unfold operF
        rw [hb]
        unfold oprT at hr
        simp [hr]
      | some p =>
        have hpp := h.bd hr
        have hr2 : oprK I Q t.k t.s t.l = some p := hr
        have hlen : t.l.length = 2 ∨ t.l.length = 1 := by
          unfold oprK at hr2
          split at hr2
          · cases hr2
          · split at hr2
            · exact .inl ‹_›
            · split at hr2
              · rename_i e
                exact .inr e.1
              · cases hr2
        rcases hlen with h2 | h1
        · obtain ⟨a, d, hla⟩ : ∃ a d, t.l = [a, d] := by
            match hh : t.l, h2 with
            | [a, d], _ => exact ⟨a, d, rfl⟩
          refine (operated_two N IH t hN hm hb base w b v F I Q op p hr a d hla hpp most A c h he ht hl).mono ?_
          rintro e w' ⟨rfl, hx⟩
          refine .inl ⟨_, ?_, rfl, hx⟩
          unfold operF
          rw [hb, hr2]
          simp only [h2, if_true, Bool.false_eq_true, if_false]
          rw [hla]
          rfl
        · obtain ⟨a, hla⟩ : ∃ a, t.l = [a] := by
            match hh : t.l, h1 with
            | [a], _ => exact ⟨a, rfl⟩
          refine (operated_one N IH t hN hm hb base w b v F I Q op p hr a hla hpp most A c h he ht hl).mono ?_
          rintro e w' ⟨rfl, hx⟩
          refine .inl ⟨_, ?_, rfl, hx⟩
          unfold operF
          rw [hb, hr2]
          have hn2 : ¬ t.l.length = 2 := by omega
          simp only [hn2, if_false, Bool.false_eq_true]
          rw [hla]
          rfl
    · have hbb := of_decide_eq_true hb
      obtain ⟨a, hla⟩ : ∃ a, t.l = [a] := by
        match hh : t.l, hbb.2 with
        | [a], _ => exact ⟨a, rfl⟩
      refine (operated_br N IH t a hN hm hla hbb.1 base w b v F I Q op most A c h he ht (by omega)).mono ?_
      rintro e w' ⟨rfl, hx⟩
      refine .inl ⟨_, ?_, rfl, hx⟩
      unfold operF
      rw [hb, hla]
      rfl

end Go.Proofs.YtnedihbffiddpaaGreatDoor
