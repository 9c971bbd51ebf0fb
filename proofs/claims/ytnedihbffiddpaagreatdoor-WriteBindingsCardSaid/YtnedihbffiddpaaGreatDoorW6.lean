/- Rows of terms that a call gathers. -/
import Derived.Test.YtnedihbffiddpaaGreatDoorW5
import Derived.Test.YtnedihbffiddpaaGreatDoorWC
namespace Go.El
open Go.RowKit

/-- A term and where its arguments lie. -/
abbrev TmP := Tm × Option Addr × Nat
def tmC (p : TmP) : List Value := [.int .i64 p.1.k, .int .i64 p.1.n, .string p.1.s, .slice p.2.1 p.1.l.length p.2.2]
theorem tmC_len (p : TmP) : (tmC p).length = 4 := rfl
theorem tmC_one (p : TmP) : ∀ u ∈ tmC p, u.oneCell' = true := by
  intro u hu
  simp only [tmC, List.mem_cons, List.not_mem_nil, or_false] at hu
  rcases hu with rfl | rfl | rfl | rfl <;> rfl

/-- A row of terms that a call has gathered: it and all below lies in blocks from lo on. -/
structure RowT (X : World) (lo : Nat) (wr : World) (v : Value) (M : List TmP) : Prop where
  own : wr.ownsRow 0 27 4 v M.length (flat tmC M)
  kid : ∀ p ∈ M, TmIn (fun k => lo ≤ k ∧ v.ownBlock ≠ some k ∧ k < wr.heap.size) wr p.1 p.2.1 p.2.2
  far : ∀ k, v.ownBlock = some k → lo ≤ k
  ext : Ext X wr
  xlo : X.heap.size ≤ lo
  low : lo ≤ wr.heap.size
theorem RowT.start {X wr : World} (h : Ext X wr) : RowT X wr.heap.size wr (.slice none 0 0) [] :=
  ⟨World.ownsRow_nil _ _ _ _, fun p hp => by simp at hp, fun k hk => by simp [Value.ownBlock] at hk, h, h.size, Nat.le_refl _⟩
theorem RowT.ng {X wr : World} {lo : Nat} {v : Value} {M : List TmP} (h : RowT X lo wr v M) {g : Nat} (hg : g < lo) : v.ownBlock ≠ some g := fun e => by have := h.far g e; omega
theorem RowT.no {X wr : World} {lo : Nat} {v : Value} {M : List TmP} (h : RowT X lo wr v M) {g : Nat} (hg : g < lo) : g ∉ ownL v := fun e => h.ng hg (by simpa [ownL] using e)
theorem RowT.go {X wr w' : World} {lo : Nat} {v : Value} {M : List TmP} (h : RowT X lo wr v M) (x : Ext wr w') : RowT X lo w' v M :=
  ⟨own_ext h.own x, fun p hp => ((h.kid p hp).ext x).mono (fun _ hk => ⟨hk.1, hk.2.1, Nat.lt_of_lt_of_le hk.2.2 x.size⟩), h.far, h.ext.trans x, h.xlo, Nat.le_trans h.low x.size⟩
theorem RowT.set_ {X wr : World} {lo : Nat} {v : Value} {M : List TmP} (h : RowT X lo wr v M) {g : Nat} (hx : X.heap.size ≤ g) (hg : g < lo) (i : Nat) (u : Value) : RowT X lo (wr.setCell ⟨g, i, none⟩ u) v M := by
  refine ⟨ownsRow_setCell_other h.own (h.ng hg) u, fun p hp => ?_, h.far, h.ext.setCell (p := ⟨g, i, none⟩) hx u, h.xlo, by simpa using h.low⟩
  exact TmIn.mods (S := [g]) ((Mods.refl [g] wr).setCell (p := ⟨g, i, none⟩) (.inl (by simp)) u) (fun k hk => by simp; omega) (fun k hk => ⟨hk.1, hk.2.1, by simpa using hk.2.2⟩) (h.kid p hp)
/-- One more. -/
theorem RowT.step {X wr V w' : World} {lo : Nat} {v v' : Value} {M : List TmP} {p : TmP} (h : RowT X lo wr v M) (x : Ext wr V) (hp : TmIn (fun k => lo ≤ k ∧ v.ownBlock ≠ some k ∧ k < V.heap.size) V p.1 p.2.1 p.2.2)
    (ho : w'.ownsRow 0 27 4 v' (M.length + 1) (flat tmC M ++ tmC p)) (hm : Mods (ownL v) V w') (hb : v'.ownBlock = v.ownBlock ∨ v'.ownBlock = some V.heap.size) : RowT X lo w' v' (M ++ [p]) := by
  have hV := h.go x
  have hD : ∀ k, (lo ≤ k ∧ v.ownBlock ≠ some k ∧ k < V.heap.size) → k ∉ ownL v := fun k hk hm => hk.2.1 (by simpa [ownL] using hm)
  have hD2 : ∀ k, (lo ≤ k ∧ v.ownBlock ≠ some k ∧ k < V.heap.size) → (lo ≤ k ∧ v'.ownBlock ≠ some k ∧ k < w'.heap.size) := fun k hk => by
    refine ⟨hk.1, fun e => ?_, Nat.lt_of_lt_of_le hk.2.2 hm.size⟩
    rcases hb with hb | hb
    · exact hk.2.1 (hb.symm.trans e)
    · have e1 := hb.symm.trans e
      injection e1 with e1
      have := hk.2.2
      omega
  refine ⟨?_, fun q hq => ?_, fun k e => ?_, ?_, h.xlo, Nat.le_trans hV.low hm.size⟩
  · rw [List.length_append, flat_append]
    simpa [flat] using ho
  · rcases List.mem_append.1 hq with hq | hq
    · exact TmIn.mods hm hD hD2 (hV.kid q hq)
    · simp at hq
      subst hq
      exact TmIn.mods hm hD hD2 hp
  · rcases hb with hb | hb
    · exact h.far k (hb.symm.trans e)
    · have e1 := hb.symm.trans e
      injection e1 with e1
      have := hV.low
      omega
  · exact (Mods.step (S := []) (Mods.ext hV.ext) hm (fun k hk => .inr (Nat.le_trans h.xlo (h.far k (by simpa [ownL] using hk))))).toExt (by simp)
/-- The term of these arguments. -/
theorem RowT.done {X wr : World} {lo : Nat} {v : Value} {M : List TmP} (h : RowT X lo wr v M) (k n : Int) (s : ByteArray) : ∃ A c, v = .slice A M.length c ∧ TmIn (fun i => lo ≤ i ∧ i < wr.heap.size) wr (.mk k n s (M.map (·.1))) A c := by
  obtain ⟨A, c, rfl⟩ := own_value h.own
  refine ⟨A, c, rfl, ?_⟩
  have hc : (M.map (·.1)).length ≤ c := by
    rcases h.own.2 with ⟨h1, h2⟩ | ⟨g', cap', cur, hv, _, _, hnc, _⟩
    · simp only [Value.slice.injEq] at h1
      simp
      omega
    · injection hv with _ _ hc
      subst hc
      simpa using hnc
  refine .mk k n s _ A c (M.map (·.2)) (by simp) (fun j t q ht hq => ?_) (fun hne => ?_) hc
  · rw [List.getElem?_map] at ht hq
    cases hp : M[j]? with
    | none => rw [hp] at ht; simp at ht
    | some p =>
      rw [hp] at ht hq
      simp at ht hq
      subst ht hq
      exact (h.kid p (List.mem_of_getElem? hp)).mono (fun i hi => ⟨hi.1, hi.2.2⟩)
  · have hlen : 0 < M.length := by
      rcases M with _ | ⟨p, M⟩
      · simp at hne
      · simp
    obtain ⟨b, off, rfl, hcell⟩ := Src.form (Src.of_own h.own) hlen (by omega)
    have hb0 : (Value.slice (some ⟨b, off, none⟩) M.length c).ownBlock = some b := rfl
    refine ⟨b, off, rfl, ⟨h.far b hb0, (h.own.lt b hb0).2⟩, fun j t q ht hq => ?_⟩
    rw [List.getElem?_map] at ht hq
    cases hp : M[j]? with
    | none => rw [hp] at ht; simp at ht
    | some p =>
      rw [hp] at ht hq
      simp at ht hq
      subst ht hq
      refine ⟨?_, ?_, ?_, ?_⟩
      · exact hcell (j * 4) _ ((flat_at tmC_len M j 0 p hp (by omega)).trans rfl)
      · exact hcell (j * 4 + 1) _ ((flat_at tmC_len M j 1 p hp (by omega)).trans rfl)
      · exact hcell (j * 4 + 2) _ ((flat_at tmC_len M j 2 p hp (by omega)).trans rfl)
      · exact hcell (j * 4 + 3) _ ((flat_at tmC_len M j 3 p hp (by omega)).trans rfl)

end Go.El
