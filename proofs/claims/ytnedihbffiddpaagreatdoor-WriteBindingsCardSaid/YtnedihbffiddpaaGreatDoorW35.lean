/- Layer 6, the reference: rows of terms that are there; Int, Var, Atom, Comp. -/
import Derived.Test.YtnedihbffiddpaaGreatDoorW7
namespace Go.Proofs.YtnedihbffiddpaaGreatDoor
open Go.RowKit Go.El

/-- Terms that lie in a row. -/
theorem src_tm {w : World} {A : Option Addr} {c : Nat} {M : List TmP} {D : Nat → Prop} (hs : El.Src w A M.length 4 (flat tmC M)) (hk : ∀ p ∈ M, TmIn D w p.1 p.2.1 p.2.2) (hD : ∀ b off, A = some ⟨b, off, none⟩ → D b) (hc : M.length ≤ c) (k n : Int) (s : ByteArray) : TmIn D w (.mk k n s (M.map (·.1))) A c := by
  refine .mk k n s _ A c (M.map (·.2)) (by simp) (fun j t q ht hq => ?_) (fun hne => ?_) (by simpa using hc)
  · rw [List.getElem?_map] at ht hq
    cases hp : M[j]? with
    | none => rw [hp] at ht; simp at ht
    | some p =>
      rw [hp] at ht hq
      simp at ht hq
      subst ht hq
      exact hk p (List.mem_of_getElem? hp)
  · have hlen : 0 < M.length := by
      rcases M with _ | ⟨p, M⟩
      · simp at hne
      · simp
    obtain ⟨b, off, rfl, hcell⟩ := Src.form hs hlen (by omega)
    refine ⟨b, off, rfl, hD b off rfl, fun j t q ht hq => ?_⟩
    rw [List.getElem?_map] at ht hq
    cases hp : M[j]? with
    | none => rw [hp] at ht; simp at ht
    | some p =>
      rw [hp] at ht hq
      simp at ht hq
      subst ht hq
      refine ⟨?_, ?_, ?_, ?_⟩
      · exact hcell (j * 4) _ ((flat_at tmC_len M j 0 p hp (by omega)).trans rfl)
      · exact hcell (j * 4 + 1) _ ((flat_at tmC_len M j 1 p hp (by omega)).trans rfl)
      · exact hcell (j * 4 + 2) _ ((flat_at tmC_len M j 2 p hp (by omega)).trans rfl)
      · exact hcell (j * 4 + 3) _ ((flat_at tmC_len M j 3 p hp (by omega)).trans rfl)
theorem own_empty (X : World) (t : TypeId) (k : Nat) : (X.alloc (.cells #[] t)).ownsRow 0 t k (.slice (some ⟨X.heap.size, 0, none⟩) 0 0) 0 [] := World.ownsRow_lit X #[] 0 (Nat.zero_le _) (by unfold maxLen; omega) (by simp)
theorem own_cap {w : World} {A : Option Addr} {n c : Nat} {t : TypeId} {k : Nat} {xs : List Value} (h : w.ownsRow 0 t k (.slice A n c) n xs) : n ≤ c := by
  rcases h.2 with ⟨h1, h2⟩ | ⟨g', cap', cur, hv, _, _, hnc, _⟩
  · simp only [Value.slice.injEq] at h1
    omega
  · injection hv with _ _ hc
    subst hc
    simpa using hnc

set_option maxRecDepth 100000 in
theorem refVar_any (n : Int) (w : World) :
    Calls Tryz.prog 20 #[.int .i64 n] w fun e w' => e = .returned (.agg #[.int .i64 1, .int .i64 n, .string ⟨#[]⟩, .slice none 0 0]) ∧ Ext w w' := by
  go_enter Tryz.func20, Tryz.ntmps20
  go_wp2_with fail
  have hE := (Ext.refl w).alloc (.cells #[.int .i64 1, .int .i64 n, .string ⟨#[]⟩, .slice none 0 0] 27)
  have hB := Blk.new w 27 #[.int .i64 1, .int .i64 n, .string ⟨#[]⟩, .slice none 0 0]
  generalize w.alloc (.cells #[.int .i64 1, .int .i64 n, .string ⟨#[]⟩, .slice none 0 0] 27) = V at hE hB ⊢
  have r0 : V.cell? ⟨w.heap.size, 0, none⟩ = some (.int .i64 1) := hB.cell 0
  have r1 : V.cell? ⟨w.heap.size, 1, none⟩ = some (.int .i64 n) := hB.cell 1
  have r2 : V.cell? ⟨w.heap.size, 2, none⟩ = some (.string ⟨#[]⟩) := hB.cell 2
  have r3 : V.cell? ⟨w.heap.size, 3, none⟩ = some (.slice none 0 0) := hB.cell 3
  refine bodyPost_ret (v := .agg #[.int .i64 1, .int .i64 n, .string ⟨#[]⟩, .slice none 0 0]) (by simp [results, Tryz.results20, go_sem, r0, r1, r2, r3]) rfl ⟨rfl, hE⟩
set_option maxRecDepth 100000 in
theorem refInt_any (n : Int) (w : World) :
    Calls Tryz.prog 19 #[.int .i64 n] w fun e w' => e = .returned (.agg #[.int .i64 2, .int .i64 n, .string ⟨#[]⟩, .slice none 0 0]) ∧ Ext w w' := by
  go_enter Tryz.func19, Tryz.ntmps19
  go_wp2_with fail
  have hE := (Ext.refl w).alloc (.cells #[.int .i64 2, .int .i64 n, .string ⟨#[]⟩, .slice none 0 0] 27)
  have hB := Blk.new w 27 #[.int .i64 2, .int .i64 n, .string ⟨#[]⟩, .slice none 0 0]
  generalize w.alloc (.cells #[.int .i64 2, .int .i64 n, .string ⟨#[]⟩, .slice none 0 0] 27) = V at hE hB ⊢
  have r0 : V.cell? ⟨w.heap.size, 0, none⟩ = some (.int .i64 2) := hB.cell 0
  have r1 : V.cell? ⟨w.heap.size, 1, none⟩ = some (.int .i64 n) := hB.cell 1
  have r2 : V.cell? ⟨w.heap.size, 2, none⟩ = some (.string ⟨#[]⟩) := hB.cell 2
  have r3 : V.cell? ⟨w.heap.size, 3, none⟩ = some (.slice none 0 0) := hB.cell 3
  refine bodyPost_ret (v := .agg #[.int .i64 2, .int .i64 n, .string ⟨#[]⟩, .slice none 0 0]) (by simp [results, Tryz.results19, go_sem, r0, r1, r2, r3]) rfl ⟨rfl, hE⟩
set_option maxRecDepth 100000 in
theorem refAtom_any (s : ByteArray) (w : World) :
    Calls Tryz.prog 39 #[.string s] w fun e w' => e = .returned (.agg #[.int .i64 3, .int .i64 0, .string s, .slice none 0 0]) ∧ Ext w w' := by
  go_enter Tryz.func39, Tryz.ntmps39
  go_wp2_with fail
  have hE := (Ext.refl w).alloc (.cells #[.int .i64 3, .int .i64 0, .string s, .slice none 0 0] 27)
  have hB := Blk.new w 27 #[.int .i64 3, .int .i64 0, .string s, .slice none 0 0]
  generalize w.alloc (.cells #[.int .i64 3, .int .i64 0, .string s, .slice none 0 0] 27) = V at hE hB ⊢
  have r0 : V.cell? ⟨w.heap.size, 0, none⟩ = some (.int .i64 3) := hB.cell 0
  have r1 : V.cell? ⟨w.heap.size, 1, none⟩ = some (.int .i64 0) := hB.cell 1
  have r2 : V.cell? ⟨w.heap.size, 2, none⟩ = some (.string s) := hB.cell 2
  have r3 : V.cell? ⟨w.heap.size, 3, none⟩ = some (.slice none 0 0) := hB.cell 3
  refine bodyPost_ret (v := .agg #[.int .i64 3, .int .i64 0, .string s, .slice none 0 0]) (by simp [results, Tryz.results39, go_sem, r0, r1, r2, r3]) rfl ⟨rfl, hE⟩

set_option maxRecDepth 100000 in
set_option maxHeartbeats 4000000 in
theorem refComp_any (s : ByteArray) (M : List TmP) (A : Option Addr) (c : Nat) (w : World) (D : Nat → Prop) (hs : El.Src w A M.length 4 (flat tmC M)) (hk : ∀ p ∈ M, TmIn D w p.1 p.2.1 p.2.2) (hn : M ≠ []) (hl : M.length ≤ 1000) (hD : ∀ k, D k → k < w.heap.size) :
    Calls Tryz.prog 18 #[.string s, .slice A M.length c] w fun e w' => ∃ A' c', e = .returned (.agg #[.int .i64 4, .int .i64 0, .string s, .slice A' M.length c']) ∧ TmIn (fun k => D k ∨ (w.heap.size ≤ k ∧ k < w'.heap.size)) w' (.mk 4 0 s (M.map (·.1))) A' c' ∧ Ext w w' := by
  obtain ⟨i1, hi1, hz0, hz1, hz2⟩ := infoP tmInfo4
  have q1 : ((M.length : Int) == 0) = false := by
    have : M.length ≠ 0 := fun e => hn (List.eq_nil_of_length_eq_zero e)
    simpa using this
  have HO := Lib.hid (own_empty (w.alloc (.cells #[.int .i64 0, .int .i64 0, .string ⟨#[]⟩, .slice none 0 0] 27)) 27 4)
  rw [World.size_alloc] at HO
  have HS := Lib.hid (hs.ext (((Ext.refl w).alloc (.cells #[.int .i64 0, .int .i64 0, .string ⟨#[]⟩, .slice none 0 0] 27)).alloc (.cells #[] 27)))
  have hone : ∀ u ∈ flat tmC M, u.oneCell' = true := fun u hu => by
    obtain ⟨p, _, h⟩ := List.mem_flatMap.1 hu
    exact tmC_one p u h
  have HONE := Lib.hid hone
  have HK := Lib.hid hk
  have HD := Lib.hid hD
  clear hs hn hone hk hD
  go_enter Tryz.func18, Tryz.ntmps18
  go_wp2_with (at_builtin; refine wpList_append_src (P := Tryz.prog) rfl (.tmp 11) (.tmp 12) 23 rfl 27 i1 _ 4 56 Tryz.underlying23 hi1 hz0 hz1 hz2 rfl (by omega) (.slice (some ⟨w.heap.size + 1, 0, none⟩) 0 0) rfl _ _ _ rfl 0 [] HO.out (flat tmC M) HS.out HONE.out (by unfold maxLen; omega) (by omega) ?_; intro v3 w3 ho3 hm3 hb3; rw [Nat.zero_add, List.nil_append] at ho3; obtain ⟨A3, c3, rfl⟩ := own_value ho3; have hB3 := ((Blk.new w 27 #[.int .i64 0, .int .i64 0, .string ⟨#[]⟩, .slice none 0 0]).alloc (.cells #[] 27)).mods hm3 (by simp [ownL, Value.ownBlock]); have zc := hB3.cell; have zf := hB3.frozen; have HO3 := Lib.hid ho3; have HM3 := Lib.hid hm3; have HB3 := Lib.hid hB3; have HV3 := Lib.hid hb3; clear ho3 hm3 hB3 hb3)
  have hbf := (((HB3.out.set_ 0 (.int .i64 4)).set_ 1 (.int .i64 0)).set_ 2 (.string s)).set_ 3 (.slice A3 M.length c3)
  have hlt := HB3.out.lt
  have hown : ∀ k, (Value.slice A3 M.length c3).ownBlock = some k → w.heap.size + 1 ≤ k ∧ k < w3.heap.size := fun k e => by
    refine ⟨?_, (HO3.out.lt k e).2⟩
    rcases HV3.out with h | h
    · rw [h] at e
      simp [Value.ownBlock] at e
      omega
    · rw [h] at e
      simp [World.size_alloc] at e
      omega
  have hE3 : Ext w w3 := ext_mods (((Ext.refl w).alloc _).alloc _) HM3.out (fun k hk => by simp [ownL, Value.ownBlock] at hk; omega)
  have hno : (Value.slice A3 M.length c3).ownBlock ≠ some w.heap.size := fun e => by have := (hown _ e).1; omega
  have hO := ownsRow_setCell_other (ownsRow_setCell_other (ownsRow_setCell_other (ownsRow_setCell_other HO3.out (a := ⟨w.heap.size, 0, none⟩) hno (.int .i64 4)) (a := ⟨w.heap.size, 1, none⟩) hno (.int .i64 0)) (a := ⟨w.heap.size, 2, none⟩) hno (.string s)) (a := ⟨w.heap.size, 3, none⟩) hno (.slice A3 M.length c3)
  have hEF := (((hE3.setCell (p := ⟨w.heap.size, 0, none⟩) (by simp) (.int .i64 4)).setCell (p := ⟨w.heap.size, 1, none⟩) (by simp) (.int .i64 0)).setCell (p := ⟨w.heap.size, 2, none⟩) (by simp) (.string s)).setCell (p := ⟨w.heap.size, 3, none⟩) (by simp) (.slice A3 M.length c3)
  have hsz : ((((w3.setCell ⟨w.heap.size, 0, none⟩ (.int .i64 4)).setCell ⟨w.heap.size, 1, none⟩ (.int .i64 0)).setCell ⟨w.heap.size, 2, none⟩ (.string s)).setCell ⟨w.heap.size, 3, none⟩ (.slice A3 M.length c3)).heap.size = w3.heap.size := by simp
  generalize (((w3.setCell ⟨w.heap.size, 0, none⟩ (.int .i64 4)).setCell ⟨w.heap.size, 1, none⟩ (.int .i64 0)).setCell ⟨w.heap.size, 2, none⟩ (.string s)).setCell ⟨w.heap.size, 3, none⟩ (.slice A3 M.length c3) = VF at hbf hO hEF hsz ⊢
  have r0 : VF.cell? ⟨w.heap.size, 0, none⟩ = some (.int .i64 4) := hbf.cell 0
  have r1 : VF.cell? ⟨w.heap.size, 1, none⟩ = some (.int .i64 0) := hbf.cell 1
  have r2 : VF.cell? ⟨w.heap.size, 2, none⟩ = some (.string s) := hbf.cell 2
  have r3 : VF.cell? ⟨w.heap.size, 3, none⟩ = some (.slice A3 M.length c3) := hbf.cell 3
  refine bodyPost_ret (v := .agg #[.int .i64 4, .int .i64 0, .string s, .slice A3 M.length c3]) (by simp [results, Tryz.results18, go_sem, r0, r1, r2, r3]) rfl ⟨A3, c3, rfl, ?_, hEF⟩
  refine src_tm (Src.of_own hO) (fun p hp => ((HK.out p hp).ext hEF).mono (fun k hk => .inl hk)) (fun b off e => ?_) (own_cap hO) 4 0 s
  subst e
  have := hown b rfl
  exact .inr ⟨by omega, by omega⟩

end Go.Proofs.YtnedihbffiddpaaGreatDoor
