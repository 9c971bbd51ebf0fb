/- Layer 6, the reference: the walk of List. -/
import Derived.Test.YtgcdhffeacdegaaGreatDoorC21
import Derived.Test.YtgcdhffeacdegaaGreatDoorC40
import Derived.Test.YtgcdhffeacdegaaGreatDoorC27
namespace Go.Proofs.YtgcdhffeacdegaaGreatDoor
open Go.RowKit Go.El

/-- An item of a row of terms. -/
theorem tm_cells {w : World} {A : Option Addr} {M : List TmP} (h : El.Src w A M.length 4 (flat tmC M)) {k : Nat} {p : TmP} (hk : M[k]? = some p) : ∃ b off, A = some ⟨b, off, none⟩ ∧ w.cell? ⟨b, off + k * 4, none⟩ = some (.int .i64 (Tm.k p.1)) ∧ w.cell? ⟨b, off + k * 4 + 1, none⟩ = some (.int .i64 (Tm.n p.1)) ∧ w.cell? ⟨b, off + k * 4 + 2, none⟩ = some (.string (Tm.s p.1)) ∧ w.cell? ⟨b, off + k * 4 + 3, none⟩ = some (.slice p.2.1 (Tm.l p.1).length p.2.2) := by
  have hlt : k < M.length := (List.getElem?_eq_some_iff.1 hk).1
  obtain ⟨b, off, rfl, hc⟩ := El.Src.form h (by omega) (by omega)
  have hlen : ∀ x : TmP, (tmC x).length = 4 := fun _ => rfl
  exact ⟨b, off, rfl, hc (k * 4) _ (flat_at hlen M k 0 p hk (by omega)), hc (k * 4 + 1) _ (flat_at hlen M k 1 p hk (by omega)), hc (k * 4 + 2) _ (flat_at hlen M k 2 p hk (by omega)), hc (k * 4 + 3) _ (flat_at hlen M k 3 p hk (by omega))⟩
theorem listT_drop {M : List TmP} {j : Nat} {p : TmP} (h : M[j]? = some p) (u : Tm) : listT ((M.drop j).map (·.1)) u = .mk 4 0 dotB [p.1, listT ((M.drop (j + 1)).map (·.1)) u] := by
  have hlt : j < M.length := (List.getElem?_eq_some_iff.1 h).1
  have hp : M[j] = p := (List.getElem?_eq_some_iff.1 h).2
  rw [List.drop_eq_getElem_cons hlt, hp]
  rfl
/-- What is known between two rounds. -/
structure LsSt (D : Nat → Prop) (w W : World) (u : Tm) (M : List TmP) (j : Nat) (t : Tm) (A : Option Addr) (c : Nat) : Prop where
  ext : Ext w W
  tb : Blk W (w.heap.size + 2) 32 #[.int .i64 (Tm.k t), .int .i64 (Tm.n t), .string (Tm.s t), .slice A (Tm.l t).length c]
  zb : Blk W (w.heap.size + 1) 32 #[.int .i64 0, .int .i64 0, .string ⟨#[]⟩, .slice none 0 0]
  tm : TmIn (fun k => D k ∨ (w.heap.size + 3 ≤ k ∧ k < W.heap.size)) W t A c
  eq : t = listT ((M.drop j).map (·.1)) u

set_option maxRecDepth 100000 in
set_option maxHeartbeats 4000000 in
theorem rlist_any (M : List TmP) (A : Option Addr) (c : Nat) (u : Tm) (Au : Option Addr) (cu : Nat) (w : World) (D : Nat → Prop) (hs : El.Src w A M.length 4 (flat tmC M)) (hk : ∀ p ∈ M, TmIn D w p.1 p.2.1 p.2.2) (hu : TmIn D w u Au cu) (hD : ∀ k, D k → k < w.heap.size) (hl : M.length ≤ 70000) :
    Calls Tryz.prog 151 #[.slice A M.length c, .agg #[.int .i64 (Tm.k u), .int .i64 (Tm.n u), .string (Tm.s u), .slice Au (Tm.l u).length cu]] w fun e w' => ∃ A' c', e = .returned (.agg #[.int .i64 (Tm.k (listT (M.map (·.1)) u)), .int .i64 (Tm.n (listT (M.map (·.1)) u)), .string (Tm.s (listT (M.map (·.1)) u)), .slice A' (Tm.l (listT (M.map (·.1)) u)).length c']) ∧ TmIn (fun k => D k ∨ (w.heap.size ≤ k ∧ k < w'.heap.size)) w' (listT (M.map (·.1)) u) A' c' ∧ Ext w w' := by
  have x0 := (((Ext.refl w).alloc (.cells #[.int .i64 (Tm.k u), .int .i64 (Tm.n u), .string (Tm.s u), .slice Au (Tm.l u).length cu] 32)).alloc (.cells #[.int .i64 0, .int .i64 0, .string ⟨#[]⟩, .slice none 0 0] 32)).alloc (.cells #[.int .i64 (Tm.k u), .int .i64 (Tm.n u), .string (Tm.s u), .slice Au (Tm.l u).length cu] 32)
  have b1 := (Blk.new (w.alloc (.cells #[.int .i64 (Tm.k u), .int .i64 (Tm.n u), .string (Tm.s u), .slice Au (Tm.l u).length cu] 32)) 32 #[.int .i64 0, .int .i64 0, .string ⟨#[]⟩, .slice none 0 0]).ext (ext_box4 _ (.cells #[.int .i64 (Tm.k u), .int .i64 (Tm.n u), .string (Tm.s u), .slice Au (Tm.l u).length cu] 32))
  have b2 := Blk.new ((w.alloc (.cells #[.int .i64 (Tm.k u), .int .i64 (Tm.n u), .string (Tm.s u), .slice Au (Tm.l u).length cu] 32)).alloc (.cells #[.int .i64 0, .int .i64 0, .string ⟨#[]⟩, .slice none 0 0] 32)) 32 #[.int .i64 (Tm.k u), .int .i64 (Tm.n u), .string (Tm.s u), .slice Au (Tm.l u).length cu]
  simp only [World.size_alloc] at b1 b2
  have HR0 : Hid (LsSt D w (((w.alloc (.cells #[.int .i64 (Tm.k u), .int .i64 (Tm.n u), .string (Tm.s u), .slice Au (Tm.l u).length cu] 32)).alloc (.cells #[.int .i64 0, .int .i64 0, .string ⟨#[]⟩, .slice none 0 0] 32)).alloc (.cells #[.int .i64 (Tm.k u), .int .i64 (Tm.n u), .string (Tm.s u), .slice Au (Tm.l u).length cu] 32)) u M M.length u Au cu) := Lib.hid ⟨x0, b2, b1, (hu.ext x0).mono (fun k hk => .inl hk), by simp [listT]⟩
  have HS := Lib.hid hs
  have HK := Lib.hid hk
  have HD := Lib.hid hD
  obtain ⟨L, hL⟩ : ∃ L, listT (M.map (·.1)) u = L := ⟨_, rfl⟩
  rw [hL]
  have HLL := Lib.hid hL
  have hl2 : M.length ≤ 70000 := hl
  clear x0 b1 b2 hs hk hu hD hL
  go_enter Tryz.func151, Tryz.ntmps151
  go_upto_region 2 with fail
  generalize ((w.alloc (.cells #[.int .i64 (Tm.k u), .int .i64 (Tm.n u), .string (Tm.s u), .slice Au (Tm.l u).length cu] 32)).alloc (.cells #[.int .i64 0, .int .i64 0, .string ⟨#[]⟩, .slice none 0 0] 32)).alloc (.cells #[.int .i64 (Tm.k u), .int .i64 (Tm.n u), .string (Tm.s u), .slice Au (Tm.l u).length cu] 32) = W0 at *
  go_wp2_with fail
  go_loopw [6] (fun i wr => ∃ j : Nat, ∃ z : Int, ∃ t At ct, j ≤ M.length ∧ i = .int .i64 z ∧ z = (j : Int) - 1 ∧ Hid (LsSt D w wr u M j t At ct)) (fun i _ => (intOf i + 1).toNat)
  case atStart => exact ⟨M.length, _, u, Au, cu, Nat.le_refl _, rfl, rfl, HR0⟩
  case round =>
    obtain ⟨j, z, t, At, ct, hj, rfl, hz, HR⟩ := hrel
    by_cases hj0 : j = 0
    · have hz0 : ¬ (0 ≤ z) := by omega
      have hL : t = L := by
        rw [← HLL.out, HR.out.eq, hj0]
        rfl
      subst hL
      have kt := HR.out.tb.cell
      have kz := HR.out.zb.cell
      have fz := HR.out.zb.frozen
      clear hj hz
      go_wp2_with fail
      have kb := blk_set4 HR.out.zb (.int .i64 (Tm.k t)) (.int .i64 (Tm.n t)) (.string (Tm.s t)) (.slice At (Tm.l t).length ct)
      have kc := kb.cell
      have ht := TmIn.mods (D' := fun k => D k ∨ (w.heap.size ≤ k ∧ k < (set4 _ (w.heap.size + 1) (.int .i64 (Tm.k t)) (.int .i64 (Tm.n t)) (.string (Tm.s t)) (.slice At (Tm.l t).length ct)).heap.size)) (mods_set4 [w.heap.size + 1] _ (w.heap.size + 1) (by simp) (.int .i64 (Tm.k t)) (.int .i64 (Tm.n t)) (.string (Tm.s t)) (.slice At (Tm.l t).length ct)) (fun k hk => by rcases hk with hk | hk; have := HD.out k hk; simp; omega; simp; omega) (fun k hk => by rcases hk with hk | hk; exact .inl hk; refine .inr ⟨by omega, ?_⟩; rw [size_set4]; exact hk.2) HR.out.tm
      refine bodyPost_ret (v := .agg #[.int .i64 (Tm.k t), .int .i64 (Tm.n t), .string (Tm.s t), .slice At (Tm.l t).length ct]) ?_ rfl ⟨At, ct, rfl, ht, ext_set4 HR.out.ext (by omega) _ _ _ _⟩
      simp [results, Tryz.results151, go_sem, kc]
    · obtain ⟨i, rfl⟩ : ∃ i, j = i + 1 := ⟨j - 1, by omega⟩
      obtain rfl : z = (i : Int) := by omega
      have hil : i < M.length := by omega
      obtain ⟨p, hp⟩ : ∃ p, M[i]? = some p := ⟨M[i], List.getElem?_eq_getElem hil⟩
      obtain ⟨b, off, rfl, d0, d1, d2, d3⟩ := tm_cells (HS.out.ext HR.out.ext) hp
      obtain ⟨pt, pA, pc⟩ := p
      dsimp only at d0 d1 d2 d3
      have HM := Lib.hid (List.mem_of_getElem? hp)
      have HEQ := Lib.hid (listT_drop hp u)
      have kt := HR.out.tb.cell
      have hq1 : (i : Int) < (M.length : Int) := by omega
      have hi0 : (0 : Int) ≤ (i : Int) := by omega
      have HCM := fun V (x : Ext wr V) => Lib.hid (refComp_any dotB [(pt, pA, pc), (t, At, ct)] (some ⟨V.heap.size, 0, none⟩) 2 (V.alloc (.cells #[.int .i64 (Tm.k pt), .int .i64 (Tm.n pt), .string (Tm.s pt), .slice pA (Tm.l pt).length pc, .int .i64 (Tm.k t), .int .i64 (Tm.n t), .string (Tm.s t), .slice At (Tm.l t).length ct] 32)) (fun k => (D k ∨ w.heap.size + 3 ≤ k) ∧ k < (V.alloc (.cells #[.int .i64 (Tm.k pt), .int .i64 (Tm.n pt), .string (Tm.s pt), .slice pA (Tm.l pt).length pc, .int .i64 (Tm.k t), .int .i64 (Tm.n t), .string (Tm.s t), .slice At (Tm.l t).length ct] 32)).heap.size) (El.Src.new V #[.int .i64 (Tm.k pt), .int .i64 (Tm.n pt), .string (Tm.s pt), .slice pA (Tm.l pt).length pc, .int .i64 (Tm.k t), .int .i64 (Tm.n t), .string (Tm.s t), .slice At (Tm.l t).length ct] 32 2 4 rfl) (fun e he => by
        have x2 := (Ext.trans HR.out.ext x).alloc (.cells #[.int .i64 (Tm.k pt), .int .i64 (Tm.n pt), .string (Tm.s pt), .slice pA (Tm.l pt).length pc, .int .i64 (Tm.k t), .int .i64 (Tm.n t), .string (Tm.s t), .slice At (Tm.l t).length ct] 32)
        have x3 := Ext.alloc x (.cells #[.int .i64 (Tm.k pt), .int .i64 (Tm.n pt), .string (Tm.s pt), .slice pA (Tm.l pt).length pc, .int .i64 (Tm.k t), .int .i64 (Tm.n t), .string (Tm.s t), .slice At (Tm.l t).length ct] 32)
        simp only [List.mem_cons, List.not_mem_nil, or_false] at he
        rcases he with rfl | rfl
        · exact tm_lt (((HK.out _ HM.out).ext x2).mono (fun k hk => .inl hk))
        · exact tm_lt ((HR.out.tm.ext x3).mono (fun k hk => by rcases hk with hk | hk; exact .inl hk; exact .inr hk.1))) (by simp) (by simp) (fun k hk => hk.2))
      simp only [List.length_cons, List.length_nil, Nat.reduceAdd, dotB] at HCM
      clear hp hz hj hj0
      go_upto_region 5 with fail
      go_region_law ((go_simp; go_at_call 33; refine (HCM _ (Ext.refl _).drew).out.mono ?_; rintro e WA ⟨A9, c9, rfl, ht9, hx9⟩; have TA := Lib.hid ht9; have XA := Lib.hid (((Ext.refl _).drew.alloc (.cells #[.int .i64 (Tm.k pt), .int .i64 (Tm.n pt), .string (Tm.s pt), .slice pA (Tm.l pt).length pc, .int .i64 (Tm.k t), .int .i64 (Tm.n t), .string (Tm.s t), .slice At (Tm.l t).length ct] 32)).trans hx9); have HX9 := Lib.hid hx9; have zc := (HR.out.tb.ext XA.out).cell; have zf := (HR.out.tb.ext XA.out).frozen; clear ht9 hx9))
      all_goals
        go_wp2_with fail
        go_roundw
        case measure => simp [intOf]
        case rel =>
          refine ⟨i, (i : Int) - 1, .mk 4 0 dotB [pt, t], A9, c9, by omega, rfl, rfl, Lib.hid ⟨ext_set4 (HR.out.ext.trans XA.out) (by omega) _ _ _ _, blk_s4 (HR.out.tb.ext XA.out) _ _ _ _, blk_set4_far (HR.out.zb.ext XA.out) (by omega) _ _ _ _, ?_, by rw [HEQ.out, ← HR.out.eq]⟩⟩
          refine TmIn.mods (mods_set4 [w.heap.size + 2] WA (w.heap.size + 2) (by simp) _ _ _ _) (fun k hk => ?_) (fun k hk => ?_) TA.out
          · have hW := HR.out.tb.lt
            rcases hk with ⟨hk | hk, _⟩ | hk
            · have := HD.out k hk; simp; omega
            · simp; omega
            · have h1 := hk.1; simp at h1; simp; omega
          · have hW := HR.out.tb.lt
            have h9 := HX9.out.size
            simp only [World.size_setCell]
            rcases hk with ⟨hk | hk, h2⟩ | hk
            · exact .inl hk
            · exact .inr ⟨hk, by omega⟩
            · have h1 := hk.1; simp at h1; exact .inr ⟨by omega, hk.2⟩
end Go.Proofs.YtgcdhffeacdegaaGreatDoor
