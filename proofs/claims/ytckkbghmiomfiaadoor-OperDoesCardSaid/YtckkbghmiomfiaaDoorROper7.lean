/- Layer 9, the reference: the walk of Set where it takes an operator away. -/
import Derived.Test.YtckkbghmiomfiaaDoorROper6
namespace Go.Proofs.YtckkbghmiomfiaaDoor
open Go.RowKit Go.El

theorem own_cap {w : World} {e : TypeId} {b n c : Nat} {xs : List Value} (h : w.ownsRow 0 e 3 (.slice (some ⟨b, 0, none⟩) n c) n xs) : n ≤ c := by
  rcases h.2 with ⟨h', _⟩ | ⟨g, cap, cur, h', _, _, h1, _⟩
  · cases h'
  · injection h' with _ _ hc
    omega
theorem own_max {w : World} {e : TypeId} {b n c : Nat} {xs : List Value} (h : w.ownsRow 0 e 3 (.slice (some ⟨b, 0, none⟩) n c) n xs) : c ≤ 9223372036854775807 := by
  rcases h.2 with ⟨h', _⟩ | ⟨g, cap, cur, h', _, _, _, h1, _⟩
  · cases h'
  · injection h' with _ _ hc
    unfold maxLen at h1
    omega
theorem ext_mods {a b c : World} {S : List Nat} (h : Ext a b) (m : Mods S b c) (hS : ∀ k, k ∈ S → a.heap.size ≤ k) : Ext a c :=
  (Mods.step (Mods.ext (S := []) h) m (fun x hx => .inr (hS x hx))).toExt (by simp)

theorem src_drop {w : World} {b m n k : Nat} {xs : List Value} (h : Src w (some ⟨b, 0, none⟩) m k xs) (hn : n ≤ m) : Src w (some ⟨b, n * k, none⟩) (m - n) k (xs.drop (n * k)) := by
  have := h.drop hn
  rwa [Addr.add_lit, Nat.zero_add] at this
theorem own_after {v : Value} {B n : Nat} (hb : v.ownBlock = (Value.slice (some ⟨B, 0, none⟩) 0 0).ownBlock ∨ v.ownBlock = some n) (hn : B ≤ n) : ∀ b, v.ownBlock = some b → B ≤ b := by
  intro b h
  rcases hb with e | e
  · rw [e] at h
    simp [Value.ownBlock] at h
    omega
  · rw [e] at h
    simp at h
    omega
theorem mem_ownL {v : Value} {b : Nat} (h : b ∈ ownL v) : v.ownBlock = some b := by simpa [ownL] using h
theorem erase_flat (L : List OpV) (k : Nat) : [] ++ (flat opCells L).take (k * 3) ++ (flat opCells L).drop ((k + 1) * 3) = flat opCells (L.eraseIdx k) := by
  rw [List.nil_append, flat_take opCells_len, flat_drop opCells_len, ← flat_append, List.eraseIdx_eq_take_drop_succ]

theorem own_erase0 {w : World} {e : TypeId} {v : Value} {L : List OpV} {k : Nat} (h : w.ownsRow 0 e 3 v k ([] ++ (flat opCells L).take (k * 3) ++ [])) (hl : L.length ≤ k + 1) (hk : k < L.length) :
    w.ownsRow 0 e 3 v (L.eraseIdx k).length (flat opCells (L.eraseIdx k)) := by
  have e0 : (flat opCells L).drop ((k + 1) * 3) = [] := List.drop_eq_nil_of_le (by rw [flat_len opCells_len]; omega)
  have e2 := erase_flat L k
  rw [e0] at e2
  rw [e2] at h
  have e1 : (L.eraseIdx k).length = k := by rw [List.length_eraseIdx]; simp [hk]; omega
  rw [e1]
  exact h
theorem own_erase {w : World} {e : TypeId} {v : Value} {L : List OpV} {k : Nat} (h : w.ownsRow 0 e 3 v (k + (L.length - (k + 1))) ([] ++ (flat opCells L).take (k * 3) ++ (flat opCells L).drop ((k + 1) * 3))) (hk : k < L.length) :
    w.ownsRow 0 e 3 v (L.eraseIdx k).length (flat opCells (L.eraseIdx k)) := by
  rw [erase_flat] at h
  have e1 : (L.eraseIdx k).length = k + (L.length - (k + 1)) := by rw [List.length_eraseIdx]; simp [hk]; omega
  rw [e1]
  exact h

set_option maxRecDepth 100000 in
set_option maxHeartbeats 6400000 in
theorem rset_del (rb : Nat) (v : Value) (L : List OpV) (p t : Int) (s : ByteArray) (k : Nat) (w : World) (hmax : L.length ≤ 1000) (h : RefAt 32 w rb v L) (hgood : argBad p t = false) (hname : nameBad s = false) (hp : p = 0) (hi : idxR s (preB t) L = some k) :
    Calls Tryd.prog 41 #[.pointer (some ⟨rb, 0, none⟩), .agg #[.int .i64 p, .int .i64 t, .string s]] w fun e w' => e = .returned (.int .i64 0) ∧ ∃ v', RefAt 32 w' rb v' (L.eraseIdx k) ∧ Mods [rb] w w' ∧ (∀ b, v'.ownBlock = some b → w.heap.size ≤ b) := by
  have h0 := h.cell
  have hlt := cell_lt h0
  obtain ⟨b1, b2, b3, b4⟩ := arg_good hgood
  obtain ⟨n1, n2, n3, n4⟩ := name_good hname
  have hsz : s.size ≤ 9223372036854775807 := by omega
  have hbd := h.bound
  have H := Lib.hid h
  have HI := Lib.hid hi
  have hkl : k < L.length := by
    unfold idxR at hi
    exact (List.findIdx?_eq_some_iff_getElem.1 hi).1
  clear hgood hname hi
  have hp' : (p == 0) = true := by simpa using hp
  have ho : L[k]? = some L[k] := List.getElem?_eq_getElem hkl
  generalize L[k] = o at ho
  rcases h.form with ⟨rfl, rfl⟩ | ⟨g, c, rfl, hcs⟩
  · simp at hkl
  obtain ⟨c0, _⟩ := hcs k o ho
  have hgl : g < w.heap.size := cell_lt c0
  obtain ⟨i0, hi0, hz0, hz1, hz2⟩ := info_parts opInfo
  obtain ⟨tt, hblk⟩ := h.blk
  have hcap : L.length ≤ c := own_cap h.own
  have hcm : c ≤ 9223372036854775807 := own_max h.own
  have HB := Lib.hid hblk
  clear hp h hcs ho hblk c0
  go_enter Tryd.func41, Tryd.ntmps41
  go_upto_region 5 with (go_at_call 58; refine (rPlain_any _ _ hsz).mono ?_; rintro e w' ⟨rfl, rfl⟩)
  refine wp_abs (fun W => Ext w W ∧ W.cell? ⟨w.heap.size, 0, none⟩ = some (.int .i64 p) ∧ W.cell? ⟨w.heap.size, 1, none⟩ = some (.int .i64 t) ∧ W.cell? ⟨w.heap.size, 2, none⟩ = some (.string s)) ⟨ext_box _ _, new_cell (Ext.refl _) 0, new_cell (Ext.refl _) 1, new_cell (Ext.refl _) 2⟩ ?_
  rintro W ⟨hxW, hW0, hW1, hW2⟩
  have k0 := hxW.cell h0
  go_quiet ((first | (go_at_call 46; exact quiet_left (rPrefix_any _ _)) | (go_at_call 42; exact quiet_left (rAt_any rb _ L s (preB t) _ (H.out.ext (hxW.drewN _))))))
  rw [HI.out]
  simp only [idxVal]
  go_upto_region 10 with fail
  refine wp_abs (fun W => Ext w W ∧ W.cell? ⟨w.heap.size, 0, none⟩ = some (.int .i64 p) ∧ W.cell? ⟨w.heap.size, 1, none⟩ = some (.int .i64 t) ∧ W.cell? ⟨w.heap.size, 2, none⟩ = some (.string s)) ⟨hxW.drewN _, hW0, hW1, hW2⟩ ?_
  clear hxW hW0 hW1 hW2 k0
  rintro W ⟨hxW, hW0, hW1, hW2⟩
  have k0 := hxW.cell h0
  have hrb : rb < W.heap.size := cell_lt k0
  have hwb : w.heap.size < W.heap.size := cell_lt hW0
  have hkc : k ≤ c := by omega
  have hk1c : k + 1 ≤ c := by omega
  have hkL : k ≤ L.length := by omega
  have hk1L : k + 1 ≤ L.length := hkl
  have h03 : 0 < 3 := by omega
  have hml : (0 : Nat) ≤ maxLen := by unfold maxLen; omega
  have hb1 : 0 + k ≤ maxLen := by unfold maxLen; omega
  have hb2 : (0 + k) * 32 ≤ 140737488355328 := by omega
  have hb3' : 0 + k + (L.length - (k + 1)) ≤ maxLen := by unfold maxLen; omega
  have hb4 : (0 + k + (L.length - (k + 1))) * 32 ≤ 140737488355328 := by omega
  have hw1 : IntKind.i64.wrap ((k : Int) + 1) = (k : Int) + 1 := IntWalk.i64_in _ (by omega)
  have hkk : (k : Int) ≤ (k : Int) + 1 := by omega
  have hn0 : (0 : Int) ≤ (k : Int) + 1 := by omega
  have hn1 : (k : Int) + 1 ≤ (L.length : Int) := by omega
  have htn : ((k : Int) + 1).toNat = k + 1 := by omega
  by_cases hck : c = k + 1
  · have hlk : L.length ≤ k + 1 := by omega
    subst hck
    go_region_law ((first | (refine step_append_src (P := Tryd.prog) (w := _) rfl (.tmp 74) (.tmp 80) 29 rfl 32 i0 _ 3 32 Tryd.underlying29 hi0 hz0 hz1 hz2 rfl h03 (.slice (some ⟨W.heap.size, 0, none⟩) 0 0) rfl (some ⟨g, 0, none⟩) k (k + 1) rfl 0 [] (World.ownsRow.drew (World.ownsRow_made W #[] 0 (Nat.zero_le _) hml rfl)) ((flat opCells L).take (k * 3)) (((Src.of_own H.out.own).ext ((hxW.alloc _).drew)).take hkL) (fun u hu => flat_one opCells_one L u (List.mem_of_mem_take hu)) hb1 hb2 ?_; intro v3 w3 ho3 hm3 hb3; have hx3 : Ext w w3 := ext_mods ((hxW.alloc _).drew) hm3 (by simp [ownL, Value.ownBlock]; exact hxW.size); have q0 := hx3.cell h0; have HO3 := Lib.hid ho3; have HM3 := Lib.hid (Mods.toExt (Mods.step (Mods.ext (S := []) (((Ext.refl W).alloc _).drew)) hm3 (fun x hx => .inr (own_after (v := .slice (some ⟨W.heap.size, 0, none⟩) 0 0) (n := W.heap.size) (.inl rfl) (Nat.le_refl _) x (mem_ownL hx)))) (by simp)); have HV3 := Lib.hid (own_after (v := v3) hb3 (by simp)); clear ho3 hm3 hb3) | (refine step_append_src (P := Tryd.prog) (w := _) rfl (.tmp 81) (.tmp 88) 29 rfl 32 i0 _ 3 32 Tryd.underlying29 hi0 hz0 hz1 hz2 rfl h03 v3 rfl (some ⟨g, 0, none⟩) 0 _ rfl _ _ HO3.out [] (Src.none _ _ _) (by simp) hb1 hb2 ?_; intro v4 w4 ho4 hm4 hb4x; have HB4 := Lib.hid ((HB.out.ext hx3).mods hm4 (fun hm => absurd (HV3.out rb (mem_ownL hm)) (Nat.not_le.2 hrb))); have q4 : _ = some _ := HB4.out.cell 0; have f4 := HB4.out.frozen 0; rw [Nat.zero_add, Nat.add_zero] at ho4; obtain ⟨A4, c4, rfl⟩ := own_value ho4; have HO4 := Lib.hid ho4; have HM4 := Lib.hid (ext_mods HM3.out hm4 (fun x hx => HV3.out x (mem_ownL hx))); have HV4 := Lib.hid (fun b (hb : (Value.slice A4 k c4).ownBlock = some b) => hb4x.elim (fun e => HV3.out b (e.symm.trans hb)) (fun e => Option.some.inj (e.symm.trans hb) ▸ HM3.out.size)); clear ho4 hm4 hb4x)))
    all_goals
      go_wp2_with fail
      go_ret
      refine ⟨rfl, _, RefAt.stored HB4.out (L := L.eraseIdx k) (own_erase0 HO4.out hlk hkl) (fun e => absurd (HV4.out rb e) (Nat.not_le.2 hrb)), (Mods.ext (hxW.trans HM4.out)).setCell (.inl (by simp)) _, fun b hb => Nat.le_trans hxW.size (HV4.out b hb)⟩
  · go_region_law ((first | (refine step_append_src (P := Tryd.prog) (w := _) rfl (.tmp 74) (.tmp 80) 29 rfl 32 i0 _ 3 32 Tryd.underlying29 hi0 hz0 hz1 hz2 rfl h03 (.slice (some ⟨W.heap.size, 0, none⟩) 0 0) rfl (some ⟨g, 0, none⟩) k c rfl 0 [] (World.ownsRow.drew (World.ownsRow_made W #[] 0 (Nat.zero_le _) hml rfl)) ((flat opCells L).take (k * 3)) (((Src.of_own H.out.own).ext ((hxW.alloc _).drew)).take hkL) (fun u hu => flat_one opCells_one L u (List.mem_of_mem_take hu)) hb1 hb2 ?_; intro v3 w3 ho3 hm3 hb3; have hx3 : Ext w w3 := ext_mods ((hxW.alloc _).drew) hm3 (by simp [ownL, Value.ownBlock]; exact hxW.size); have q0 := hx3.cell h0; have HO3 := Lib.hid ho3; have HM3 := Lib.hid (Mods.toExt (Mods.step (Mods.ext (S := []) (((Ext.refl W).alloc _).drew)) hm3 (fun x hx => .inr (own_after (v := .slice (some ⟨W.heap.size, 0, none⟩) 0 0) (n := W.heap.size) (.inl rfl) (Nat.le_refl _) x (mem_ownL hx)))) (by simp)); have HV3 := Lib.hid (own_after (v := v3) hb3 (by simp)); clear ho3 hm3 hb3) | (refine step_append_src (P := Tryd.prog) (w := _) rfl (.tmp 81) (.tmp 88) 29 rfl 32 i0 _ 3 32 Tryd.underlying29 hi0 hz0 hz1 hz2 rfl h03 v3 rfl (some ⟨g, (k + 1) * 3, none⟩) (L.length - (k + 1)) (c - (k + 1)) rfl _ _ HO3.out ((flat opCells L).drop ((k + 1) * 3)) (src_drop ((Src.of_own H.out.own).ext hx3) hk1L) (fun u hu => flat_one opCells_one L u (List.mem_of_mem_drop hu)) hb3' hb4 ?_; intro v4 w4 ho4 hm4 hb4x; have HB4 := Lib.hid ((HB.out.ext hx3).mods hm4 (fun hm => absurd (HV3.out rb (mem_ownL hm)) (Nat.not_le.2 hrb))); have q4 : _ = some _ := HB4.out.cell 0; have f4 := HB4.out.frozen 0; rw [Nat.zero_add] at ho4; obtain ⟨A4, c4, rfl⟩ := own_value ho4; have HO4 := Lib.hid ho4; have HM4 := Lib.hid (ext_mods HM3.out hm4 (fun x hx => HV3.out x (mem_ownL hx))); have HV4 := Lib.hid (fun b (hb : (Value.slice A4 (k + (L.length - (k + 1))) c4).ownBlock = some b) => hb4x.elim (fun e => HV3.out b (e.symm.trans hb)) (fun e => Option.some.inj (e.symm.trans hb) ▸ HM3.out.size)); clear ho4 hm4 hb4x)))
    all_goals
      go_wp2_with fail
      go_ret
      refine ⟨rfl, _, RefAt.stored HB4.out (L := L.eraseIdx k) (own_erase HO4.out hkl) (fun e => absurd (HV4.out rb e) (Nat.not_le.2 hrb)), (Mods.ext (hxW.trans HM4.out)).setCell (.inl (by simp)) _, fun b hb => Nat.le_trans hxW.size (HV4.out b hb)⟩

end Go.Proofs.YtckkbghmiomfiaaDoor
