/- Layer 15, the program: what slots are sorted by; slices.SortFunc of spans. -/
import Derived.Test.YtmnnhdegoapfcaaGreatDoorP32
import Derived.Shelf.SlSortCmp.NoneTotal
import Derived.Laws.OwnMore
namespace Go.El
open Go.RowKit Go.Sort Go.Proofs
instance : Inhabited Spn := ⟨⟨0, 0, 0⟩⟩
theorem flatK_sp (M : List Spn) (t : Nat) (ht : t < M.length * 3) : some (flatK spC 3 M.toArray)[t]! = (flat spC M)[t]? := by
 have hk : t / 3 < M.length := by omega
 have ho : M[t / 3]? = some M[t / 3] := List.getElem?_eq_getElem hk
 have h3 : t % 3 < 3 := Nat.mod_lt _ (by omega)
 rw [get_flatK _ _ _ _ (by simpa using ht)]
 have e1 : M.toArray[t / 3]! = M[t / 3] := by rw [getElem!_pos _ _ (by simpa using hk)]; simp
 rw [e1]
 have := flat_at spC_len M (t / 3) (t % 3) _ ho h3
 have e2 : t / 3 * 3 + t % 3 = t := by omega
 rw [e2] at this
 rw [this, getElem!_pos _ _ (by rw [spC_len]; exact h3)]
 exact (List.getElem?_eq_getElem _).symm
theorem holds_sp {w : World} {e : TypeId} {g c : Nat} {L : List Spn} (h : w.ownsRow 0 e 3 (.slice (some ⟨g, 0, none⟩) L.length c) L.length (flat spC L)) : HoldsK spC 3 w g 0 L.toArray := by
 intro t ht
 have ht' : t < L.length * 3 := by simpa using ht
 refine ⟨?_, ?_⟩
 ·rw [Nat.zero_add, h.cellAt t ht', ← flatK_sp L t ht']
  rfl
 ·rw [Nat.zero_add]
  exact h.frozenAt t
theorem sorted_sp {w : World} {e : TypeId} {g c n : Nat} {os : Array Obj} {L M : List Spn} (h : w.ownsRow 0 e 3 (.slice (some ⟨g, 0, none⟩) L.length c) L.length (flat spC L)) (hM : M.length = L.length) :
  (sortWorldK spC 3 w g 0 n M.toArray os).ownsRow 0 e 3 (.slice (some ⟨g, 0, none⟩) M.length c) M.length (flat spC M) ∧ Mods [g] w (sortWorldK spC 3 w g 0 n M.toArray os) := by
 rcases h.2 with ⟨hv, _⟩ | ⟨g', cap, cur, hv, hb0, hb, hle, hmx, hsz, _⟩
 ·cases hv
 ·injection hv with e1 e2 e3
  injection e1 with e1
  injection e1 with e1
  subst e1 e3
  have hlt : g < w.heap.size := heap_lt hb
  have hg : (sortWorldK spC 3 w g 0 n M.toArray os).heap[g]? = some (.cells (putCells id 0 (flatK spC 3 M.toArray) cur) e (0, 0)) := by
   unfold sortWorldK grow putRowK putRow mapBlock Go.Sort.ahead
   show (w.heap.modify g _ ++ os)[g]? = _
   rw [Array.getElem?_append_left (by simpa using hlt), Array.getElem?_modify]
   simp [hb, onCells]
  refine ⟨⟨flat_len spC_len M, .inr ⟨g, c, _, rfl, Nat.zero_le _, hg, by omega, hmx, ?_, ?_⟩⟩, ⟨rfl, rfl, rfl, ?_, fun k hk hS => ?_⟩⟩
  ·simp [putCells, hsz]
  ·refine List.ext_getElem? fun t => ?_
   rw [List.getElem?_take]
   split
   ·next ht =>
    rw [← flatK_sp M t ht]
    have : t < cur.size := by rw [hsz]; omega
    simp [putCells, this, ht]
   ·next ht => exact (List.getElem?_eq_none (by rw [flat_len spC_len M]; omega)).symm
  ·simp [sortWorldK, grow, putRowK, putRow, mapBlock, Go.Sort.ahead]
  ·have hne : g ≠ k := fun e => hS (by simp [e])
   unfold sortWorldK grow putRowK putRow mapBlock Go.Sort.ahead
   show (w.heap.modify g _ ++ os)[k]? = _
   rw [Array.getElem?_append_left (by simpa using hk), Array.getElem?_modify, if_neg hne]
def orI (x y : Int) : Int := if x = 0 then y else x
def cmpN (x y : Int) : Int := if x < y then -1 else if y < x then 1 else 0
def cmpSp (x y : Spn) : Int := orI (cmpN y.b x.b) (cmpN x.n y.n)
theorem cmpSp_lt (x y : Spn) : ltOf cmpSp x y = spLt x y := by
 unfold ltOf spLt
 rw [Bool.eq_iff_iff]
 simp only [decide_eq_true_eq, Bool.or_eq_true, Bool.and_eq_true]
 unfold cmpSp orI cmpN
 by_cases h1 : y.b < x.b
 ·simp [h1]
 ·by_cases h2 : x.b < y.b
  ·simp [h1, h2]
   omega
  ·have e : x.b = y.b := by omega
   by_cases h3 : x.n < y.n
   ·simp [e, h3]
   ·by_cases h4 : y.n < x.n
    ·simp [e, h3, h4]
    ·simp [e, h3, h4]
theorem spLt_irrefl (x : Spn) : spLt x x = false := by simp [spLt]
theorem spLt_iff {x y : Spn} : spLt x y = true ↔ y.b < x.b ∨ (x.b = y.b ∧ x.n < y.n) := by simp [spLt]
theorem spLt_no {x y : Spn} : spLt x y = false ↔ ¬ (y.b < x.b ∨ (x.b = y.b ∧ x.n < y.n)) := by
 rw [← spLt_iff]
 simp
theorem spLt_trans (x y z : Spn) (h : spLt x y = true) (k : spLt y z = true) : spLt x z = true := by
 rw [spLt_iff] at h k ⊢
 omega
theorem spLt_ntrans (x y z : Spn) (h : spLt x y = false) (k : spLt y z = false) : spLt x z = false := by
 rw [spLt_no] at h k ⊢
 omega
theorem cmpSp_swo : SWO (ltOf cmpSp) := ⟨fun x => by rw [cmpSp_lt]; exact spLt_irrefl x, fun x y z => by rw [cmpSp_lt, cmpSp_lt, cmpSp_lt]; exact spLt_trans x y z, fun x y z => by rw [cmpSp_lt, cmpSp_lt, cmpSp_lt]; exact spLt_ntrans x y z⟩
end Go.El
namespace Go.Proofs.YtmnnhdegoapfcaaGreatDoor
open Go.RowKit Go.El Go.Sort Go.Shelf Go.Proofs
theorem nan_int (x : Int) (w : World) : Calls Tryz.prog 162 #[.int .i64 x] w fun e w' => e = .returned (.bool false) ∧ w = w' := by
 go_enter Tryz.func162, Tryz.ntmps162
 go_wp2_with fail
 go_ret
 exact ⟨rfl, rfl⟩
def Gr (w w' : World) : Prop := ∃ q os, w' = grow (w.drewN q) os
theorem Gr.trans {a b c : World} (h : Gr a b) (k : Gr b c) : Gr a c := by
 obtain ⟨q, os, rfl⟩ := h
 obtain ⟨q', os', rfl⟩ := k
 exact ⟨q + q', os ++ os', by show grow (grow ((a.drewN q).drewN q') os) os' = _; rw [grow_grow, World.drewN_drewN]⟩
theorem Gr.refl (w : World) : Gr w w := ⟨0, #[], by rw [grow_empty]; rfl⟩
theorem Gr.alloc {a b : World} (h : Gr a b) (o : Obj) : Gr a (b.alloc o) := h.trans ⟨0, _, alloc_eq_grow _ _⟩
theorem Gr.drew {a b : World} (h : Gr a b) : Gr a b.drew := h.trans ⟨1, #[], by rw [grow_empty]; rfl⟩
theorem Gr.drewN {a b : World} (h : Gr a b) (n : Nat) : Gr a (b.drewN n) := h.trans ⟨n, #[], by rw [grow_empty]⟩
theorem Gr.cell {a b : World} (h : Gr a b) {p : Addr} {v : Value} (hc : a.cell? p = some v) : b.cell? p = some v := by
 obtain ⟨q, os, rfl⟩ := h
 exact cell_grown (World.block_lt_of_cell? _ _ hc) hc q os
set_option maxHeartbeats 800000 in
theorem compare_int (x y : Int) (w : World) : Calls Tryz.prog 130 #[.int .i64 x, .int .i64 y] w fun e w' => e = .returned (.int .i64 (cmpN x y)) ∧ w = w' := by
 obtain ⟨z, hz⟩ : ∃ z, z = cmpN x y := ⟨_, rfl⟩
 rw [← hz]
 unfold cmpN at hz
 rcases Int.lt_trichotomy x y with h | h | h
 ·rw [if_pos h] at hz
  subst hz
  go_enter Tryz.func130, Tryz.ntmps130
  go_wp2_with (go_at_call 162; refine (nan_int _ _).mono ?_; rintro e w' ⟨rfl, rfl⟩)
  go_ret
  exact ⟨rfl, rfl⟩
 ·subst h
  rw [if_neg (Int.lt_irrefl _), if_neg (Int.lt_irrefl _)] at hz
  subst hz
  go_enter Tryz.func130, Tryz.ntmps130
  go_wp2_with (go_at_call 162; refine (nan_int _ _).mono ?_; rintro e w' ⟨rfl, rfl⟩)
  go_ret
  exact ⟨rfl, rfl⟩
 ·have h' : ¬ x < y := by omega
  rw [if_neg h', if_pos h] at hz
  subst hz
  go_enter Tryz.func130, Tryz.ntmps130
  go_wp2_with (go_at_call 162; refine (nan_int _ _).mono ?_; rintro e w' ⟨rfl, rfl⟩)
  go_ret
  exact ⟨rfl, rfl⟩
set_option maxHeartbeats 800000 in
theorem or_any (x y : Int) (b c : Nat) (w : World) (h0 : w.cell? ⟨b, 0, none⟩ = some (.int .i64 x)) (h1 : w.cell? ⟨b, 1, none⟩ = some (.int .i64 y)) :
  Calls Tryz.prog 129 #[.slice (some ⟨b, 0, none⟩) 2 c] w fun e w' => e = .returned (.int .i64 (orI x y)) ∧ w = w' := by
 obtain ⟨z, hz⟩ : ∃ z, z = orI x y := ⟨_, rfl⟩
 rw [← hz]
 unfold orI at hz
 by_cases hx : x = 0
 ·subst hx
  rw [if_pos rfl] at hz
  subst hz
  by_cases hy : z = 0
  ·subst hy
   go_enter Tryz.func129, Tryz.ntmps129
   go_wp2_with fail
   go_loop [8] (fun i => i = .int .i64 0 ∨ i = .int .i64 1 ∨ i = .int .i64 2) (fun i => 2 - (intOf i).toNat)
   case atStart => exact .inl rfl
   case round =>
    rcases hrel with rfl | rfl | rfl
    ·go_wp2_with fail
     first | exact ⟨.inr (.inl rfl), by decide⟩ | exact ⟨.inl rfl, by decide⟩
    ·go_wp2_with fail
     first | exact ⟨.inr (.inr rfl), by decide⟩ | exact ⟨.inr rfl, by decide⟩
    ·go_wp2_with fail
     go_ret
     exact ⟨rfl, rfl⟩
  ·have hy' : (z == 0) = false := by simpa using hy
   clear hy
   go_enter Tryz.func129, Tryz.ntmps129
   go_wp2_with fail
   go_loop [8] (fun i => i = .int .i64 0 ∨ i = .int .i64 1) (fun i => 2 - (intOf i).toNat)
   case atStart => exact .inl rfl
   case round =>
    rcases hrel with rfl | rfl
    ·go_wp2_with fail
     exact ⟨.inr rfl, by decide⟩
    ·go_wp2_with fail
     go_ret
     exact ⟨rfl, rfl⟩
 ·rw [if_neg hx] at hz
  subst hz
  have hx' : (z == 0) = false := by simpa using hx
  clear hx
  go_enter Tryz.func129, Tryz.ntmps129
  go_wp2_with fail
  go_loop [8] (fun i => i = .int .i64 0) (fun i => 2 - (intOf i).toNat)
  case atStart => rfl
  case round =>
   obtain rfl := hrel
   go_wp2_with fail
   go_ret
   exact ⟨rfl, rfl⟩
theorem cmpSp_keep {w a b : World} {p s p2 s2 : Int} (k : Gr a b) (h : (a.cell? ⟨w.heap.size, 0, none⟩ = some (.int .i64 p) ∧ a.cell? ⟨w.heap.size, 2, none⟩ = some (.int .i64 s) ∧ a.cell? ⟨w.heap.size + 1, 0, none⟩ = some (.int .i64 p2) ∧ a.cell? ⟨w.heap.size + 1, 2, none⟩ = some (.int .i64 s2) ∧ Hid (Gr w a))) : (b.cell? ⟨w.heap.size, 0, none⟩ = some (.int .i64 p) ∧ b.cell? ⟨w.heap.size, 2, none⟩ = some (.int .i64 s) ∧ b.cell? ⟨w.heap.size + 1, 0, none⟩ = some (.int .i64 p2) ∧ b.cell? ⟨w.heap.size + 1, 2, none⟩ = some (.int .i64 s2) ∧ Hid (Gr w b)) := by
 obtain ⟨h1, h3, h4, h6, h7⟩ := h
 exact ⟨k.cell h1, k.cell h3, k.cell h4, k.cell h6, Gr.trans (Hid.out h7) k⟩
set_option maxRecDepth 100000 in
set_option maxHeartbeats 4000000 in
theorem cmpSp_any (a b : Spn) (w : World) : Calls Tryz.prog 128 #[.agg (spC a).toArray, .agg (spC b).toArray] w fun e w' => e = .returned (.int .i64 (cmpSp a b)) ∧ Gr w w' := by
 obtain ⟨p, t, s⟩ := a
 obtain ⟨p2, t2, s2⟩ := b
 obtain ⟨z, hz⟩ : ∃ z, z = cmpSp ⟨p, t, s⟩ ⟨p2, t2, s2⟩ := ⟨_, rfl⟩
 rw [← hz]
 have HZ := Lib.hid hz
 clear hz
 simp only [spC]
 go_enter Tryz.func128, Tryz.ntmps128
 go_upto_region 1 with fail
 refine wp_abs (fun W => Gr w W ∧ W.cell? ⟨w.heap.size, 0, none⟩ = some (.int .i64 p) ∧ W.cell? ⟨w.heap.size, 2, none⟩ = some (.int .i64 s) ∧ W.cell? ⟨w.heap.size + 1, 0, none⟩ = some (.int .i64 p2) ∧ W.cell? ⟨w.heap.size + 1, 2, none⟩ = some (.int .i64 s2)) ⟨((Gr.refl _).alloc _).alloc _, ?_⟩ ?_
 ·have b1 := Blk.new w 135 #[Value.int .i64 p, .int .i64 t, .int .i64 s]
  have b1' := b1.ext (ext_box _ (.cells #[Value.int .i64 p2, .int .i64 t2, .int .i64 s2] 135))
  have b2 := Blk.new (w.alloc (.cells #[Value.int .i64 p, .int .i64 t, .int .i64 s] 135)) 135 #[Value.int .i64 p2, .int .i64 t2, .int .i64 s2]
  rw [World.size_alloc] at b2
  exact ⟨b1'.cell 0, b1'.cell 2, b2.cell 0, b2.cell 2⟩
 rintro W ⟨hW, c0, c2, d0, d2⟩
 have hS0 := cmpSp_keep (Gr.drew (Gr.refl W)) ⟨c0, c2, d0, d2, hW⟩
 have HW := Lib.hid hW
 clear hW
 go_region_held3 (fun w' => w'.cell? ⟨w.heap.size, 0, none⟩ = some (.int .i64 p) ∧ w'.cell? ⟨w.heap.size, 2, none⟩ = some (.int .i64 s) ∧ w'.cell? ⟨w.heap.size + 1, 0, none⟩ = some (.int .i64 p2) ∧ w'.cell? ⟨w.heap.size + 1, 2, none⟩ = some (.int .i64 s2) ∧ Hid (Gr w w'))
  (first | assumption | (exact cmpSp_keep (by assumption) (by assumption)) | (exact cmpSp_keep (Gr.alloc (Gr.refl _) _) (by assumption)) | (exact cmpSp_keep (Gr.drew (Gr.refl _)) (by assumption)))
  (first | (go_at_call 130; refine (compare_int _ _ _).mono ?_; rintro e w' ⟨rfl, rfl⟩) | (go_at_call 129; refine (or_any _ _ _ _ _ ((Blk.new _ _ _).cell 0) ((Blk.new _ _ _).cell 1)).mono ?_; rintro e w' ⟨rfl, rfl⟩))
 obtain ⟨_, _, _, _, hG⟩ := ‹_ ∧ _ ∧ _ ∧ _ ∧ Hid (Gr w _)›
 have hfin := HZ.out
 unfold cmpSp at hfin
 dsimp only at hfin
 have HF := Lib.hid hfin
 clear hfin
 go_wp2_with fail
 go_ret
 exact ⟨by rw [HF.out]; rfl, hG.out⟩
theorem sSort (v : Value) (L : List Spn) (w : World) (hL : L.length ≤ 1000000) (h : w.ownsRow 0 135 3 v L.length (flat spC L)) :
  Calls Tryz.prog 127 #[v, .func (.func 128) #[] #[]] w fun e w' => e = .returned (.tuple #[]) ∧ ∃ M, M.Perm L ∧ M.Pairwise (fun a b => spLt b a = false) ∧ w'.ownsRow 0 135 3 v M.length (flat spC M) ∧ Mods (ownL v) w w' := by
 rcases Nat.eq_zero_or_pos L.length with h0 | h0
 ·obtain ⟨A, c, rfl⟩ := own_value h
  have hn := AnyF.slices_SortFunc_none { Tryz.sortOp with } A c (.func (.func 128) #[] #[]) w
  rw [h0]
  refine hn.mono fun e w' ⟨e1, e2⟩ => ⟨e1, L, List.Perm.refl _, ?_, ?_, ?_⟩
  ·rw [List.eq_nil_of_length_eq_zero h0]; exact List.Pairwise.nil
  ·rw [h0] at h; rw [e2, h0]; exact h
  ·rw [e2]; exact Mods.refl _ _
 ·rcases h.2 with ⟨_, hn⟩ | ⟨g, c, cur, rfl, hb0, hb, _⟩
  ·omega
  have hcon := AnyQ.slices_SortFunc Tryz.sortOp 3 Tryz.isAgg135 Tryz.sizeOf135 spC (fun _ => rfl) spC_one cmpSp cmpSp_swo 128 #[] g 0 c L.toArray w (enters_of Tryz.func128 (by kernel_rfl) rfl) (fun m os dk _ x y => cmpSp_any x y _) (holds_sp h) (heap_lt hb) (by simp; omega)
  have hd : L.toArray.size = L.length := by simp
  rw [hd] at hcon
  change Calls Tryz.prog 127 _ _ _ at hcon
  refine hcon.mono ?_
  rintro e w' ⟨e1, d', n, os, hp, hs, hw⟩
  obtain ⟨p1, _, p3⟩ := hp
  rw [hd] at p1
  have x1 : d'.extract 0 L.length = d' := by rw [← p1]; simp
  have x2 : L.toArray.extract 0 L.length = L.toArray := by rw [← hd]; simp
  rw [x1, x2] at p3
  have hso := sorted_sp (n := n) (os := os) (M := d'.toList) h (by simpa using p1)
  have hda : d'.toList.toArray = d' := by simp
  rw [hda, ← hw] at hso
  have hlen : d'.toList.length = L.length := by simpa using p1
  refine ⟨e1, d'.toList, by simpa using p3, ?_, ?_, ?_⟩
  ·rw [List.pairwise_iff_getElem]
   intro i j hi hj hij
   have := hs i j (Nat.zero_le _) hij (by simpa [p1] using hj)
   rw [cmpSp_lt, getElem!_pos _ _ (by simpa using hj), getElem!_pos _ _ (by simpa using hi)] at this
   simpa using this
  ·rw [← hlen]
   exact hso.1
  ·exact hso.2.mono (by simp [ownL, Value.ownBlock])
end Go.Proofs.YtmnnhdegoapfcaaGreatDoor

/- Layer 15, the program: slices.DeleteFunc of spans. -/
namespace Go.El
open Go.RowKit
theorem flat_set (x : Spn) : ∀ (R : List Spn) (i : Nat), i < R.length → flat spC (R.set i x) = (((flat spC R).set (i * 3) (.int .i64 x.n)).set (i * 3 + 1) (.int .i64 x.a)).set (i * 3 + 2) (.int .i64 x.b)
 | [], i, h => by simp at h
 | y :: R, 0, _ => rfl
 | y :: R, i + 1, h => by
  have ih := flat_set x R i (by simpa using h)
  have e : (i + 1) * 3 = i * 3 + 1 + 1 + 1 := by omega
  have e2 : flat spC (y :: R) = .int .i64 y.n :: .int .i64 y.a :: .int .i64 y.b :: flat spC R := rfl
  have e3 : flat spC ((y :: R).set (i + 1) x) = .int .i64 y.n :: .int .i64 y.a :: .int .i64 y.b :: flat spC (R.set i x) := rfl
  rw [e2, e3, ih, e]
  rfl
theorem own_take {w : World} {base g cap n i : Nat} {e : TypeId} {L : List Spn} (h : w.ownsRow base e 3 (.slice (some ⟨g, 0, none⟩) n cap) n (flat spC L)) (hi : i ≤ n) (hn : n = L.length) : w.ownsRow base e 3 (.slice (some ⟨g, 0, none⟩) i cap) i (flat spC (L.take i)) := by
 rcases h.2 with ⟨h', _⟩ | ⟨g', cap', cur, h', hb, hg, hnc, hcm, hcs, htake⟩
 ·simp at h'
 ·simp only [Value.slice.injEq, Option.some.injEq, Addr.mk.injEq, and_true, true_and] at h'
  obtain ⟨rfl, rfl⟩ := h'
  have hft : flat spC (L.take i) = (flat spC L).take (i * 3) := by
   subst hn
   refine List.ext_getElem? (fun j => ?_)
   rw [List.getElem?_take]
   have hm : j / 3 * 3 + j % 3 = j := by omega
   have h3 : j % 3 < 3 := Nat.mod_lt _ (by omega)
   by_cases hj : j < i * 3
   ·rw [if_pos hj]
    have hl : j / 3 < L.length := by omega
    have ho : L[j / 3]? = some L[j / 3] := List.getElem?_eq_getElem hl
    have ho2 : (L.take i)[j / 3]? = some L[j / 3] := by rw [List.getElem?_take, if_pos (by omega), ho]
    have a1 := flat_at spC_len L _ _ _ ho h3
    have a2 := flat_at spC_len (L.take i) _ _ _ ho2 h3
    rw [hm] at a1 a2
    rw [a1, a2]
   ·rw [if_neg hj]
    exact List.getElem?_eq_none (by rw [flat_len spC_len, List.length_take]; have := Nat.min_le_left i L.length; omega)
  refine ⟨by rw [flat_len spC_len, List.length_take]; omega, .inr ⟨g, cap, cur, rfl, hb, hg, by omega, hcm, hcs, ?_⟩⟩
  rw [hft, ← htake, List.take_take]
  congr 1
  have := Nat.mul_le_mul_right 3 hi
  omega
theorem own_beyond {base g cap n : Nat} {e : TypeId} {xs : List Value} : ∀ (vs : List Value) (o : Nat) {w : World}, w.ownsRow base e 3 (.slice (some ⟨g, 0, none⟩) n cap) n xs → n * 3 ≤ o → (w.setCells g o vs).ownsRow base e 3 (.slice (some ⟨g, 0, none⟩) n cap) n xs
 | [], o, w, h, _ => h
 | v :: r, o, w, h, ho => by
  rw [World.setCells]
  have h1 := (h.stored o v).1
  rw [List.set_eq_of_length_le (by rw [h.1]; exact ho)] at h1
  exact own_beyond r (o + 1) h1 (by omega)
theorem mods_cells (b : Nat) : ∀ (vs : List Value) (o : Nat) (w : World), Mods [b] w (w.setCells b o vs)
 | [], _, w => Mods.refl _ w
 | v :: r, o, w => by
  rw [World.setCells]
  exact ((Mods.refl [b] w).setCell (p := ⟨b, o, none⟩) (.inl (by simp)) v).trans (mods_cells b r (o + 1) _)
structure DelP (L R : List Spn) (i j : Nat) : Prop where
 len : R.length = L.length
 le : i < j
 kept : R.take i = (L.take j).filter perm
 rest : R.drop j = L.drop j
theorem DelP.start {L : List Spn} {i : Nat} {x : Spn} (hn : ∀ (j : Nat) (y : Spn), j < i → L[j]? = some y → dlS y = false) (hi : L[i]? = some x) (hx : dlS x = true) : DelP L L i (i + 1) := by
 refine ⟨rfl, by omega, ?_, rfl⟩
 obtain ⟨h1, h2⟩ := List.getElem?_eq_some_iff.1 hi
 rw [List.take_succ_eq_append_getElem h1, List.filter_append, h2]
 have e : [x].filter perm = [] := by
  have : perm x = false := by simpa [dlS] using hx
  simp [this]
 rw [e, List.append_nil]
 symm
 refine List.filter_eq_self.2 (fun y hy => ?_)
 obtain ⟨j, hj⟩ := List.mem_iff_getElem?.1 hy
 rw [List.getElem?_take] at hj
 split at hj
 ·next hj2 =>
  have := hn j y hj2 hj
  simpa [dlS] using this
 ·cases hj
theorem DelP.get {L R : List Spn} {i j : Nat} (h : DelP L R i j) : R[j]? = L[j]? := by
 have := congrArg (fun l => l[0]?) h.rest
 simpa using this
theorem DelP.no {L R : List Spn} {i j : Nat} {x : Spn} (h : DelP L R i j) (hj : L[j]? = some x) (hx : dlS x = true) : DelP L R i (j + 1) := by
 obtain ⟨h1, h2⟩ := List.getElem?_eq_some_iff.1 hj
 have hp : perm x = false := by simpa [dlS] using hx
 refine ⟨h.len, by have := h.le; omega, ?_, ?_⟩
 ·rw [h.kept, List.take_succ_eq_append_getElem h1, List.filter_append, h2]
  simp [hp]
 ·have := congrArg List.tail h.rest
  simpa using this
theorem DelP.yes {L R : List Spn} {i j : Nat} {x : Spn} (h : DelP L R i j) (hj : L[j]? = some x) (hx : dlS x = false) : DelP L (R.set i x) (i + 1) (j + 1) := by
 obtain ⟨h1, h2⟩ := List.getElem?_eq_some_iff.1 hj
 have hp : perm x = true := by simpa [dlS] using hx
 have hle := h.le
 have hl := h.len
 refine ⟨by rw [List.length_set]; exact hl, by omega, ?_, ?_⟩
 ·rw [List.take_succ_eq_append_getElem (by rw [List.length_set]; omega), List.take_set_of_le (Nat.le_refl _), h.kept, List.take_succ_eq_append_getElem h1, List.filter_append, h2]
  simp [hp]
 ·have := congrArg List.tail h.rest
  rw [List.drop_set_of_lt (by omega)]
  simpa using this
theorem DelP.done {L R : List Spn} {i j : Nat} (h : DelP L R i j) (hj : L.length ≤ j) : R.take i = L.filter perm := by
 rw [h.kept, List.take_of_length_le hj]
end Go.El
namespace Go.Proofs.YtmnnhdegoapfcaaGreatDoor
open Go.RowKit Go.El
theorem clear_sp (w : World) (g o n c : Nat) (ty : TypeId) (hn : 0 < n) (hc : ∀ j, j < n * 3 → (w.cell? ⟨g, o + j, none⟩).isSome = true) (hf : ∀ j, j < n * 3 → w.frozen? ⟨g, o + j, none⟩ = false) :
  ∃ vs : List Value, (Builtin.clear_ #[132] ty #[.slice (some ⟨g, o, none⟩) n c]).run Tryz.prog w = .ok (.tuple #[]) (w.setCells g o vs) := by
 obtain ⟨m, rfl⟩ : ∃ m, n = m + 1 := ⟨n - 1, by omega⟩
 have hz : (Builtin.zeroCells #[Value.int .i64 0, .int .i64 0, .int .i64 0] (m + 1)).toList.length = (m + 1) * 3 := by simp [Builtin.zeroCells]
 have h1 : ∀ v ∈ (Builtin.zeroCells #[Value.int .i64 0, .int .i64 0, .int .i64 0] (m + 1)).toList, v.oneCell' = true := by
  intro v hv
  simp only [Builtin.zeroCells, Array.toList_map, List.mem_map] at hv
  obtain ⟨i, _, rfl⟩ := hv
  have hm : i % 3 < 3 := Nat.mod_lt _ (by omega)
  show (#[Value.int .i64 0, .int .i64 0, .int .i64 0][i % 3]!).oneCell' = true
  generalize i % 3 = j at hm
  match j, hm with
  | 0, _ => rfl
  | 1, _ => rfl
  | 2, _ => rfl
 have hst := run_storeCells_cells (P := Tryz.prog) g o _ 0 w (by rw [hz]; simpa using hc) (by rw [hz]; simpa using hf) h1
 refine ⟨(Builtin.zeroCells #[Value.int .i64 0, .int .i64 0, .int .i64 0] (m + 1)).toList, ?_⟩
 simp only [Nat.add_zero] at hst
 have hcz : (Value.agg #[Value.int .i64 0, .int .i64 0, .int .i64 0]).cells = #[Value.int .i64 0, .int .i64 0, .int .i64 0] := rfl
 simp [Builtin.clear_, run_underlying Tryz.underlying132, hcz, hst]
set_option maxRecDepth 100000 in
set_option maxHeartbeats 8000000 in
theorem sDelete (v : Value) (L : List Spn) (w : World) (h : w.ownsRow 0 135 3 v L.length (flat spC L)) (hl : L.length ≤ 1000000) :
  Calls Tryz.prog 125 #[v, .func (Fn.func 126) #[] #[]] w fun e w' => ∃ v', e = .returned v' ∧ w'.ownsRow 0 135 3 v' (L.filter perm).length (flat spC (L.filter perm)) ∧ v'.ownBlock = v.ownBlock ∧ Mods (ownL v) w w' := by
 have H := Lib.hid h
 obtain ⟨A, c, rfl⟩ := own_value h
 have HI := Lib.hid (sIndexDel L A c w (El.Src.of_own h) (by omega))
 clear h
 cases hfi : L.findIdx? dlS with
 | none =>
  have hid : idxS dlS L = -1 := by unfold idxS; rw [hfi]
  have hfl : L.filter perm = L := List.filter_eq_self.2 (fun x hx => by
   have := List.findIdx?_eq_none_iff.1 hfi x hx
   simpa [dlS] using this)
  rw [hid] at HI
  have HFL := Lib.hid hfl
  clear hid hfi hfl
  go_enter Tryz.func125, Tryz.ntmps125
  go_wp2_with (go_at_call 83; refine HI.out.mono ?_; rintro e W1 ⟨rfl, hx⟩; have HX1 := Lib.hid hx; clear hx)
  go_ret
  exact ⟨_, rfl, by rw [HFL.out]; exact own_ext H.out HX1.out, rfl, Mods.ext HX1.out⟩
 | some i0 =>
  have hid : idxS dlS L = i0 := by unfold idxS; rw [hfi]
  obtain ⟨hi0, hd0, hn0⟩ := List.findIdx?_eq_some_iff_getElem.1 hfi
  have HP0 := Lib.hid (DelP.start (L := L) (i := i0) (x := L[i0]) (fun j y hj hy => by
   obtain ⟨a1, a2⟩ := List.getElem?_eq_some_iff.1 hy
   have := hn0 j hj
   rw [a2] at this
   simpa using this) (List.getElem?_eq_getElem hi0) hd0)
  rw [hid] at HI
  have hne : ((i0 : Int) == -1) = false := by rw [beq_eq_false_iff_ne]; omega
  obtain ⟨g, rfl⟩ : ∃ g, A = some ⟨g, 0, none⟩ := by
   rcases H.out.2 with ⟨_, h0⟩ | ⟨g, cap, cur, hv, _⟩
   ·omega
   ·injection hv with h1 h2 h3
    exact ⟨g, h1⟩
  have hcap : L.length ≤ c := by
   rcases H.out.2 with ⟨h1, h0⟩ | ⟨g, cap, cur, hv, _, _, hnc, _⟩
   ·omega
   ·injection hv with h1 h2 h3
    omega
  clear hid hfi hd0 hn0
  go_enter Tryz.func125, Tryz.ntmps125
  go_upto_region 5 with (go_at_call 83; refine HI.out.mono ?_; rintro e W1 ⟨rfl, hx⟩; have HX1 := Lib.hid hx; clear hx)
  go_loopw [5, 6] (fun iv jv wr => ∃ (i j : Nat) (R : List Spn), j ≤ L.length ∧ iv = .int .i64 i ∧ jv = .int .i64 j ∧ i < j ∧ R.length = L.length ∧ Hid (DelP L R i j) ∧ Hid (wr.ownsRow 0 135 3 (.slice (some ⟨g, 0, none⟩) L.length c) L.length (flat spC R)) ∧ Hid (Mods [g] w wr)) (fun _ jv _ => L.length - (intOf jv).toNat)
  case atStart => exact ⟨i0, i0 + 1, L, hi0, rfl, by go_num, by omega, rfl, HP0, Lib.hid (own_ext H.out HX1.out), Lib.hid (Mods.ext HX1.out)⟩
  case round =>
   clear HP0 HX1 HI hne
   obtain ⟨i, j, R, hj, rfl, rfl, hij, hRl, HP, HO, HD⟩ := hrel
   by_cases hlt : j < L.length
   ·have ho : L[j]? = some L[j] := List.getElem?_eq_getElem hlt
    generalize L[j] = x at ho
    obtain ⟨sn, sa, sb⟩ := x
    have HOL := Lib.hid ho
    have hor : R[j]? = some ⟨sn, sa, sb⟩ := HP.out.get.trans ho
    have y : ∀ q, q < 3 → wr.cell? ⟨g, j * 3 + q, none⟩ = (spC ⟨sn, sa, sb⟩)[q]? := fun q hq => by
     rw [HO.out.cellAt _ (by omega)]
     exact flat_at spC_len R j q _ hor hq
    have y0 : wr.cell? ⟨g, j * 3, none⟩ = some (.int .i64 sn) := y 0 (by omega)
    have y1 : wr.cell? ⟨g, j * 3 + 1, none⟩ = some (.int .i64 sa) := y 1 (by omega)
    have y2 : wr.cell? ⟨g, j * 3 + 2, none⟩ = some (.int .i64 sb) := y 2 (by omega)
    clear ho hor y
    go_upto_region 8 with fail
    refine wp_abs (fun W => Hid (Ext wr W) ∧ Hid (Blk W wr.heap.size 135 #[.int .i64 sn, .int .i64 sa, .int .i64 sb])) ⟨ext_box _ _, Blk.new _ _ _⟩ ?_
    rintro W ⟨HE, HU⟩
    have u9 := HU.out.cell
    have HC := Lib.hid (del_any sn sa sb W)
    have hgl : g < wr.heap.size := cell_lt y0
    clear y0 y1 y2
    generalize wr.heap.size = bx at *
    cases hq : dlS ⟨sn, sa, sb⟩
    ·rw [hq] at HC
     have HP2 := Lib.hid (HP.out.yes HOL.out hq)
     clear hq
     go_upto_region 9 with (go_at_call 126; refine HC.out.mono ?_; rintro e W1 ⟨rfl, hx⟩; have HO1 := Lib.hid (own_ext HO.out (HE.out.trans hx)); have HD1 := Lib.hid (HD.out.trans (Mods.ext (HE.out.trans hx))); have z9 := (HU.out.ext hx).cell; clear hx)
     have k0 : (W1.cell? ⟨g, i * 3, none⟩).isSome = true := by rw [HO1.out.cellAt _ (by omega), List.getElem?_eq_getElem (by rw [flat_len spC_len]; omega)]; rfl
     have k1 : (W1.cell? ⟨g, i * 3 + 1, none⟩).isSome = true := by rw [HO1.out.cellAt _ (by omega), List.getElem?_eq_getElem (by rw [flat_len spC_len]; omega)]; rfl
     have k2 : (W1.cell? ⟨g, i * 3 + 2, none⟩).isSome = true := by rw [HO1.out.cellAt _ (by omega), List.getElem?_eq_getElem (by rw [flat_len spC_len]; omega)]; rfl
     obtain ⟨c0, hc0⟩ := Option.isSome_iff_exists.1 k0
     obtain ⟨c1, hc1⟩ := Option.isSome_iff_exists.1 k1
     obtain ⟨c2, hc2⟩ := Option.isSome_iff_exists.1 k2
     have fz := HO1.out.frozenAt
     have HO2 : Hid ((((W1.setCell ⟨g, i * 3, none⟩ (.int .i64 sn)).setCell ⟨g, i * 3 + 1, none⟩ (.int .i64 sa)).setCell ⟨g, i * 3 + 2, none⟩ (.int .i64 sb)).ownsRow 0 135 3 (.slice (some ⟨g, 0, none⟩) L.length c) L.length (flat spC (R.set i ⟨sn, sa, sb⟩))) := Lib.hid (by
      rw [flat_set _ _ _ (by omega)]
      exact (((HO1.out.stored (i * 3) (.int .i64 sn)).1.stored (i * 3 + 1) (.int .i64 sa)).1.stored (i * 3 + 2) (.int .i64 sb)).1)
     have HD2 := Lib.hid (((HD1.out.setCell (p := ⟨g, i * 3, none⟩) (.inl (by simp)) (.int .i64 sn)).setCell (p := ⟨g, i * 3 + 1, none⟩) (.inl (by simp)) (.int .i64 sa)).setCell (p := ⟨g, i * 3 + 2, none⟩) (.inl (by simp)) (.int .i64 sb))
     clear k0 k1 k2
     go_upto_region 10 with fail
     generalize ((W1.setCell ⟨g, i * 3, none⟩ (.int .i64 sn)).setCell ⟨g, i * 3 + 1, none⟩ (.int .i64 sa)).setCell ⟨g, i * 3 + 2, none⟩ (.int .i64 sb) = W2 at HO2 HD2 ⊢
     clear hc0 hc1 hc2 fz z9 u9
     go_wp2_with fail
     go_roundw
     case rel => exact ⟨i + 1, j + 1, _, hlt, by go_num, by go_num, by omega, by rw [List.length_set]; exact hRl, HP2, HO2, HD2⟩
     case measure => simp [intOf]; omega
    ·rw [hq] at HC
     have HP2 := Lib.hid (HP.out.no HOL.out hq)
     clear hq
     go_wp2_with (go_at_call 126; refine HC.out.mono ?_; rintro e W1 ⟨rfl, hx⟩; have HO1 := Lib.hid (own_ext HO.out (HE.out.trans hx)); have HD1 := Lib.hid (HD.out.trans (Mods.ext (HE.out.trans hx))); clear hx)
     go_roundw
     case rel => exact ⟨i, j + 1, R, hlt, rfl, by go_num, by omega, hRl, HP2, HO1, HD1⟩
     case measure => simp [intOf]; omega
   ·obtain rfl : j = L.length := by omega
    have hdone := HP.out.done (Nat.le_refl _)
    have hlen : (L.filter perm).length = i := by rw [← hdone, List.length_take]; omega
    have hcn : ¬ c = i := by omega
    have hc0 : ¬ c = 0 := by omega
    have hil : (i : Int) ≤ (L.length : Int) := by omega
    have hic : (i : Int) ≤ (c : Int) := by omega
    have HOT := own_take HO.out (i := i) (by omega) hRl.symm
    rw [hdone] at HOT
    obtain ⟨vs, hcl⟩ := clear_sp wr g (i * 3) (L.length - i) (c - i) 0 (by omega) (fun q hq => by rw [HO.out.cellAt _ (by omega), List.getElem?_eq_getElem (by rw [flat_len spC_len]; omega)]; rfl) (fun q _ => HO.out.frozenAt _)
    have HR : Hid ((wr.setCells g (i * 3) vs).ownsRow 0 135 3 (.slice (some ⟨g, 0, none⟩) i c) (L.filter perm).length (flat spC (L.filter perm)) ∧ Mods [g] w (wr.setCells g (i * 3) vs)) := Lib.hid ⟨by rw [hlen]; exact own_beyond vs (i * 3) HOT (by omega), HD.out.trans (mods_cells g vs (i * 3) wr)⟩
    clear HOT hdone hlen HP hj
    go_wp2_with fail
    go_ret
    exact ⟨_, rfl, HR.out.1, rfl, HR.out.2⟩
end Go.Proofs.YtmnnhdegoapfcaaGreatDoor
