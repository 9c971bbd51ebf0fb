/- Layer 9 (oper): what All sorts by. -/
import Derived.Test.YtckkbghmiomfiaaDoorOper13
import Derived.Shelf.SlSortCmp.NoneTotal
namespace Go.Proofs.YtckkbghmiomfiaaDoor
open Go.RowKit Go.El Go.Sort

theorem nan_str (s : ByteArray) (w : World) : Calls Tryd.prog 56 #[.string s] w fun e w' => e = .returned (.bool false) ∧ w = w' := by
  go_enter Tryd.func56, Tryd.ntmps56
  go_wp2_with fail
  go_ret
  exact ⟨rfl, rfl⟩
theorem nan_int (x : Int) (w : World) : Calls Tryd.prog 57 #[.int .i64 x] w fun e w' => e = .returned (.bool false) ∧ w = w' := by
  go_enter Tryd.func57, Tryd.ntmps57
  go_wp2_with fail
  go_ret
  exact ⟨rfl, rfl⟩

def kindI (t : Int) : Int := if preB t then 1 else 0
/-- What lies in w lies as it lay; blocks have been laid, draws made. -/
def Gr (w w' : World) : Prop := ∃ q os, w' = grow (w.drewN q) os
theorem Gr.trans {a b c : World} (h : Gr a b) (k : Gr b c) : Gr a c := by
  obtain ⟨q, os, rfl⟩ := h
  obtain ⟨q', os', rfl⟩ := k
  exact ⟨q + q', os ++ os', by show grow (grow ((a.drewN q).drewN q') os) os' = _; rw [grow_grow, World.drewN_drewN]⟩
theorem Gr.refl (w : World) : Gr w w := ⟨0, #[], by rw [grow_empty]; rfl⟩
theorem Gr.alloc {a b : World} (h : Gr a b) (o : Obj) : Gr a (b.alloc o) := h.trans ⟨0, _, alloc_eq_grow _ _⟩
theorem Gr.drew {a b : World} (h : Gr a b) : Gr a b.drew := h.trans ⟨1, #[], by rw [grow_empty]; rfl⟩
theorem Gr.drewN {a b : World} (h : Gr a b) (n : Nat) : Gr a (b.drewN n) := h.trans ⟨n, #[], by rw [grow_empty]⟩
theorem Gr.cell {a b : World} (h : Gr a b) {p : Addr} {v : Value} (hc : a.cell? p = some v) : b.cell? p = some v := by
  obtain ⟨q, os, rfl⟩ := h
  exact cell_grown (World.block_lt_of_cell? _ _ hc) hc q os

theorem kind_grow (p t : Int) (s : ByteArray) (w : World) : Calls Tryd.prog 39 #[.agg #[.int .i64 p, .int .i64 t, .string s]] w fun e w' => e = .returned (.int .i64 (kindI t)) ∧ Gr w w' := by
  cases hp : preB t
  all_goals
    go_enter Tryd.func39, Tryd.ntmps39
    go_wp2_with (go_at_call 44; refine (isPrefix_any _ _).mono ?_; rintro e w' ⟨rfl, rfl⟩)
    go_ret
    exact ⟨by unfold kindI; rw [hp]; rfl, (Gr.refl _).alloc _⟩

/-- How two texts, two numbers lie. -/
def cmpS (x y : ByteArray) : Int := if Op.bytesLess x.toList y.toList = true then -1 else if (x.toList == y.toList) = true then 0 else 1
def orI (x y : Int) : Int := if x = 0 then y else x
def cmpN (x y : Int) : Int := if x < y then -1 else if y < x then 1 else 0

set_option maxHeartbeats 800000 in
theorem compare_str (x y : ByteArray) (w : World) : Calls Tryd.prog 37 #[.string x, .string y] w fun e w' => e = .returned (.int .i64 (cmpS x y)) ∧ w = w' := by
  obtain ⟨z, hz⟩ : ∃ z, z = cmpS x y := ⟨_, rfl⟩
  rw [← hz]
  unfold cmpS at hz
  cases h1 : Op.bytesLess x.toList y.toList <;> cases h2 : (x.toList == y.toList) <;> rw [h1, h2] at hz <;> simp at hz <;> subst hz
  all_goals
    go_enter Tryd.func37, Tryd.ntmps37
    go_wp2_with (go_at_call 56; refine (nan_str _ _).mono ?_; rintro e w' ⟨rfl, rfl⟩)
    go_ret
    exact ⟨rfl, rfl⟩

set_option maxHeartbeats 800000 in
theorem compare_int (x y : Int) (w : World) : Calls Tryd.prog 38 #[.int .i64 x, .int .i64 y] w fun e w' => e = .returned (.int .i64 (cmpN x y)) ∧ w = w' := by
  obtain ⟨z, hz⟩ : ∃ z, z = cmpN x y := ⟨_, rfl⟩
  rw [← hz]
  unfold cmpN at hz
  rcases Int.lt_trichotomy x y with h | h | h
  · rw [if_pos h] at hz
    subst hz
    go_enter Tryd.func38, Tryd.ntmps38
    go_wp2_with (go_at_call 57; refine (nan_int _ _).mono ?_; rintro e w' ⟨rfl, rfl⟩)
    go_ret
    exact ⟨rfl, rfl⟩
  · subst h
    rw [if_neg (Int.lt_irrefl _), if_neg (Int.lt_irrefl _)] at hz
    subst hz
    go_enter Tryd.func38, Tryd.ntmps38
    go_wp2_with (go_at_call 57; refine (nan_int _ _).mono ?_; rintro e w' ⟨rfl, rfl⟩)
    go_ret
    exact ⟨rfl, rfl⟩
  · have h' : ¬ x < y := by omega
    rw [if_neg h', if_pos h] at hz
    subst hz
    go_enter Tryd.func38, Tryd.ntmps38
    go_wp2_with (go_at_call 57; refine (nan_int _ _).mono ?_; rintro e w' ⟨rfl, rfl⟩)
    go_ret
    exact ⟨rfl, rfl⟩

set_option maxHeartbeats 800000 in
theorem or_any (x y : Int) (b c : Nat) (w : World) (h0 : w.cell? ⟨b, 0, none⟩ = some (.int .i64 x)) (h1 : w.cell? ⟨b, 1, none⟩ = some (.int .i64 y)) :
    Calls Tryd.prog 36 #[.slice (some ⟨b, 0, none⟩) 2 c] w fun e w' => e = .returned (.int .i64 (orI x y)) ∧ w = w' := by
  obtain ⟨z, hz⟩ : ∃ z, z = orI x y := ⟨_, rfl⟩
  rw [← hz]
  unfold orI at hz
  by_cases hx : x = 0
  · subst hx
    rw [if_pos rfl] at hz
    subst hz
    by_cases hy : z = 0
    · subst hy
      go_enter Tryd.func36, Tryd.ntmps36
      go_wp2_with fail
      go_loop [8] (fun i => i = .int .i64 0 ∨ i = .int .i64 1 ∨ i = .int .i64 2) (fun i => 2 - (intOf i).toNat)
      case atStart => exact .inl rfl
      case round =>
        rcases hrel with rfl | rfl | rfl
        · go_wp2_with fail
          first | exact ⟨.inr (.inl rfl), by decide⟩ | exact ⟨.inl rfl, by decide⟩
        · go_wp2_with fail
          first | exact ⟨.inr (.inr rfl), by decide⟩ | exact ⟨.inr rfl, by decide⟩
        · go_wp2_with fail
          go_ret
          exact ⟨rfl, rfl⟩
    · have hy' : (z == 0) = false := by simpa using hy
      clear hy
      go_enter Tryd.func36, Tryd.ntmps36
      go_wp2_with fail
      go_loop [8] (fun i => i = .int .i64 0 ∨ i = .int .i64 1) (fun i => 2 - (intOf i).toNat)
      case atStart => exact .inl rfl
      case round =>
        rcases hrel with rfl | rfl
        · go_wp2_with fail
          exact ⟨.inr rfl, by decide⟩
        · go_wp2_with fail
          go_ret
          exact ⟨rfl, rfl⟩
  · rw [if_neg hx] at hz
    subst hz
    have hx' : (z == 0) = false := by simpa using hx
    clear hx
    go_enter Tryd.func36, Tryd.ntmps36
    go_wp2_with fail
    go_loop [8] (fun i => i = .int .i64 0) (fun i => 2 - (intOf i).toNat)
    case atStart => rfl
    case round =>
      obtain rfl := hrel
      go_wp2_with fail
      go_ret
      exact ⟨rfl, rfl⟩

/-- How two operators lie: by name, then infix ahead of prefix. -/
def cmpO (a b : OpV) : Int := orI (cmpS a.s b.s) (cmpN (kindI a.t) (kindI b.t))

theorem cmp_keep {w a b : World} {p t p2 t2 : Int} {s s2 : ByteArray} (k : Gr a b) (h : (a.cell? ⟨w.heap.size, 0, none⟩ = some (.int .i64 p) ∧ a.cell? ⟨w.heap.size, 1, none⟩ = some (.int .i64 t) ∧ a.cell? ⟨w.heap.size, 2, none⟩ = some (.string s) ∧ a.cell? ⟨w.heap.size + 1, 0, none⟩ = some (.int .i64 p2) ∧ a.cell? ⟨w.heap.size + 1, 1, none⟩ = some (.int .i64 t2) ∧ a.cell? ⟨w.heap.size + 1, 2, none⟩ = some (.string s2) ∧ Hid (Gr w a))) : (b.cell? ⟨w.heap.size, 0, none⟩ = some (.int .i64 p) ∧ b.cell? ⟨w.heap.size, 1, none⟩ = some (.int .i64 t) ∧ b.cell? ⟨w.heap.size, 2, none⟩ = some (.string s) ∧ b.cell? ⟨w.heap.size + 1, 0, none⟩ = some (.int .i64 p2) ∧ b.cell? ⟨w.heap.size + 1, 1, none⟩ = some (.int .i64 t2) ∧ b.cell? ⟨w.heap.size + 1, 2, none⟩ = some (.string s2) ∧ Hid (Gr w b)) := by
  obtain ⟨h1, h2, h3, h4, h5, h6, h7⟩ := h
  exact ⟨k.cell h1, k.cell h2, k.cell h3, k.cell h4, k.cell h5, k.cell h6, Gr.trans (Hid.out h7) k⟩

set_option maxRecDepth 100000 in
set_option maxHeartbeats 4000000 in
theorem cmp_any (a b : OpV) (w : World) : Calls Tryd.prog 35 #[.agg (opCells a).toArray, .agg (opCells b).toArray] w fun e w' => e = .returned (.int .i64 (cmpO a b)) ∧ Gr w w' := by
  obtain ⟨p, t, s⟩ := a
  obtain ⟨p2, t2, s2⟩ := b
  obtain ⟨z, hz⟩ : ∃ z, z = cmpO ⟨p, t, s⟩ ⟨p2, t2, s2⟩ := ⟨_, rfl⟩
  rw [← hz]
  have HZ := Lib.hid hz
  clear hz
  simp only [opCells]
  go_enter Tryd.func35, Tryd.ntmps35
  go_upto_region 1 with fail
  refine wp_abs (fun W => Gr w W ∧ W.cell? ⟨w.heap.size, 0, none⟩ = some (.int .i64 p) ∧ W.cell? ⟨w.heap.size, 1, none⟩ = some (.int .i64 t) ∧ W.cell? ⟨w.heap.size, 2, none⟩ = some (.string s) ∧ W.cell? ⟨w.heap.size + 1, 0, none⟩ = some (.int .i64 p2) ∧ W.cell? ⟨w.heap.size + 1, 1, none⟩ = some (.int .i64 t2) ∧ W.cell? ⟨w.heap.size + 1, 2, none⟩ = some (.string s2)) ⟨((Gr.refl _).alloc _).alloc _, ?_⟩ ?_
  · have b1 := Blk.new w 32 #[Value.int .i64 p, .int .i64 t, .string s]
    have b1' := b1.ext (ext_box _ (.cells #[Value.int .i64 p2, .int .i64 t2, .string s2] 32))
    have b2 := Blk.new (w.alloc (.cells #[Value.int .i64 p, .int .i64 t, .string s] 32)) 32 #[Value.int .i64 p2, .int .i64 t2, .string s2]
    rw [World.size_alloc] at b2
    exact ⟨b1'.cell 0, b1'.cell 1, b1'.cell 2, b2.cell 0, b2.cell 1, b2.cell 2⟩
  rintro W ⟨hW, c0, c1, c2, d0, d1, d2⟩
  have hS0 := cmp_keep (Gr.drew (Gr.refl W)) ⟨c0, c1, c2, d0, d1, d2, hW⟩
  have HW := Lib.hid hW
  clear hW
  go_region_held3 (fun w' => w'.cell? ⟨w.heap.size, 0, none⟩ = some (.int .i64 p) ∧ w'.cell? ⟨w.heap.size, 1, none⟩ = some (.int .i64 t) ∧ w'.cell? ⟨w.heap.size, 2, none⟩ = some (.string s) ∧ w'.cell? ⟨w.heap.size + 1, 0, none⟩ = some (.int .i64 p2) ∧ w'.cell? ⟨w.heap.size + 1, 1, none⟩ = some (.int .i64 t2) ∧ w'.cell? ⟨w.heap.size + 1, 2, none⟩ = some (.string s2) ∧ Hid (Gr w w'))
    (first | assumption | (exact cmp_keep (by assumption) (by assumption)) | (exact cmp_keep (Gr.alloc (Gr.refl _) _) (by assumption)) | (exact cmp_keep (Gr.drew (Gr.refl _)) (by assumption)) | (trace_state; fail))
    (first | (go_at_call 37; refine (compare_str _ _ _).mono ?_; rintro e w' ⟨rfl, rfl⟩) | (go_at_call 38; refine (compare_int _ _ _).mono ?_; rintro e w' ⟨rfl, rfl⟩) | (go_at_call 39; refine (kind_grow _ _ _ _).mono ?_; rintro e w2 ⟨rfl, hg⟩) | (go_at_call 36; refine (or_any _ _ _ _ _ ((Blk.new _ _ _).cell 0) ((Blk.new _ _ _).cell 1)).mono ?_; rintro e w' ⟨rfl, rfl⟩))
  obtain ⟨_, _, _, _, _, _, hG⟩ := ‹_ ∧ _ ∧ _ ∧ _ ∧ _ ∧ _ ∧ Hid (Gr w _)›
  have hfin := HZ.out
  unfold cmpO at hfin
  dsimp only at hfin
  have HF := Lib.hid hfin
  clear hfin
  go_wp2_with fail
  go_ret
  exact ⟨by rw [HF.out]; rfl, hG.out⟩

end Go.Proofs.YtckkbghmiomfiaaDoor
