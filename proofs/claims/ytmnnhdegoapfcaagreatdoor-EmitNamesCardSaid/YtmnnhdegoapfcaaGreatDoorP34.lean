/- Layer 15, the program: the walk of slots. -/
import Derived.Test.YtmnnhdegoapfcaaGreatDoorP33
import Derived.Test.YtmnnhdegoapfcaaGreatDoorP20
namespace Go.El
open Go.RowKit
def NoTwo (L : List Spn) : Prop := L.Pairwise fun a b => a.n ≠ b.n
theorem noteS_mem {k n : Int} : ∀ {L : List Spn} {x : Spn}, x ∈ noteS k n L → x.n = n ∨ ∃ y ∈ L, y.n = x.n
 | [], x, h => by
  simp [noteS] at h
  exact .inl (by rw [h])
 | z :: L, x, h => by
  simp only [noteS] at h
  split at h
  ·next hz =>
   rcases List.mem_cons.1 h with h | h
   ·exact .inl (by rw [h]; exact hz)
   ·exact .inr ⟨x, List.mem_cons_of_mem _ h, rfl⟩
  ·rcases List.mem_cons.1 h with h | h
   ·exact .inr ⟨z, by simp, by rw [h]⟩
   ·rcases noteS_mem h with h | ⟨y, hy, e⟩
    ·exact .inl h
    ·exact .inr ⟨y, List.mem_cons_of_mem _ hy, e⟩
theorem NoTwo.note {k n : Int} : ∀ {L : List Spn}, NoTwo L → NoTwo (noteS k n L)
 | [], _ => by simp [noteS, NoTwo]
 | z :: L, h => by
  unfold NoTwo at h ⊢
  obtain ⟨h1, h2⟩ := List.pairwise_cons.1 h
  simp only [noteS]
  split
  ·exact List.pairwise_cons.2 ⟨fun y hy => h1 y hy, h2⟩
  ·next hz =>
   refine List.pairwise_cons.2 ⟨fun y hy => ?_, NoTwo.note h2⟩
   rcases noteS_mem hy with e | ⟨q, hq, e⟩
   ·rw [e]; exact hz
   ·rw [← e]; exact h1 q hq
theorem NoTwo.notes {k : Int} : ∀ {ns : List Int} {L : List Spn}, NoTwo L → NoTwo (notesS k ns L)
 | [], _, h => h
 | _ :: ns, _, h => NoTwo.notes (ns := ns) (NoTwo.note h)
theorem NoTwo.gath : ∀ {gs : List (Int × Tm)} {s : List Spn × Nat}, NoTwo s.1 → NoTwo (gs.foldl gathG s).1
 | [], _, h => h
 | g :: gs, s, h => by
  refine NoTwo.gath (gs := gs) ?_
  have h2 : NoTwo (if g.1 = 3 ∨ (g.1 = 2 ∧ 0 < s.2) then noteS s.2 (-1) (noteS 0 (-1) s.1) else s.1) := by
   split
   ·exact (h.note).note
   ·exact h
  unfold gathG
  simp only
  split
  ·exact h2
  ·exact h2.notes
theorem noTwo_gath (c : Cls) : NoTwo (gathF c).1 := NoTwo.gath (NoTwo.notes (by simp [NoTwo]))
theorem ins_perm (x : Spn) : ∀ l : List Spn, (spIns x l).Perm (x :: l)
 | [] => List.Perm.refl _
 | z :: l => by
  simp only [spIns]
  split
  ·exact ((ins_perm x l).cons z).trans (List.Perm.swap x z l)
  ·exact List.Perm.refl _
theorem sort_perm : ∀ (l acc : List Spn), (l.foldl (fun l x => spIns x l) acc).Perm (acc ++ l)
 | [], acc => by simp
 | x :: l, acc => by
  rw [List.foldl_cons]
  refine (sort_perm l (spIns x acc)).trans ?_
  refine ((ins_perm x acc).append_right l).trans ?_
  exact (List.perm_middle (l₁ := acc) (a := x) (l₂ := l)).symm
def Srt (l : List Spn) : Prop := l.Pairwise fun a b => spLt b a = false
theorem ins_srt {x : Spn} : ∀ {l : List Spn}, Srt l → Srt (spIns x l)
 | [], _ => by simp [spIns, Srt]
 | z :: l, h => by
  unfold Srt at h ⊢
  rw [List.pairwise_cons] at h
  simp only [spIns]
  split
  ·next hz =>
   rw [List.pairwise_cons]
   refine ⟨fun y hy => ?_, ins_srt h.2⟩
   rcases ins_mem.1 hy with rfl | hy
   ·rw [spLt_no]
    rw [spLt_iff] at hz
    omega
   ·exact h.1 y hy
  ·next hz =>
   have hz2 : spLt z x = false := by simpa using hz
   rw [List.pairwise_cons, List.pairwise_cons]
   refine ⟨fun y hy => ?_, h.1, h.2⟩
   rcases List.mem_cons.1 hy with rfl | hy
   ·exact hz2
   ·exact spLt_ntrans y z x (h.1 y hy) hz2
theorem sort_srt : ∀ {l acc : List Spn}, Srt acc → Srt (l.foldl (fun l x => spIns x l) acc)
 | [], _, h => h
 | _ :: l, _, h => sort_srt (l := l) (ins_srt h)
theorem srt_one {L M : List Spn} (hp : L.Perm M) (hn : NoTwo L) (hL : Srt L) (hM : Srt M) : L = M := by
 refine hp.eq_of_pairwise (fun a b ha hb h1 h2 => ?_) hL hM
 have hb' : b ∈ L := hp.mem_iff.2 hb
 have e : a.n = b.n := by
  rw [spLt_no] at h1 h2
  omega
 by_cases hab : a = b
 ·exact hab
 ·exfalso
  have : ∀ {l : List Spn}, NoTwo l → a ∈ l → b ∈ l → False := by
   intro l
   induction l with
   | nil => intro _ h; cases h
   | cons c l ih =>
    intro hl ha hb
    obtain ⟨q1, q2⟩ := List.pairwise_cons.1 hl
    rcases List.mem_cons.1 ha with ha | ha <;> rcases List.mem_cons.1 hb with hb | hb
    ·exact hab (ha.trans hb.symm)
    ·exact q1 b hb (ha ▸ e)
    ·exact q1 a ha (hb ▸ e.symm)
    ·exact ih q2 ha hb
  exact this hn ha hb'
theorem slots_one {c : Cls} {M : List Spn} (hp : M.Perm ((gathF c).1.filter perm)) (hM : Srt M) : M = slotsF c := by
 have h1 : (slotsF c).Perm ((gathF c).1.filter perm) := by
  have := sort_perm ((gathF c).1.filter perm) []
  rw [List.nil_append] at this
  exact this
 have h2 : Srt (slotsF c) := sort_srt (by simp [Srt])
 have h3 : NoTwo (slotsF c) := by
  have h4 : NoTwo ((gathF c).1.filter perm) := List.Pairwise.filter _ (noTwo_gath c)
  exact (h1.symm.pairwise h4 (fun hab => hab.symm))
 exact (srt_one (h1.trans hp.symm) h3 h2 hM).symm
end Go.El
namespace Go.Proofs.YtmnnhdegoapfcaaGreatDoor
open Go.RowKit Go.El
theorem own_base0s {w : World} {base : Nat} {e : TypeId} {size : Nat} {v : Value} {n : Nat} {xs : List Value} (h : w.ownsRow base e size v n xs) : w.ownsRow 0 e size v n xs := by
 refine ⟨h.1, ?_⟩
 rcases h.2 with h2 | ⟨g, cap, cur, hv, _, r⟩
 ·exact .inl h2
 ·exact .inr ⟨g, cap, cur, hv, Nat.zero_le _, r⟩
set_option maxRecDepth 100000 in
set_option maxHeartbeats 4000000 in
theorem pSlots (sm : Nat) (L : List Spn) (w : World) (hm : MapAt (Value.int .i64) w sm (spP L)) (hL : L.length ≤ 1000000) :
  Calls Tryz.prog 82 #[.map (some sm)] w fun e w' => ∃ v M, e = .returned v ∧ M.Perm (L.filter perm) ∧ Srt M ∧ w'.ownsRow 0 135 3 v M.length (flat spC M) ∧ (∀ b, v.ownBlock = some b → w.heap.size ≤ b) ∧ Ext w w' := by
 have HM := Lib.hid hm
 have HV := Lib.hid (values_any sm w)
 clear hm
 go_enter Tryz.func82, Tryz.ntmps82
 go_upto_region 2 with (first
  | (go_at_call 124; refine HV.out.mono ?_; rintro e W1 ⟨rfl, rfl⟩; have HC := Lib.hid (collect_any sm L hL w.heap.size (w.alloc (.cells #[.map (some sm)] 129)) ((Blk.new _ _ _).cell 0) (HM.out.ext (ext_box _ _))))
  | (go_at_call 123; refine HC.out.mono ?_; rintro e W2 ⟨v1, xs, rfl, p1, o1, x1⟩; have hxl : xs.length ≤ 1000000 := Nat.le_trans (Nat.le_of_eq p1.length_eq) hL; have P1 := Lib.hid p1; have F1 := Lib.hid (fun b (hb : v1.ownBlock = some b) => (o1.lt b hb).1); have O1 := Lib.hid (own_base0s o1); have X1 := Lib.hid ((ext_box w (.cells #[.map (some sm)] 129)).trans x1); clear p1 o1 x1))
 have HD := Lib.hid (sDelete v1 xs W2 O1.out (by omega))
 have hfl : (xs.filter perm).length ≤ 1000000 := Nat.le_trans (List.length_filter_le _ _) hxl
 have HP1 := Lib.hid (P1.out.filter perm)
 clear HC HV hxl P1
 go_upto_region 3 with (go_at_call 125; refine HD.out.mono ?_; rintro e W3 ⟨v2, rfl, o2, b2, d2⟩; have HSO := Lib.hid (sSort v2 (xs.filter perm) W3 (by omega) o2); have B2 := Lib.hid b2; have D2 := Lib.hid d2; clear o2 b2 d2)
 generalize xs.filter perm = ys at *
 clear HD O1
 go_wp2_with (go_at_call 127; refine HSO.out.mono ?_; rintro e W4 ⟨rfl, M, q1, q2, q3, q4⟩; have Q1 := Lib.hid q1; have Q2 := Lib.hid q2; have Q3 := Lib.hid q3; have Q4 := Lib.hid q4; clear q1 q2 q3 q4)
 go_ret
 have hfar : ∀ b, v1.ownBlock = some b → w.heap.size ≤ b := fun b hb => Nat.le_trans (by simp) (F1.out b hb)
 refine ⟨v2, M, rfl, Q1.out.trans HP1.out, Q2.out, Q3.out, fun b hb => hfar b (B2.out.symm.trans hb), ?_⟩
 have e1 : Mods (ownL v1) W2 W3 := D2.out
 have e2 : Mods (ownL v1) W3 W4 := by
  have : ownL v1 = ownL v2 := by unfold ownL; rw [B2.out]
  rw [this]
  exact Q4.out
 exact (Mods.step (S := []) (Mods.ext X1.out) (e1.trans e2) (fun x hx => .inr (hfar x (by simpa [ownL] using hx)))).toExt (by simp)
end Go.Proofs.YtmnnhdegoapfcaaGreatDoor

/- Layer 15, the program: the walk of Of. -/
namespace Go.El
open Go.RowKit
theorem lev_take {l : List Spn} (hn : NoTwo l) {j : Nat} {x : Spn} (h : l[j]? = some x) : levF (l.take (j + 1)) = if x.n = -1 then (j : Int) + 1 else levF (l.take j) := by
 obtain ⟨hj, he⟩ := List.getElem?_eq_some_iff.1 h
 have h1 : l.take (j + 1) = l.take j ++ [x] := by rw [List.take_succ_eq_append_getElem hj, he]
 unfold levF
 rw [h1, List.findIdx?_append]
 by_cases hx : x.n = -1
 ·have hno : (l.take j).findIdx? (fun x => decide (x.n = -1)) = none := by
   rw [List.findIdx?_eq_none_iff]
   intro y hy
   obtain ⟨i, hi⟩ := List.mem_iff_getElem?.1 hy
   rw [List.getElem?_take] at hi
   split at hi
   ·next hij =>
    obtain ⟨hi1, hi2⟩ := List.getElem?_eq_some_iff.1 hi
    have := List.pairwise_iff_getElem.1 hn i j hi1 hj hij
    rw [hi2, he, hx] at this
    exact decide_eq_false this
   ·cases hi
  rw [hno, if_pos hx]
  simp [hx, List.length_take]
  omega
 ·rw [if_neg hx]
  have : [x].findIdx? (fun x => decide (x.n = -1)) = none := by simp [List.findIdx?_cons, hx]
  rw [this]
  cases (l.take j).findIdx? (fun x => decide (x.n = -1)) <;> rfl
theorem idx_live (l : List Spn) (k : Nat) : (idxS (fun (x : Spn) => decide (x.b ≤ (k : Int))) l < 0 ∧ liveF l k = l.length) ∨ (¬ idxS (fun (x : Spn) => decide (x.b ≤ (k : Int))) l < 0 ∧ liveF l k = idxS (fun (x : Spn) => decide (x.b ≤ (k : Int))) l) := by
 unfold idxS liveF
 cases l.findIdx? (fun x => decide (x.b ≤ (k : Int))) with
 | none => exact .inl ⟨by simp, rfl⟩
 | some i => exact .inr ⟨by simp, rfl⟩
def livL (l : List Spn) (k : Nat) : List Int := (List.range k).map fun i => liveF l i
theorem livL_succ (l : List Spn) (k : Nat) : livL l (k + 1) = livL l k ++ [liveF l k] := by simp [livL, List.range_succ]
theorem livL_len (l : List Spn) (k : Nat) : (livL l k).length = k := by simp [livL]
theorem lev_bound (l : List Spn) : 0 ≤ levF l ∧ levF l ≤ l.length := by
 unfold levF
 cases h : l.findIdx? (fun x => decide (x.n = -1)) with
 | none => exact ⟨by simp, by simp⟩
 | some i =>
  have := (List.findIdx?_eq_some_iff_getElem.1 h).1
  exact ⟨by simp only; omega, by simp only; omega⟩
end Go.El
namespace Go.Proofs.YtmnnhdegoapfcaaGreatDoor
open Go.RowKit Go.El
structure OfAt (cs : Array Value) (w : World) (pb lo : Nat) (rA : Option Addr) (M : List Spn) (wr : World) (env : Bool) (sv : Value) (S : List Int) (lev : Int) (lv : Value) (V : List Int) : Prop where
 cb : Blk wr w.heap.size 34 cs
 rb : Blk wr (w.heap.size + 1) 83 #[.bool false, .slice none 0 0, .int .i64 0, .slice none 0 0]
 pl : Blk wr pb 83 #[.bool env, sv, .int .i64 lev, lv]
 row : El.Src wr rA M.length 3 (flat spC M)
 rlt : ∀ a, rA = some a → a.block < pb
 so : wr.ownsRow 0 3 1 sv S.length (S.map (Value.int .i64))
 vo : wr.ownsRow 0 3 1 lv V.length (V.map (Value.int .i64))
 sf : ∀ b, sv.ownBlock = some b → lo ≤ b
 vf : ∀ b, lv.ownBlock = some b → lo ≤ b
 ne : ∀ b, sv.ownBlock = some b → lv.ownBlock ≠ some b
 ext : Ext w wr
 l1 : w.heap.size + 1 < pb
 l2 : pb < lo
 l3 : lo ≤ wr.heap.size
section
variable {cs : Array Value} {w : World} {pb lo : Nat} {rA : Option Addr} {M : List Spn} {wr w' : World} {env : Bool} {sv sv' lv lv' : Value} {S V : List Int} {lev : Int}
theorem OfAt.go (h : OfAt cs w pb lo rA M wr env sv S lev lv V) (x : Ext wr w') : OfAt cs w pb lo rA M w' env sv S lev lv V :=
 ⟨h.cb.ext x, h.rb.ext x, h.pl.ext x, h.row.ext x, h.rlt, own_ext h.so x, own_ext h.vo x, h.sf, h.vf, h.ne, h.ext.trans x, h.l1, h.l2, Nat.le_trans h.l3 x.size⟩
theorem OfAt.set_ (h : OfAt cs w pb lo rA M wr env sv S lev lv V) (i : Nat) (u : Value) {e2 : Bool} {l2 : Int} {q2 q3 : Value} (hb : (#[.bool env, sv, .int .i64 lev, lv] : Array Value).setIfInBounds i u = #[.bool e2, q2, .int .i64 l2, q3]) :
  Blk (wr.setCell ⟨pb, i, none⟩ u) pb 83 #[.bool e2, q2, .int .i64 l2, q3] ∧ Blk (wr.setCell ⟨pb, i, none⟩ u) w.heap.size 34 cs ∧ Blk (wr.setCell ⟨pb, i, none⟩ u) (w.heap.size + 1) 83 #[.bool false, .slice none 0 0, .int .i64 0, .slice none 0 0] ∧ El.Src (wr.setCell ⟨pb, i, none⟩ u) rA M.length 3 (flat spC M) ∧ Ext w (wr.setCell ⟨pb, i, none⟩ u) ∧ lo ≤ (wr.setCell ⟨pb, i, none⟩ u).heap.size ∧
  (wr.setCell ⟨pb, i, none⟩ u).ownsRow 0 3 1 sv S.length (S.map (Value.int .i64)) ∧ (wr.setCell ⟨pb, i, none⟩ u).ownsRow 0 3 1 lv V.length (V.map (Value.int .i64)) := by
 have h1 := h.l1
 have h2 := h.l2
 have hd : Mods [pb] wr (wr.setCell ⟨pb, i, none⟩ u) := (Mods.refl _ wr).setCell (p := ⟨pb, i, none⟩) (.inl (by simp)) u
 refine ⟨by have := h.pl.set_ i u; rwa [hb] at this, h.cb.mods hd (by simp; omega), h.rb.mods hd (by simp; omega), h.row.mods hd (fun a ha => by have := h.rlt a ha; simp; omega), h.ext.setCell (p := ⟨pb, i, none⟩) (by show w.heap.size ≤ pb; omega) u, Nat.le_trans h.l3 hd.size, own_mods h.so hd (fun b hb => by have := h.sf b hb; simp; omega), own_mods h.vo hd (fun b hb => by have := h.vf b hb; simp; omega)⟩
theorem OfAt.slot (h : OfAt cs w pb lo rA M wr env sv S lev lv V) {n : Int} (ho : w'.ownsRow 0 3 1 sv' (S.length + 1) (S.map (Value.int .i64) ++ [Value.int .i64 n])) (hm : Mods (ownL sv) wr w') (hb : sv'.ownBlock = sv.ownBlock ∨ sv'.ownBlock = some wr.heap.size) :
  OfAt cs w pb lo rA M (w'.setCell ⟨pb, 1, none⟩ sv') env sv' (S ++ [n]) lev lv V := by
 have h1 := h.l1
 have h2 := h.l2
 have h3 := h.l3
 have hin : ∀ b, b ∈ ownL sv → sv.ownBlock = some b := fun b hb => by simpa [ownL] using hb
 have hno : ∀ y, y < lo → y ∉ ownL sv := fun y hy e => by have := h.sf y (hin y e); omega
 have hsf : ∀ b, sv'.ownBlock = some b → lo ≤ b ∧ lv.ownBlock ≠ some b := fun b e => by
  rcases hb with hb | hb
  ·exact ⟨h.sf b (hb.symm.trans e), h.ne b (hb.symm.trans e)⟩
  ·have e1 := hb.symm.trans e
   injection e1 with e1
   exact ⟨by omega, fun e2 => by have := own_lt h.vo e2; omega⟩
 have hx : Ext w w' := (Mods.step (S := []) (Mods.ext h.ext) hm (fun x hx => .inr (by have := h.sf x (hin x hx); omega))).toExt (by simp)
 have hpl := h.pl.mods hm (hno _ h2)
 have hd : Mods [pb] w' (w'.setCell ⟨pb, 1, none⟩ sv') := (Mods.refl _ w').setCell (p := ⟨pb, 1, none⟩) (.inl (by simp)) _
 have hs := hm.size
 refine ⟨(h.cb.mods hm (hno _ (by omega))).mods hd (by simp; omega), (h.rb.mods hm (hno _ (by omega))).mods hd (by simp; omega), hpl.set_ 1 sv', (h.row.mods hm (fun a ha => hno _ (by have := h.rlt a ha; omega))).mods hd (fun a ha => by have := h.rlt a ha; simp; omega), h.rlt, ?_, own_mods (own_mods h.vo hm (fun b hb e => h.ne b (hin b e) hb)) hd (fun b hb => by have := h.vf b hb; simp; omega), fun b e => (hsf b e).1, h.vf, fun b e => (hsf b e).2, hx.setCell (p := ⟨pb, 1, none⟩) (by show w.heap.size ≤ pb; omega) _, h1, h2, Nat.le_trans (Nat.le_trans h3 hs) hd.size⟩
 rw [List.length_append, List.map_append]
 exact own_mods ho hd (fun b hb => by have := (hsf b hb).1; simp; omega)
theorem OfAt.liv (h : OfAt cs w pb lo rA M wr env sv S lev lv V) {n : Int} (ho : w'.ownsRow 0 3 1 lv' (V.length + 1) (V.map (Value.int .i64) ++ [Value.int .i64 n])) (hm : Mods (ownL lv) wr w') (hb : lv'.ownBlock = lv.ownBlock ∨ lv'.ownBlock = some wr.heap.size) :
  OfAt cs w pb lo rA M (w'.setCell ⟨pb, 3, none⟩ lv') env sv S lev lv' (V ++ [n]) := by
 have h1 := h.l1
 have h2 := h.l2
 have h3 := h.l3
 have hin : ∀ b, b ∈ ownL lv → lv.ownBlock = some b := fun b hb => by simpa [ownL] using hb
 have hno : ∀ y, y < lo → y ∉ ownL lv := fun y hy e => by have := h.vf y (hin y e); omega
 have hsf : ∀ b, lv'.ownBlock = some b → lo ≤ b ∧ sv.ownBlock ≠ some b := fun b e => by
  rcases hb with hb | hb
  ·exact ⟨h.vf b (hb.symm.trans e), fun e2 => h.ne b e2 (hb.symm.trans e)⟩
  ·have e1 := hb.symm.trans e
   injection e1 with e1
   exact ⟨by omega, fun e2 => by have := own_lt h.so e2; omega⟩
 have hx : Ext w w' := (Mods.step (S := []) (Mods.ext h.ext) hm (fun x hx => .inr (by have := h.vf x (hin x hx); omega))).toExt (by simp)
 have hpl := h.pl.mods hm (hno _ h2)
 have hd : Mods [pb] w' (w'.setCell ⟨pb, 3, none⟩ lv') := (Mods.refl _ w').setCell (p := ⟨pb, 3, none⟩) (.inl (by simp)) _
 have hs := hm.size
 refine ⟨(h.cb.mods hm (hno _ (by omega))).mods hd (by simp; omega), (h.rb.mods hm (hno _ (by omega))).mods hd (by simp; omega), hpl.set_ 3 lv', (h.row.mods hm (fun a ha => hno _ (by have := h.rlt a ha; omega))).mods hd (fun a ha => by have := h.rlt a ha; simp; omega), h.rlt, own_mods (own_mods h.so hm (fun b hb e => h.ne b hb (hin b e))) hd (fun b hb => by have := h.sf b hb; simp; omega), ?_, h.sf, fun b e => (hsf b e).1, fun b e2 e => (hsf b e).2 e2, hx.setCell (p := ⟨pb, 3, none⟩) (by show w.heap.size ≤ pb; omega) _, h1, h2, Nat.le_trans (Nat.le_trans h3 hs) hd.size⟩
 rw [List.length_append, List.map_append]
 exact own_mods ho hd (fun b hb => by have := (hsf b hb).1; simp; omega)
theorem OfAt.lev_ (h : OfAt cs w pb lo rA M wr env sv S lev lv V) (n : Int) : OfAt cs w pb lo rA M (wr.setCell ⟨pb, 2, none⟩ (.int .i64 n)) env sv S n lv V := by
 obtain ⟨a1, a2, a3, a4, a5, a6, a7, a8⟩ := h.set_ 2 (.int .i64 n) (e2 := env) (l2 := n) (q2 := sv) (q3 := lv) rfl
 exact ⟨a2, a3, a1, a4, h.rlt, a7, a8, h.sf, h.vf, h.ne, a5, h.l1, h.l2, a6⟩
theorem OfAt.env_ (h : OfAt cs w pb lo rA M wr env sv S lev lv V) (b : Bool) : OfAt cs w pb lo rA M (wr.setCell ⟨pb, 0, none⟩ (.bool b)) b sv S lev lv V := by
 obtain ⟨a1, a2, a3, a4, a5, a6, a7, a8⟩ := h.set_ 0 (.bool b) (e2 := b) (l2 := lev) (q2 := sv) (q3 := lv) rfl
 exact ⟨a2, a3, a1, a4, h.rlt, a7, a8, h.sf, h.vf, h.ne, a5, h.l1, h.l2, a6⟩
end
end Go.Proofs.YtmnnhdegoapfcaaGreatDoor
