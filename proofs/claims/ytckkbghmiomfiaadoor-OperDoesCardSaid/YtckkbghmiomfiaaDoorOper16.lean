/- Layer 9 (oper): slices.SortFunc, All. -/
import Derived.Test.YtckkbghmiomfiaaDoorOper15
import Derived.Test.YtckkbghmiomfiaaDoorSort
import Derived.Test.YtckkbghmiomfiaaDoorOrd
namespace Go.Proofs.YtckkbghmiomfiaaDoor
open Go.RowKit Go.El Go.Sort Go.Shelf Go.Proofs

theorem orI_neg (x y : Int) : orI x y < 0 ↔ x < 0 ∨ (x = 0 ∧ y < 0) := by
  unfold orI
  split <;> omega
theorem cmpO_lt (a b : OpV) : ltOf cmpO a b = ltO a b := by
  unfold ltOf
  rw [Bool.eq_iff_iff]
  simp only [decide_eq_true_eq]
  unfold cmpO
  rw [orI_neg]
  simp only [ltO, Bool.or_eq_true, Bool.and_eq_true, decide_eq_true_eq, Bool.not_eq_true']
  have h1 : cmpS a.s b.s < 0 ↔ Op.bytesLess a.s.toList b.s.toList = true := by
    unfold cmpS
    split
    · simp_all
    · split <;> simp_all
  have h2 : cmpS a.s b.s = 0 ↔ a.s = b.s := by
    unfold cmpS
    constructor
    · split
      · intro h; simp at h
      · split
        · next h => intro _; exact toList_inj (by simpa using h)
        · intro h; simp at h
    · intro e
      rw [e, bl_irrefl]
      simp
  have h3 : cmpN (kindI a.t) (kindI b.t) < 0 ↔ preB a.t = false ∧ preB b.t = true := by
    unfold cmpN kindI
    cases preB a.t <;> cases preB b.t <;> simp
  rw [h1, h2, h3]
  constructor
  · rintro (h | ⟨h, k1, k2⟩)
    · exact .inl h
    · exact .inr ⟨⟨h, k1⟩, k2⟩
  · rintro (h | ⟨⟨h, k1⟩, k2⟩)
    · exact .inl h
    · exact .inr ⟨h, k1, k2⟩
theorem cmpO_swo : SWO (ltOf cmpO) := ⟨fun x => by rw [cmpO_lt]; exact ltO_irrefl x, fun x y z => by rw [cmpO_lt, cmpO_lt, cmpO_lt]; exact ltO_trans x y z, fun x y z => by rw [cmpO_lt, cmpO_lt, cmpO_lt]; exact ltO_ntrans x y z⟩

theorem sort_any (v : Value) (L : List OpV) (w : World) (hL : L.length ≤ 100000) (h : w.ownsRow 0 32 3 v L.length (flat opCells L)) :
    Calls Tryd.prog 34 #[v, .func (.func 35) #[] #[]] w fun e w' => e = .returned (.tuple #[]) ∧ ∃ M, M.Perm L ∧ M.Pairwise (fun a b => ltO b a = false) ∧ w'.ownsRow 0 32 3 v M.length (flat opCells M) ∧ Mods (ownL v) w w' := by
  rcases Nat.eq_zero_or_pos L.length with h0 | h0
  · obtain ⟨A, c, rfl⟩ := own_value h
    have hn := AnyF.slices_SortFunc_none { Tryd.sortOp with } A c (.func (.func 35) #[] #[]) w
    rw [h0]
    refine hn.mono fun e w' ⟨e1, e2⟩ => ⟨e1, L, List.Perm.refl _, ?_, ?_, ?_⟩
    · rw [List.eq_nil_of_length_eq_zero h0]; exact List.Pairwise.nil
    · rw [h0] at h; rw [e2, h0]; exact h
    · rw [e2]; exact Mods.refl _ _
  · rcases h.2 with ⟨_, hn⟩ | ⟨g, c, cur, rfl, hb0, hb, _⟩
    · omega
    have hcon := AnyQ.slices_SortFunc Tryd.sortOp 3 Tryd.isAgg32 Tryd.sizeOf32 opCells (fun _ => rfl) opCells_one cmpO cmpO_swo 35 #[] g 0 c L.toArray w (enters_of Tryd.func35 (by kernel_rfl) rfl) (fun m os dk _ x y => cmp_any x y _) (holds_own h) (heap_lt hb) (by simp; omega)
    have hd : L.toArray.size = L.length := by simp
    rw [hd] at hcon
    change Calls Tryd.prog 34 _ _ _ at hcon
    refine hcon.mono ?_
    rintro e w' ⟨e1, d', n, os, hp, hs, hw⟩
    obtain ⟨p1, _, p3⟩ := hp
    rw [hd] at p1
    have x1 : d'.extract 0 L.length = d' := by rw [← p1]; simp
    have x2 : L.toArray.extract 0 L.length = L.toArray := by rw [← hd]; simp
    rw [x1, x2] at p3
    have hso := sorted_own (n := n) (os := os) (M := d'.toList) h (by simpa using p1)
    have hda : d'.toList.toArray = d' := by simp
    rw [hda, ← hw] at hso
    have hlen : d'.toList.length = L.length := by simpa using p1
    refine ⟨e1, d'.toList, by simpa using p3, ?_, ?_, ?_⟩
    · rw [List.pairwise_iff_getElem]
      intro i j hi hj hij
      have := hs i j (Nat.zero_le _) hij (by simpa [p1] using hj)
      rw [cmpO_lt, getElem!_pos _ _ (by simpa using hj), getElem!_pos _ _ (by simpa using hi)] at this
      simpa using this
    · rw [← hlen]
      exact hso.1
    · exact hso.2.mono (by simp [ownL, Value.ownBlock])

theorem all_keep {w a b : World} {tb m1 m2 : Nat} (k : Ext a b) (h : (a.cell? ⟨tb, 0, none⟩ = some (.map (some m1)) ∧ a.cell? ⟨tb, 1, none⟩ = some (.map (some m2)) ∧ Hid (Ext w a))) : (b.cell? ⟨tb, 0, none⟩ = some (.map (some m1)) ∧ b.cell? ⟨tb, 1, none⟩ = some (.map (some m2)) ∧ Hid (Ext w b)) := by
  obtain ⟨h1, h2, h3⟩ := h
  exact ⟨k.cell h1, k.cell h2, Ext.trans (Hid.out h3) k⟩

theorem own_base0 {w : World} {base : Nat} {e : TypeId} {size : Nat} {v : Value} {n : Nat} {xs : List Value} (h : w.ownsRow base e size v n xs) : w.ownsRow 0 e size v n xs := by
  refine ⟨h.1, ?_⟩
  rcases h.2 with h2 | ⟨g, cap, cur, hv, _, r⟩
  · exact .inl h2
  · exact .inr ⟨g, cap, cur, hv, Nat.zero_le _, r⟩

theorem values_from (m : Nat) (V : World) :
    Calls Tryd.prog 33 #[.map (some m)] V fun e w' => ∃ B, e = .returned (.func (.func 53) #[] #[.pointer (some ⟨B, 0, none⟩)]) ∧ w'.cell? ⟨B, 0, none⟩ = some (.map (some m)) ∧ Ext V w' :=
  (values_any m V).mono fun e w' ⟨h1, h2⟩ => ⟨_, h1, by rw [h2]; exact (Blk.new _ _ _).cell 0, by rw [h2]; exact ext_box _ _⟩

theorem collect_from (m : Nat) (L : List OpV) (hL : L.length ≤ 1000) (w : World) (hm : MapAt Value.string w m (opsP L)) (tb m1 m2 Bm : Nat) (V : World) (hS : (V.cell? ⟨tb, 0, none⟩ = some (.map (some m1)) ∧ V.cell? ⟨tb, 1, none⟩ = some (.map (some m2)) ∧ Hid (Ext w V))) (hB : V.cell? ⟨Bm, 0, none⟩ = some (.map (some m))) :
    Calls Tryd.prog 32 #[.func (.func 53) #[] #[.pointer (some ⟨Bm, 0, none⟩)]] V fun e w' => ∃ (v : Value) (xs : List OpV), e = .returned v ∧ xs.Perm L ∧ xs.length ≤ 1000 ∧ w'.ownsRow 0 32 3 v xs.length (flat opCells xs) ∧ Ext V w' :=
  (collect_any m L hL Bm V hB (hm.ext (Hid.out hS.2.2))).mono fun e w' ⟨v, xs, h1, h2, h3, h4⟩ => ⟨v, xs, h1, h2, by rw [h2.length_eq]; exact hL, own_base0 h3, h4⟩

set_option maxRecDepth 100000 in
set_option maxHeartbeats 4000000 in
theorem pAll_any (tb m1 m2 : Nat) (I Q : List OpV) (w : World) (h : TabAt w tb m1 m2 I Q) (h1 : I.length ≤ 1000) (h2 : Q.length ≤ 1000) :
    Calls Tryd.prog 12 #[.pointer (some ⟨tb, 0, none⟩)] w fun e w' => ∃ v M, e = .returned v ∧ M.Perm (I ++ Q) ∧ M.Pairwise (fun a b => ltO b a = false) ∧ w'.ownsRow 0 32 3 v M.length (flat opCells M) ∧ (∀ b, v.ownBlock = some b → w.heap.size ≤ b) ∧ Ext w w' := by
  have c0 := h.c0
  have c1 := h.c1
  have H := Lib.hid h
  clear h
  go_enter Tryd.func12, Tryd.ntmps12
  go_upto_region 3 with (go_at_call 30; refine (made_any tb m1 _ c0).mono ?_; rintro e w' ⟨rfl, rfl⟩)
  have hv1 := fun V => values_from m1 V
  have hv2 := fun V => values_from m2 V
  have hc1 := fun V Bm => collect_from m1 I h1 w H.out.mi tb m1 m2 Bm V
  have hc2 := fun V Bm => collect_from m2 Q h2 w H.out.mq tb m1 m2 Bm V
  have hS0 := all_keep (tb := tb) (m1 := m1) (m2 := m2) ((Ext.refl w).drew) ⟨c0, c1, Ext.refl w⟩
  go_region_held3 (fun w' => w'.cell? ⟨tb, 0, none⟩ = some (.map (some m1)) ∧ w'.cell? ⟨tb, 1, none⟩ = some (.map (some m2)) ∧ Hid (Ext w w'))
    (first | assumption | (exact all_keep (by assumption) (by assumption)) | (exact all_keep (ext_box _ _) (by assumption)) | (exact all_keep ((Ext.refl _).drew) (by assumption)))
    (first | (go_at_call 33; refine (hv1 _).mono ?_; clear hv1; rintro e w1 ⟨B1, rfl, k1, x1⟩) | (go_at_call 32; refine (hc1 _ _ (by assumption) k1).mono ?_; clear hc1; rintro e w2 ⟨v1, L1, rfl, p1, n1, o1, x2⟩; obtain ⟨A1, q1, rfl⟩ := own_value o1) | (go_at_call 33; refine (hv2 _).mono ?_; clear hv2; rintro e w3 ⟨B3, rfl, k3, x3⟩) | (go_at_call 32; refine (hc2 _ _ (by assumption) k3).mono ?_; clear hc2; rintro e w4 ⟨v2, L2, rfl, p2, n2, o2, x4⟩; obtain ⟨A2, q2, rfl⟩ := own_value o2) | (go_at_call 31; refine (concat_any _ _ _ _ L1 L2 _ ⟨(Blk.new _ _ _).cell 0, (Blk.new _ _ _).cell 1, own_ext (own_ext (own_ext o1 x3) x4) (ext_box _ _), own_ext o2 (ext_box _ _)⟩ n1 n2).mono ?_; rintro e w5 ⟨v, rfl, o5, f5, x5⟩))
  obtain ⟨_, _, HX5⟩ := ‹w5.cell? ⟨tb, 0, none⟩ = some (.map (some m1)) ∧ _ ∧ Hid (Ext w w5)›
  have hf5 : ∀ b, v.ownBlock = some b → w.heap.size ≤ b := fun b hb => by
    have := f5 b hb
    have y1 := x1.size
    have y2 := x2.size
    have y3 := x3.size
    have y4 := x4.size
    have y0 : w.drew.heap.size = w.heap.size := rfl
    rw [World.size_alloc] at this
    omega
  have hpm : (L1 ++ L2).Perm (I ++ Q) := p1.append p2
  have hl : (L1 ++ L2).length ≤ 100000 := by rw [List.length_append]; omega
  have hso := sort_any v (L1 ++ L2) w5 hl o5
  clear x1 x2 x3 x4 x5 k1 k3 o1 o2 f5 hS0 n1 n2 p1 p2 hl
  generalize L1 ++ L2 = LL at hso hpm o5
  have HP := Lib.hid hpm
  have HF := Lib.hid hf5
  clear hpm hf5 o5
  go_wp2_with (go_at_call 34; refine hso.mono ?_; rintro e w6 ⟨rfl, M, q1, q2, q3, q4⟩)
  go_ret
  exact ⟨v, M, rfl, q1.trans HP.out, q2, q3, HF.out, (Mods.step (S := []) (Mods.ext HX5.out) q4 (fun x hx => .inr (HF.out x (by simpa [ownL] using hx)))).toExt (by simp)⟩

end Go.Proofs.YtckkbghmiomfiaaDoor
