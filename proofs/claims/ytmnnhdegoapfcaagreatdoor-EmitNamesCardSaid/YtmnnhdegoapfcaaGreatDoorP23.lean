/- Taken out of other seats' texts by extract.py: refRename_any, nu_rn. -/
import Derived.Test.YtmnnhdegoapfcaaGreatDoorP12
import Derived.Test.YtmnnhdegoapfcaaGreatDoorP10
import Derived.BigQuiet
namespace Go.Proofs.YtmnnhdegoapfcaaGreatDoor
open Go.RowKit Go.El
theorem blk2b {w : World} {t t2 : TypeId} {cs cs2 : Array Value} : Blk ((w.alloc (.cells cs t)).alloc (.cells cs2 t2)) (w.heap.size + 1) t2 cs2 := by
 have := Blk.new (w.alloc (.cells cs t)) t2 cs2
 rw [World.size_alloc] at this
 exact this
end Go.Proofs.YtmnnhdegoapfcaaGreatDoor
namespace Go.El
mutual
def nuT : Tm → List Int → Tm
 | .mk k n s l, V => if k = 1 ∧ n ∈ V then .mk 1 (plc n V) ⟨#[]⟩ [] else .mk k n s (nuL l V)
def nuL : List Tm → List Int → List Tm
 | [], _ => []
 | a :: r, V => nuT a V :: nuL r V
end
theorem nuL_len : ∀ (l : List Tm) (V : List Int), (nuL l V).length = l.length
 | [], _ => rfl
 | a :: r, V => by simp [nuL, nuL_len r]
theorem nuL_take : ∀ {l : List Tm} {j : Nat} {u : Tm} (V : List Int), l[j]? = some u → nuL (l.take (j + 1)) V = nuL (l.take j) V ++ [nuT u V]
 | [], j, u, V, h => by simp at h
 | a :: r, 0, u, V, h => by
  simp at h
  subst h
  simp [nuL]
 | a :: r, j + 1, u, V, h => by
  have := nuL_take (l := r) (j := j) (u := u) V (by simpa using h)
  simp only [List.take_succ_cons, nuL]
  rw [this]
  rfl
theorem plc_pre {n : Int} : ∀ {l r : List Int}, n ∈ l → plc n (l ++ r) = plc n l
 | m :: l, r, h => by
  simp only [List.cons_append, plc]
  split
  ·rfl
  ·rename_i hne
   have : n ∈ l := by
    rcases List.mem_cons.1 h with e | e
    ·exact absurd e.symm hne
    ·exact e
   rw [plc_pre this]
theorem addV_pre (n : Int) (l : List Int) : l <+: addV n l := by
 unfold addV
 split
 ·exact List.prefix_refl _
 ·exact List.prefix_append _ _
mutual
theorem vsT_pre : ∀ (t : Tm) (acc : List Int), acc <+: vsT t acc
 | .mk k n s l, acc => by
  simp only [vsT]
  split
  ·exact addV_pre _ _
  ·exact vsL_pre l acc
theorem vsL_pre : ∀ (l : List Tm) (acc : List Int), acc <+: vsL l acc
 | [], acc => List.prefix_refl _
 | a :: r, acc => by
  simp only [vsL]
  exact (vsT_pre a acc).trans (vsL_pre r _)
end
mutual
theorem nuT_rnT : ∀ (t : Tm) (acc V : List Int), vsT t acc <+: V → nuT t V = rnT t acc
 | .mk k n s l, acc, V, h => by
  simp only [vsT] at h
  simp only [nuT, rnT]
  by_cases hk : k = 1
  ·rw [if_pos hk] at h
   obtain ⟨r, rfl⟩ := h
   have hm := addV_mem n acc
   rw [if_pos hk, if_pos ⟨hk, List.mem_append_left _ hm⟩, plc_pre hm]
  ·rw [if_neg hk] at h
   rw [if_neg (fun e => hk e.1), if_neg hk, nuL_rnL l acc V h]
theorem nuL_rnL : ∀ (l : List Tm) (acc V : List Int), vsL l acc <+: V → nuL l V = rnL l acc
 | [], acc, V, _ => rfl
 | a :: r, acc, V, h => by
  simp only [vsL] at h
  simp only [nuL, rnL]
  rw [nuT_rnT a acc V ((vsL_pre r _).trans h), nuL_rnL r (vsT a acc) V h]
end
theorem nu_rn (t : Tm) (acc : List Int) : nuT t (vsT t acc) = rnT t acc := nuT_rnT t acc _ (List.prefix_refl _)
theorem addV_yes {n : Int} {l : List Int} (h : n ∈ l) : addV n l = l := if_pos h
theorem addV_no {n : Int} {l : List Int} (h : ¬ n ∈ l) : addV n l = l ++ [n] := if_neg h
def iV (n : Int) : Value := .int .i64 n
end Go.El
namespace Go.Proofs.YtmnnhdegoapfcaaGreatDoor
open Go.RowKit Go.El
theorem intInfo : (Tryz.prog.info? 3).map (fun i => (i.zero, i.size, i.bytes)) = some (some (.int .i64 0), 1, 8) := by kernel_rfl
structure IntsO (w : World) (v : Value) (L : List Int) : Prop where
 own : w.ownsRow 0 3 1 v L.length (L.map iV)
theorem IntsO.ext {w w' : World} {v : Value} {L : List Int} (h : IntsO w v L) (x : Ext w w') : IntsO w' v L := ⟨own_ext h.own x⟩
theorem IntsO.nil (w : World) : IntsO w (.slice none 0 0) [] := ⟨World.ownsRow_nil _ _ _ _⟩
structure IStep (w w' : World) (v v' : Value) (L' : List Int) : Prop where
 own : IntsO w' v' L'
 mods : Mods (ownL v) w w'
 far : ∀ b, v'.ownBlock = some b → v.ownBlock = some b ∨ w.heap.size ≤ b
theorem IStep.of_ext {w w' : World} {v : Value} {L : List Int} (h : IntsO w v L) (x : Ext w w') : IStep w w' v v L := ⟨h.ext x, Mods.ext x, fun _ hb => .inl hb⟩
theorem IStep.pre {a w w' : World} {v v' : Value} {L' : List Int} (x : Ext a w) (h : IStep w w' v v' L') : IStep a w' v v' L' :=
 ⟨h.own, (Mods.ext x).trans h.mods, fun b hb => (h.far b hb).imp (fun h => h) (fun h => Nat.le_trans x.size h)⟩
theorem IStep.trans {a w w' : World} {v v' v2 : Value} {L L' : List Int} (h : IStep a w v v' L) (k : IStep w w' v' v2 L') : IStep a w' v v2 L' := by
 refine ⟨k.own, Mods.step h.mods k.mods (fun b hb => ?_), fun b hb => ?_⟩
 ·rcases h.far b (mem_ownL hb) with h1 | h1
  ·exact .inl (by simp [ownL, h1])
  ·exact .inr h1
 ·rcases k.far b hb with h1 | h1
  ·exact h.far b h1
  ·exact .inr (Nat.le_trans h.mods.size h1)
theorem ints_one (n : Int) : ∀ u ∈ [iV n], u.oneCell' = true := by
 intro u hu
 simp at hu
 subst hu
 rfl
theorem IStep.app {w w0 w' : World} {v v' : Value} {L : List Int} {n : Int} (x : Ext w w0) (ho : w'.ownsRow 0 3 1 v' (L.length + 1) (L.map iV ++ [iV n])) (hm : Mods (ownL v) w0 w') (hb : v'.ownBlock = v.ownBlock ∨ v'.ownBlock = some w0.heap.size) : IStep w w' v v' (L ++ [n]) := by
 refine ⟨⟨by simpa using ho⟩, (Mods.ext x).trans hm, fun b hb' => ?_⟩
 rcases hb with h | h
 ·exact .inl (h.symm.trans hb')
 ·have e := h.symm.trans hb'
  injection e with e
  exact .inr (e ▸ x.size)
theorem src_int {w : World} {A : Option Addr} {L : List Int} (h : El.Src w A L.length 1 (L.map iV)) {k : Nat} (hk : k < L.length) : ∃ b off, A = some ⟨b, off, none⟩ ∧ w.cell? ⟨b, off + k, none⟩ = some (.int .i64 L[k]) := by
 obtain ⟨b, off, rfl, hc⟩ := El.Src.form h (by omega) (by omega)
 exact ⟨b, off, rfl, hc k _ (by simp [hk, iV])⟩
theorem not_mem_first {n : Int} {l : List Int} (h : ∀ (j : Nat) (m : Int), j < l.length → l[j]? = some m → ¬ m = n) : ¬ n ∈ l := by
 intro hm
 obtain ⟨j, hj⟩ := List.mem_iff_getElem?.1 hm
 exact h j n (List.getElem?_eq_some_iff.1 hj).1 hj rfl
set_option maxRecDepth 100000 in
set_option maxHeartbeats 4000000 in
theorem varsVar_any (n : Int) (s : ByteArray) (A : Option Addr) (m c : Nat) (L : List Int) (v : Value) (w : World) (hv : IntsO w v L) (hL : L.length ≤ 1000000000) :
  Calls Tryz.prog 91 #[.agg #[.int .i64 1, .int .i64 n, .string s, .slice A m c], v] w fun e w' => ∃ v', e = .returned v' ∧ IStep w w' v v' (addV n L) := by
 obtain ⟨i1, hi1, hz0, hz1, hz2⟩ := infoP intInfo
 obtain ⟨Av, cv, rfl⟩ := own_value hv.own
 have HV := Lib.hid hv
 generalize hL2 : addV n L = L2
 have HL2 := Lib.hid hL2
 clear hv hL2
 go_enter Tryz.func91, Tryz.ntmps91
 go_upto_region 2 with fail
 refine wp_abs (fun V => Hid (Blk V w.heap.size 30 #[.int .i64 1, .int .i64 n, .string s, .slice A m c]) ∧ Hid (Ext w V)) ⟨Blk.new w _ _, (Ext.refl w).alloc _⟩ ?_
 rintro V ⟨HB0, HX0⟩
 go_wp2_with fail
 go_loopw [5] (fun i wr => ∃ j : Nat, j ≤ L.length ∧ i = .int .i64 j ∧ Ext V wr ∧ Hid (∀ (q : Nat) (x : Int), q < j → L[q]? = some x → ¬ x = n)) (fun i _ => L.length - (intOf i).toNat)
 case atStart => exact ⟨0, Nat.zero_le _, rfl, Ext.refl _, Lib.hid (fun q x h => by omega)⟩
 case round =>
  obtain ⟨j, hj, rfl, hx, HN⟩ := hrel
  have y1 : wr.cell? ⟨w.heap.size, 1, none⟩ = some (.int .i64 n) := (HB0.out.ext hx).cell 1
  by_cases hlt : j < L.length
  ·obtain ⟨b, off, rfl, e0⟩ := src_int (El.Src.of_own HV.out.own) hlt
   have d0 := (HX0.out.trans hx).cell e0
   have HJ := Lib.hid (List.getElem?_eq_getElem hlt)
   clear e0
   generalize L[j] = x at d0 HJ
   by_cases hq : x = n
   ·have hm : n ∈ L := by
     have := List.mem_of_getElem? HJ.out
     rwa [hq] at this
    have HM := Lib.hid (addV_yes hm)
    have q1 : (x == n) = true := by simpa using hq
    clear hq hm
    go_upto_region 5 with fail
    go_region
    all_goals
     go_wp2_with fail
     go_ret
     exact ⟨_, rfl, by rw [← HL2.out, HM.out]; exact IStep.of_ext HV.out (((HX0.out.trans hx)).drew)⟩
   ·have q1 : (x == n) = false := by simpa using hq
    have HQ := Lib.hid hq
    clear hq
    go_upto_region 5 with fail
    go_region
    all_goals
     go_wp2_with fail
     go_roundw
     case rel =>
      exact ⟨j + 1, hlt, by go_num, hx.drew, Lib.hid (fun q z hq hz => by
       rcases Nat.lt_succ_iff_lt_or_eq.1 hq with h | rfl
       ·exact HN.out q z h hz
       ·obtain rfl := Option.some.inj (hz.symm.trans HJ.out)
        exact HQ.out)⟩
     case measure => simp [intOf]; omega
  ·obtain rfl : j = L.length := by omega
   have HM := Lib.hid (addV_no (not_mem_first HN.out))
   have hE := HX0.out.trans hx
   go_wp2_with (at_builtin; refine wpList_append_src (P := Tryz.prog) rfl _ _ 81 rfl 3 i1 _ 1 8 Tryz.underlying81 hi1 hz0 hz1 hz2 rfl (by omega) (.slice Av L.length cv) rfl _ _ _ rfl L.length (L.map iV) (own_ext HV.out.own (hE.alloc _)) [iV n] (El.Src.new _ #[.int .i64 n] _ 1 1 rfl) (ints_one n) (by unfold maxLen; omega) (by omega) ?_; intro v3 w3 ho3 hm3 hb3; have HS3 := Lib.hid (IStep.app (hE.alloc _) ho3 hm3 hb3); clear ho3 hm3 hb3)
   go_ret
   exact ⟨_, rfl, by rw [← HL2.out, HM.out]; exact HS3.out⟩
theorem IStep.tm {w w' : World} {v v' : Value} {L : List Int} {D : Nat → Prop} {u : Tm} {A : Option Addr} {c : Nat} (h : IStep w w' v v' L) (hD : ∀ k, D k → k < w.heap.size ∧ v.ownBlock ≠ some k) (ht : TmIn D w u A c) : TmIn D w' u A c :=
 TmIn.mods h.mods (fun k hk hm => (hD k hk).2 (mem_ownL hm)) (fun _ h => h) ht
theorem IStep.off {w w' : World} {v v' : Value} {L : List Int} {D : Nat → Prop} (h : IStep w w' v v' L) (hD : ∀ k, D k → k < w.heap.size ∧ v.ownBlock ≠ some k) : ∀ k, D k → k < w'.heap.size ∧ v'.ownBlock ≠ some k := fun k hk => by
 refine ⟨Nat.lt_of_lt_of_le (hD k hk).1 h.mods.size, fun e => ?_⟩
 rcases h.far k e with h1 | h1
 ·exact (hD k hk).2 h1
 ·have := (hD k hk).1
  omega
theorem IStep.blk {w w' : World} {v v' : Value} {L : List Int} {b : Nat} {t : TypeId} {cs : Array Value} (h : IStep w w' v v' L) (hv : v.ownBlock ≠ some b) (hB : Blk w b t cs) : Blk w' b t cs :=
 hB.mods h.mods (fun hm => hv (mem_ownL hm))
set_option maxRecDepth 100000 in
set_option maxHeartbeats 4000000 in
theorem vars_any : ∀ (N : Nat) (t : Tm), szT t ≤ N → szT t ≤ 100000000 → ∀ (L : List Int) (A : Option Addr) (c : Nat) (v : Value) (w : World) (D : Nat → Prop), L.length + szT t ≤ 1000000000 → TmIn D w t A c → (∀ k, D k → k < w.heap.size ∧ v.ownBlock ≠ some k) → IntsO w v L →
  Calls Tryz.prog 91 #[tmVal t A c, v] w fun e w' => ∃ v', e = .returned v' ∧ IStep w w' v v' (vsT t L)
 | 0, t, h => by
  have := szT_pos t
  omega
 | N + 1, .mk k n s l, hN => by
  intro hbig L A c v w D hL ht hD hv
  have IH := vars_any N
  simp only [szT] at hN hbig hL
  unfold tmVal
  simp only [Tm.k, Tm.n, Tm.s, Tm.l]
  by_cases hk : k = 1
  ·subst hk
   rw [show vsT (.mk 1 n s l) L = addV n L by simp [vsT]]
   exact varsVar_any n s A l.length c L v w hv (by omega)
  ·have q1 : (k == 1) = false := by simpa using hk
   rw [show vsT (.mk k n s l) L = vsL l L by simp [vsT, hk]]
   have hlw := len_szL l
   generalize hL2 : vsL l L = L2
   have HL2 := Lib.hid hL2
   have HT := Lib.hid ht
   have HD := Lib.hid hD
   have HV := Lib.hid hv
   clear hk hL2 ht hD hv
   go_enter Tryz.func91, Tryz.ntmps91
   go_upto_region 8 with fail
   refine wp_abs (fun V => Hid (Blk V w.heap.size 30 #[.int .i64 k, .int .i64 n, .string s, .slice A l.length c]) ∧ Hid (Ext w V) ∧ Hid (w.heap.size < V.heap.size)) ⟨Blk.new w _ _, (Ext.refl w).alloc _, Lib.hid (by simp)⟩ ?_
   rintro V ⟨HB0, HX0, HW0⟩
   go_wp2_with fail
   go_loopw [1, 6] (fun v' i wr => ∃ j : Nat, j ≤ l.length ∧ i = .int .i64 j ∧ Hid (IStep V wr v v' (vsL (l.take j) L))) (fun _ i _ => l.length - (intOf i).toNat)
   case atStart => exact ⟨0, Nat.zero_le _, rfl, Lib.hid (by simpa [vsL] using IStep.of_ext (HV.out.ext HX0.out) (Ext.refl _))⟩
   case round =>
    obtain ⟨j, hj, rfl, HS⟩ := hrel
    have hvb : v.ownBlock ≠ some w.heap.size := fun e => by
     have := (HV.out.own.lt _ e).2
     omega
    have hbl := HS.out.blk hvb HB0.out
    have y0 : wr.cell? ⟨w.heap.size, 0, none⟩ = some (.int .i64 k) := hbl.cell 0
    have y3 : wr.cell? ⟨w.heap.size, 3, none⟩ = some (.slice A l.length c) := hbl.cell 3
    clear hbl
    by_cases hlt : j < l.length
    ·have ho : l[j]? = some l[j] := List.getElem?_eq_getElem hlt
     have hsu := szL_get ho
     have hst := szL_take ho
     have hsl := szL_take_le l (j + 1)
     have hlv := (vsL_len (l.take j) L).1
     have HTK := Lib.hid (vsL_take L ho)
     generalize l[j] = u at *
     generalize vsL (l.take j) L = vs at *
     have hDV : ∀ k, D k → k < V.heap.size ∧ v.ownBlock ≠ some k := fun k hk => ⟨by have := (HD.out k hk).1; have := HW0.out; omega, (HD.out k hk).2⟩
     obtain ⟨bb, off, A', c', rfl, _, hu, q0, q1, q2, q3⟩ := (HS.out.tm hDV (HT.out.ext HX0.out)).child ho
     have HC := Lib.hid (IH u (by omega) (by omega) vs A' c' u1 wr D (by omega) hu (HS.out.off hDV) HS.out.own)
     unfold tmVal at HC
     clear hu hDV ho
     go_wp2_with (go_at_call 91; refine HC.out.mono ?_; rintro e W1 ⟨v2, rfl, h2⟩; have HS2 := Lib.hid (HS.out.trans h2); clear h2)
     go_roundw
     case rel => exact ⟨j + 1, hlt, by go_num, Lib.hid (by rw [HTK.out]; exact HS2.out)⟩
     case measure => simp [intOf]; omega
    ·obtain rfl : j = l.length := by omega
     rw [List.take_length] at HS
     go_wp2_with fail
     go_ret
     exact ⟨_, rfl, by rw [← HL2.out]; exact IStep.pre HX0.out HS.out⟩
set_option maxRecDepth 100000 in
theorem refVars_any (t : Tm) (A : Option Addr) (c : Nat) (w : World) (D : Nat → Prop) (hbig : szT t ≤ 100000000) (ht : TmIn D w t A c) :
  Calls Tryz.prog 51 #[tmVal t A c] w fun e w' => ∃ v', e = .returned v' ∧ IntsO w' v' (vsT t []) ∧ Ext w w' ∧ (∀ b, v'.ownBlock = some b → w.heap.size ≤ b) := by
 have hx := ext_box w (.cells #[.int .i64 t.k, .int .i64 t.n, .string t.s, .slice A t.l.length c] 30)
 have HC := Lib.hid (vars_any (szT t) t (Nat.le_refl _) hbig [] A c (.slice none 0 0) _ _ (by simp; omega) (ht.lt.ext hx) (fun k hk => ⟨by have := hx.size; omega, by simp [Value.ownBlock]⟩) (IntsO.nil _))
 unfold tmVal at HC ⊢
 clear ht
 go_enter Tryz.func51, Tryz.ntmps51
 go_wp2_with (go_at_call 91; refine HC.out.mono ?_; rintro e W1 ⟨v2, rfl, h2⟩)
 go_ret
 exact ⟨_, rfl, h2.own, (hx.trans (Mods.toExt h2.mods (by simp [ownL, Value.ownBlock]))), fun b hb => by
  rcases h2.far b hb with h | h
  ·simp [Value.ownBlock] at h
  ·exact Nat.le_trans hx.size h⟩
end Go.Proofs.YtmnnhdegoapfcaaGreatDoor
namespace Go.El
mutual
def hvT : Tm → List Int → Bool
 | .mk k n _ l, V => if k = 1 then decide (n ∈ V) else hvL l V
def hvL : List Tm → List Int → Bool
 | [], _ => true
 | a :: r, V => hvT a V && hvL r V
end
theorem hvL_get : ∀ {l : List Tm} {j : Nat} {u : Tm} {V : List Int}, hvL l V = true → l[j]? = some u → hvT u V = true
 | [], j, u, V, _, h => by simp at h
 | a :: r, 0, u, V, ho, h => by
  simp at h
  subst h
  simp only [hvL, Bool.and_eq_true] at ho
  exact ho.1
 | a :: r, j + 1, u, V, ho, h => by
  simp only [hvL, Bool.and_eq_true] at ho
  exact hvL_get ho.2 (by simpa using h)
mutual
theorem hvT_pre : ∀ (t : Tm) (acc V : List Int), vsT t acc <+: V → hvT t V = true
 | .mk k n s l, acc, V, h => by
  simp only [vsT] at h
  simp only [hvT]
  by_cases hk : k = 1
  ·rw [if_pos hk] at h
   rw [if_pos hk]
   exact decide_eq_true (h.subset (addV_mem n acc))
  ·rw [if_neg hk] at h
   rw [if_neg hk]
   exact hvL_pre l acc V h
theorem hvL_pre : ∀ (l : List Tm) (acc V : List Int), vsL l acc <+: V → hvL l V = true
 | [], acc, V, _ => rfl
 | a :: r, acc, V, h => by
  simp only [vsL] at h
  simp only [hvL, Bool.and_eq_true]
  exact ⟨hvT_pre a acc V ((vsL_pre r _).trans h), hvL_pre r (vsT a acc) V h⟩
end
theorem plc_first {n : Int} : ∀ {l : List Int} {j : Nat}, (∀ (q : Nat) (x : Int), q < j → l[q]? = some x → ¬ x = n) → l[j]? = some n → plc n l = j
 | [], j, _, h => by simp at h
 | m :: l, 0, _, h => by
  simp at h
  simp [plc, h]
 | m :: l, j + 1, hn, h => by
  have h0 : ¬ m = n := hn 0 m (by omega) rfl
  have := plc_first (l := l) (j := j) (fun q x hq hx => hn (q + 1) x (by omega) (by simpa using hx)) (by simpa using h)
  simp [plc, h0, this]
end Go.El
namespace Go.Proofs.YtmnnhdegoapfcaaGreatDoor
open Go.RowKit Go.El
theorem own_src {w : World} {A : Option Addr} {c : Nat} {L : List Int} (h : IntsO w (.slice A L.length c) L) : El.Src w A L.length 1 (L.map iV) := El.Src.of_own h.own
set_option maxRecDepth 100000 in
set_option maxHeartbeats 4000000 in
theorem place_any (n : Int) (V : List Int) (AV : Option Addr) (cV : Nat) (w : World) (hV : El.Src w AV V.length 1 (V.map iV)) (hn : n ∈ V) (hl : V.length ≤ 1000000000) :
  Calls Tryz.prog 92 #[.slice AV V.length cV, .int .i64 n] w fun e w' => e = .returned (.int .i64 (plc n V)) ∧ w' = w := by
 have HV := Lib.hid hV
 have HI := Lib.hid hn
 generalize hP : plc n V = P
 have HP := Lib.hid hP
 clear hV hn hP
 go_enter Tryz.func92, Tryz.ntmps92
 go_wp2_with fail
 go_loopw [5] (fun i wr => ∃ j : Nat, j ≤ V.length ∧ i = .int .i64 j ∧ wr = w ∧ Hid (∀ (q : Nat) (x : Int), q < j → V[q]? = some x → ¬ x = n)) (fun i _ => V.length - (intOf i).toNat)
 case atStart => exact ⟨0, Nat.zero_le _, rfl, rfl, Lib.hid (fun q x h => by omega)⟩
 case round =>
  obtain ⟨j, hj, rfl, rfl, HN⟩ := hrel
  by_cases hlt : j < V.length
  ·obtain ⟨b, off, rfl, e0⟩ := src_int HV.out hlt
   have HJ := Lib.hid (List.getElem?_eq_getElem hlt)
   generalize V[j] = x at e0 HJ
   by_cases hq : x = n
   ·have hpl : P = j := by
     rw [← HP.out]
     exact plc_first HN.out (by rw [HJ.out, hq])
    have q1 : (x == n) = true := by simpa using hq
    subst hpl
    clear hq
    go_wp2_with fail
    go_ret
    exact ⟨rfl, rfl⟩
   ·have q1 : (x == n) = false := by simpa using hq
    have HQ := Lib.hid hq
    clear hq
    go_wp2_with fail
    go_roundw
    case rel =>
     exact ⟨j + 1, hlt, by go_num, trivial, Lib.hid (fun q z hq hz => by
      rcases Nat.lt_succ_iff_lt_or_eq.1 hq with h | rfl
      ·exact HN.out q z h hz
      ·obtain rfl := Option.some.inj (hz.symm.trans HJ.out)
       exact HQ.out)⟩
    case measure => simp [intOf]; omega
  ·obtain rfl : j = V.length := by omega
   exact absurd HI.out (not_mem_first HN.out)
def NumPost (t : Tm) (w : World) (e : Ending) (w' : World) : Prop :=
 ∃ A' c', e = .returned (tmVal t A' c') ∧ TmIn (fun k => w.heap.size ≤ k ∧ k < w'.heap.size) w' t A' c' ∧ Ext w w'
set_option maxRecDepth 100000 in
set_option maxHeartbeats 4000000 in
theorem refRenVar_any (n : Int) (s : ByteArray) (A : Option Addr) (m c : Nat) (V : List Int) (AV : Option Addr) (cV : Nat) (w : World) (hV : El.Src w AV V.length 1 (V.map iV)) (hn : n ∈ V) (hl : V.length ≤ 1000000000) :
  Calls Tryz.prog 52 #[.agg #[.int .i64 1, .int .i64 n, .string s, .slice A m c], .slice AV V.length cV] w fun e w' => e = .returned (.agg #[.int .i64 1, .int .i64 (plc n V), .string ⟨#[]⟩, .slice none 0 0]) ∧ Ext w w' := by
 have HPL := fun (W : World) (x : Ext w W) => Lib.hid (place_any n V AV cV W (hV.ext x) hn hl)
 generalize (plc n V : Int) = P at *
 clear hV hn
 go_enter Tryz.func52, Tryz.ntmps52
 go_upto_region 2 with fail
 refine wp_abs (fun W => Hid (Blk W (w.heap.size + 1) 30 #[.int .i64 0, .int .i64 0, .string ⟨#[]⟩, .slice none 0 0]) ∧ Hid (Blk W w.heap.size 30 #[.int .i64 1, .int .i64 n, .string s, .slice A m c]) ∧ Hid (Ext w W)) ⟨blk2b, (Blk.new w _ _).alloc _, ((Ext.refl w).alloc _).alloc _⟩ ?_
 rintro W ⟨HZ, HB0, HX0⟩
 have y1 : W.cell? ⟨w.heap.size, 1, none⟩ = some (.int .i64 n) := HB0.out.cell 1
 have HP1 := HPL W HX0.out
 go_wp2_with (first | (go_at_call 92; refine HP1.out.mono ?_; rintro e W0 ⟨rfl, rfl⟩) | (go_at_call 17; refine (refVar_any _ _).mono ?_; rintro e W1 ⟨rfl, hx1⟩; have z0 := HZ.out.ext hx1; have HZ1 := Lib.hid z0; have HX1 := Lib.hid (HX0.out.trans hx1); have zc := z0.cell; have zf := z0.frozen; clear hx1 z0))
 have hbf := (((HZ1.out.set_ 0 (.int .i64 1)).set_ 1 (.int .i64 P)).set_ 2 (.string ⟨#[]⟩)).set_ 3 (.slice none 0 0)
 have hEF := (((HX1.out.setCell (p := ⟨w.heap.size + 1, 0, none⟩) (by simp) (.int .i64 1)).setCell (p := ⟨w.heap.size + 1, 1, none⟩) (by simp) (.int .i64 P)).setCell (p := ⟨w.heap.size + 1, 2, none⟩) (by simp) (.string ⟨#[]⟩)).setCell (p := ⟨w.heap.size + 1, 3, none⟩) (by simp) (.slice none 0 0)
 generalize (((W1.setCell ⟨w.heap.size + 1, 0, none⟩ (.int .i64 1)).setCell ⟨w.heap.size + 1, 1, none⟩ (.int .i64 P)).setCell ⟨w.heap.size + 1, 2, none⟩ (.string ⟨#[]⟩)).setCell ⟨w.heap.size + 1, 3, none⟩ (.slice none 0 0) = VF at hbf hEF ⊢
 have r0 : VF.cell? ⟨w.heap.size + 1, 0, none⟩ = some (.int .i64 1) := hbf.cell 0
 have r1 : VF.cell? ⟨w.heap.size + 1, 1, none⟩ = some (.int .i64 P) := hbf.cell 1
 have r2 : VF.cell? ⟨w.heap.size + 1, 2, none⟩ = some (.string ⟨#[]⟩) := hbf.cell 2
 have r3 : VF.cell? ⟨w.heap.size + 1, 3, none⟩ = some (.slice none 0 0) := hbf.cell 3
 refine bodyPost_ret (v := .agg #[.int .i64 1, .int .i64 P, .string ⟨#[]⟩, .slice none 0 0]) (by simp [results, Tryz.results52, go_sem, r0, r1, r2, r3]) rfl ⟨rfl, hEF⟩
set_option maxRecDepth 100000 in
set_option maxHeartbeats 4000000 in
theorem refRenamed_any : ∀ (N : Nat) (t : Tm), szT t ≤ N → szT t ≤ 100000000 → ∀ (V : List Int) (AV : Option Addr) (cV : Nat) (A : Option Addr) (c : Nat) (w : World) (D : Nat → Prop), V.length ≤ 1000000000 → TmIn D w t A c → El.Src w AV V.length 1 (V.map iV) → hvT t V = true →
  Calls Tryz.prog 52 #[tmVal t A c, .slice AV V.length cV] w (NumPost (nuT t V) w)
 | 0, t, h => by
  have := szT_pos t
  omega
 | N + 1, .mk k n s l, hN => by
  intro hbig V AV cV A c w D hVl ht hV hhv
  obtain ⟨i1, hi1, hz0, hz1, hz2⟩ := infoP tmInfo4
  have IH := refRenamed_any N
  simp only [szT] at hN hbig
  simp only [hvT] at hhv
  by_cases hk : k = 1
  ·subst hk
   rw [if_pos rfl] at hhv
   have hm := of_decide_eq_true hhv
   rw [show nuT (.mk 1 n s l) V = .mk 1 (plc n V) ⟨#[]⟩ [] by simp [nuT, hm]]
   exact (refRenVar_any n s A l.length c V AV cV w hV hm hVl).mono fun e w' ⟨h1, h2⟩ => ⟨none, 0, h1, TmsIn.term (TmsIn.nil _ _ _ _) _ _ _, h2⟩
  ·have hk2 : (k == 1) = false := by simpa using hk
   rw [if_neg hk] at hhv
   have hpost : ∀ e w', (∃ A' c', e = .returned (.agg #[.int .i64 k, .int .i64 n, .string s, .slice A' l.length c']) ∧ TmIn (fun k => w.heap.size ≤ k ∧ k < w'.heap.size) w' (.mk k n s (nuL l V)) A' c' ∧ Ext w w') → NumPost (nuT (.mk k n s l) V) w e w' := fun e w' ⟨A', c', h1, h2, h3⟩ => by
    rw [show nuT (.mk k n s l) V = .mk k n s (nuL l V) by simp [nuT, hk]]
    refine ⟨A', c', ?_, h2, h3⟩
    rw [h1]
    unfold tmVal
    simp only [Tm.k, Tm.n, Tm.s, Tm.l, nuL_len]
   refine Calls.mono ?_ hpost
   have H := Lib.hid ht
   have HV := Lib.hid hV
   have HHV := Lib.hid hhv
   unfold tmVal
   simp only [Tm.k, Tm.n, Tm.s, Tm.l]
   clear hk hpost ht hV hhv
   go_enter Tryz.func52, Tryz.ntmps52
   go_upto_region 4 with fail
   refine wp_abs (fun W => Hid (Blk W (w.heap.size + 1 + 1) 30 #[.int .i64 k, .int .i64 n, .string s, .slice none 0 0]) ∧ Hid (Blk W (w.heap.size + 1) 30 #[.int .i64 0, .int .i64 0, .string ⟨#[]⟩, .slice none 0 0]) ∧ Hid (Blk W w.heap.size 30 #[.int .i64 k, .int .i64 n, .string s, .slice A l.length c]) ∧ Hid (Ext w W)) ⟨blk3, blk2, ((Blk.new w _ _).alloc _).alloc _, (((Ext.refl w).alloc _).alloc _).alloc _⟩ ?_
   rintro W ⟨HB0, HZ0, HT0, HX0⟩
   have hlw := len_szL l
   go_wp2_with fail
   go_loopw [6] (fun i wr => ∃ (j : Nat) (v : Value) (M : List TmP), j ≤ l.length ∧ i = .int .i64 j ∧ Hid (M.map (·.1) = nuL (l.take j) V) ∧ Hid (RowT w W.heap.size wr v M) ∧ Hid (Blk wr (w.heap.size + 1 + 1) 30 #[.int .i64 k, .int .i64 n, .string s, v]) ∧ Hid (Blk wr (w.heap.size + 1) 30 #[.int .i64 0, .int .i64 0, .string ⟨#[]⟩, .slice none 0 0]) ∧ Hid (Blk wr w.heap.size 30 #[.int .i64 k, .int .i64 n, .string s, .slice A l.length c])) (fun i _ => l.length - (intOf i).toNat)
   case atStart => exact ⟨0, _, [], Nat.zero_le _, rfl, Lib.hid (by simp [nuL]), RowT.start HX0.out, HB0.out, HZ0.out, HT0⟩
   case round =>
    obtain ⟨j, v, M, hj, rfl, HM, HR, HB, HZ, HT⟩ := hrel
    have hMl : M.length = j := by
     have := congrArg List.length HM.out
     simp only [List.length_map, nuL_len, List.length_take] at this
     omega
    subst hMl
    have y0 : wr.cell? ⟨w.heap.size, 0, none⟩ = some (.int .i64 k) := HT.out.cell 0
    have y3 : wr.cell? ⟨w.heap.size, 3, none⟩ = some (.slice A l.length c) := HT.out.cell 3
    by_cases hlt : M.length < l.length
    ·have ho : l[M.length]? = some l[M.length] := List.getElem?_eq_getElem hlt
     have hsu := szL_get ho
     have hst := szL_take ho
     have hsl := szL_take_le l (M.length + 1)
     have hou := hvL_get HHV.out ho
     have hMn : Hid (∀ q : TmP, q.1 = nuT l[M.length] V → (M ++ [q]).map (·.1) = nuL (l.take (M.length + 1)) V) := fun q hq => by
      rw [List.map_append, HM.out, nuL_take V ho]
      simp [hq]
     generalize l[M.length] = u at ho hou hMn hsu hst
     obtain ⟨bb, off, A', c', rfl, _, hu, q0, q1, q2, q3⟩ := (TmIn.ext HR.out.ext H.out).child ho
     obtain ⟨Av, cv, rfl⟩ := own_value HR.out.own
     have HC := fun (W : World) (x : Ext wr W) => Lib.hid (IH u (by omega) (by omega) V AV cV A' c' W D hVl (TmIn.ext x hu) ((HV.out.ext HR.out.ext).ext x) hou)
     unfold tmVal at HC
     have hglt : w.heap.size + 1 + 1 < W.heap.size := HB0.out.lt
     have hVw := HR.out.low
     have z3 : wr.drew.cell? ⟨w.heap.size + 1 + 1, 3, none⟩ = some (.slice Av M.length cv) := HB.out.cell 3
     have y3' : wr.drew.cell? ⟨w.heap.size, 3, none⟩ = some (.slice (some ⟨bb, off, none⟩) l.length c) := y3
     have z4 := ((Ext.refl wr).drew).cell q0
     have z5 := ((Ext.refl wr).drew).cell q1
     have z6 := ((Ext.refl wr).drew).cell q2
     have z7 := ((Ext.refl wr).drew).cell q3
     generalize hnu : nuT u V = nu at *
     have HNU := Lib.hid hnu
     clear ho hu hou hnu
     go_upto_region 7 with fail
     clear q0 q1 q2 q3 y3 y0
     go_region_law ((first | (go_simp; go_at_call 52; refine (HC _ ((Ext.refl wr).drew)).out.mono ?_; rintro e W2 ⟨A2, c2, rfl, ht2, hx2⟩; have y3 := hx2.cell z3; have y4 := (ext_box W2 (.cells #[.int .i64 nu.k, .int .i64 nu.n, .string nu.s, .slice A2 nu.l.length c2] 30)).cell y3; unfold tmVal) | (refine step_append_src (P := Tryz.prog) rfl (.tmp 30) (.tmp 38) 28 rfl 30 i1 _ 4 56 Tryz.underlying28 hi1 hz0 hz1 hz2 rfl (by omega) (.slice Av M.length cv) rfl _ _ _ rfl M.length (flat tmC M) (own_ext HR.out.own (((Ext.refl wr).drew.trans hx2).alloc _)) (tmC (nu, A2, c2)) (El.Src.new _ #[.int .i64 nu.k, .int .i64 nu.n, .string nu.s, .slice A2 nu.l.length c2] _ 1 4 rfl) (tmC_one _) (by unfold maxLen; omega) (by omega) ?_; intro v3 w3 ho3 hm3 hb3; obtain ⟨A3, c3, rfl⟩ := own_value ho3; have hR3 := RowT.step (p := (nu, A2, c2)) HR.out (((Ext.refl wr).drew.trans hx2).alloc _) (kid_new HR.out (Ext.refl wr) ht2) ho3 hm3 hb3; have hB3 := (HB.out.ext (((Ext.refl wr).drew.trans hx2).alloc _)).mods hm3 (HR.out.no hglt); have hZ3 := (HZ.out.ext (((Ext.refl wr).drew.trans hx2).alloc _)).mods hm3 (HR.out.no (by omega)); have hT3 := (HT.out.ext (((Ext.refl wr).drew.trans hx2).alloc _)).mods hm3 (HR.out.no (by omega)); have k3 : w3.cell? ⟨w.heap.size + 1 + 1, 3, none⟩ = some (.slice Av M.length cv) := hB3.cell 3; have f3 := hB3.frozen 3; have HR3 := Lib.hid hR3; have HB3 := Lib.hid hB3; have HZ3 := Lib.hid hZ3; have HT3 := Lib.hid hT3; clear hR3 hB3 hZ3 hT3 ho3 hm3 hb3)))
     all_goals
      go_wp2_with fail
      go_roundw
      case rel => exact ⟨M.length + 1, _, M ++ [(nu, A2, c2)], hlt, by go_num, hMn.out _ rfl, HR3.out.set_ (by omega) hglt 3 _, HB3.out.set_ 3 _, HZ3.out.far (p := ⟨w.heap.size + 1 + 1, 3, none⟩) (by simp) _, HT3.out.far (p := ⟨w.heap.size + 1 + 1, 3, none⟩) (by simp; omega) _⟩
      case measure => simp [intOf]; omega
    ·have hMl : M.length = l.length := by omega
     rw [hMl, List.take_length] at HM
     obtain ⟨A2, c2, rfl, ht2⟩ := HR.out.done k n s
     rw [HM.out] at ht2
     rw [hMl] at HB hlt ⊢
     have b0 : wr.cell? ⟨w.heap.size + 1 + 1, 0, none⟩ = some (.int .i64 k) := HB.out.cell 0
     have b1 : wr.cell? ⟨w.heap.size + 1 + 1, 1, none⟩ = some (.int .i64 n) := HB.out.cell 1
     have b2 : wr.cell? ⟨w.heap.size + 1 + 1, 2, none⟩ = some (.string s) := HB.out.cell 2
     have b3 : wr.cell? ⟨w.heap.size + 1 + 1, 3, none⟩ = some (.slice A2 l.length c2) := HB.out.cell 3
     have zc := HZ.out.cell
     have zf := HZ.out.frozen
     have hgl : w.heap.size + 1 + 1 < W.heap.size := HB0.out.lt
     have hbf := (((HZ.out.set_ 0 (.int .i64 k)).set_ 1 (.int .i64 n)).set_ 2 (.string s)).set_ 3 (.slice A2 l.length c2)
     have hEF := (((HR.out.ext.setCell (p := ⟨w.heap.size + 1, 0, none⟩) (by simp) (.int .i64 k)).setCell (p := ⟨w.heap.size + 1, 1, none⟩) (by simp) (.int .i64 n)).setCell (p := ⟨w.heap.size + 1, 2, none⟩) (by simp) (.string s)).setCell (p := ⟨w.heap.size + 1, 3, none⟩) (by simp) (.slice A2 l.length c2)
     have hTF := TmIn.mods (S := [w.heap.size + 1]) (D' := fun i => w.heap.size ≤ i ∧ i < ((((wr.setCell ⟨w.heap.size + 1, 0, none⟩ (.int .i64 k)).setCell ⟨w.heap.size + 1, 1, none⟩ (.int .i64 n)).setCell ⟨w.heap.size + 1, 2, none⟩ (.string s)).setCell ⟨w.heap.size + 1, 3, none⟩ (.slice A2 l.length c2)).heap.size) (((((Mods.refl _ wr).setCell (p := ⟨w.heap.size + 1, 0, none⟩) (.inl (by simp)) (.int .i64 k)).setCell (p := ⟨w.heap.size + 1, 1, none⟩) (.inl (by simp)) (.int .i64 n)).setCell (p := ⟨w.heap.size + 1, 2, none⟩) (.inl (by simp)) (.string s)).setCell (p := ⟨w.heap.size + 1, 3, none⟩) (.inl (by simp)) (.slice A2 l.length c2)) (fun i hi => by simp; omega) (fun i hi => ⟨by omega, by simpa using hi.2⟩) ht2
     have HBF := Lib.hid hbf
     have HEF := Lib.hid hEF
     have HTF := Lib.hid hTF
     clear hbf hEF hTF ht2 HM HR HB HZ HT
     go_wp2_with fail
     generalize (((wr.setCell ⟨w.heap.size + 1, 0, none⟩ (.int .i64 k)).setCell ⟨w.heap.size + 1, 1, none⟩ (.int .i64 n)).setCell ⟨w.heap.size + 1, 2, none⟩ (.string s)).setCell ⟨w.heap.size + 1, 3, none⟩ (.slice A2 l.length c2) = VF at HBF HEF HTF ⊢
     have r0 : VF.cell? ⟨w.heap.size + 1, 0, none⟩ = some (.int .i64 k) := HBF.out.cell 0
     have r1 : VF.cell? ⟨w.heap.size + 1, 1, none⟩ = some (.int .i64 n) := HBF.out.cell 1
     have r2 : VF.cell? ⟨w.heap.size + 1, 2, none⟩ = some (.string s) := HBF.out.cell 2
     have r3 : VF.cell? ⟨w.heap.size + 1, 3, none⟩ = some (.slice A2 l.length c2) := HBF.out.cell 3
     refine bodyPost_ret (v := .agg #[.int .i64 k, .int .i64 n, .string s, .slice A2 l.length c2]) (by simp [results, Tryz.results52, go_sem, r0, r1, r2, r3]) rfl ⟨A2, c2, rfl, HTF.out, HEF.out⟩
set_option maxRecDepth 100000 in
set_option maxHeartbeats 4000000 in
theorem refRename_any (t : Tm) (A : Option Addr) (c : Nat) (w : World) (D : Nat → Prop) (hbig : szT t ≤ 100000000) (ht : TmIn D w t A c) :
  Calls Tryz.prog 16 #[tmVal t A c] w fun e w' => ∃ A' c', e = .returned (.tuple #[tmVal (rnT t []) A' c', .int .i64 (vsT t []).length]) ∧ TmIn (fun k => w.heap.size ≤ k ∧ k < w'.heap.size) w' (rnT t []) A' c' ∧ Ext w w' := by
 have hlen := (vsT_len t []).1
 simp only [List.length_nil, Nat.zero_add] at hlen
 have hhv := hvT_pre t [] _ (List.prefix_refl (vsT t []))
 have HV := fun (W : World) (x : Ext w W) => Lib.hid (refVars_any t A c W D hbig (ht.ext x))
 have HN := fun (W : World) (x : Ext w W) AV cV (hs : El.Src W AV (vsT t []).length 1 ((vsT t []).map iV)) => Lib.hid (refRenamed_any _ t (Nat.le_refl _) hbig (vsT t []) AV cV A c W D (by omega) (ht.ext x) hs hhv)
 rw [nu_rn] at HN
 generalize vsT t [] = V at *
 generalize rnT t [] = u at *
 obtain ⟨k, n, s, l⟩ := t
 obtain ⟨uk, un, us, ul⟩ := u
 unfold tmVal NumPost at *
 simp only [Tm.k, Tm.n, Tm.s, Tm.l] at *
 unfold tmVal at HN
 simp only [Tm.k, Tm.n, Tm.s, Tm.l] at HN
 clear ht
 go_enter Tryz.func16, Tryz.ntmps16
 go_upto_region 1 with fail
 refine wp_abs (fun W => Hid (Blk W (w.heap.size + 1) 30 #[.int .i64 0, .int .i64 0, .string ⟨#[]⟩, .slice none 0 0]) ∧ Hid (Blk W w.heap.size 30 #[.int .i64 k, .int .i64 n, .string s, .slice A l.length c]) ∧ Hid (Ext w W)) ⟨blk2b, (Blk.new w _ _).alloc _, ((Ext.refl w).alloc _).alloc _⟩ ?_
 rintro W ⟨HZ, HB0, HX0⟩
 have y0 : W.cell? ⟨w.heap.size, 0, none⟩ = some (.int .i64 k) := HB0.out.cell 0
 have y1 : W.cell? ⟨w.heap.size, 1, none⟩ = some (.int .i64 n) := HB0.out.cell 1
 have y2 : W.cell? ⟨w.heap.size, 2, none⟩ = some (.string s) := HB0.out.cell 2
 have y3 : W.cell? ⟨w.heap.size, 3, none⟩ = some (.slice A l.length c) := HB0.out.cell 3
 have HV0 := HV W HX0.out
 clear HV
 go_upto_region 2 with (go_at_call 51; refine HV0.out.mono ?_; rintro e W1 ⟨v, rfl, hi, hx1, _⟩; obtain ⟨AV, cV, rfl⟩ := own_value hi.own; have HI := Lib.hid hi; have HX1 := Lib.hid hx1; clear hi hx1)
 have y0 := HX1.out.cell y0
 have y1 := HX1.out.cell y1
 have y2 := HX1.out.cell y2
 have y3 := HX1.out.cell y3
 have HN1 := HN W1 (HX0.out.trans HX1.out) AV cV (own_src HI.out)
 clear HN
 go_wp2_with (go_at_call 52; refine HN1.out.mono ?_; rintro e W2 ⟨A2, c2, rfl, ht2, hx2⟩; have z0 := HZ.out.ext (HX1.out.trans hx2); have HZ2 := Lib.hid z0; have HX2 := Lib.hid ((HX0.out.trans HX1.out).trans hx2); have HL2 := Lib.hid (Nat.le_trans (HX0.out.trans HX1.out).size (Nat.le_refl _)); have HT2 := Lib.hid ht2; have zc := z0.cell; have zf := z0.frozen; clear hx2 z0 ht2)
 have hgl : w.heap.size + 1 < W1.heap.size := Nat.lt_of_lt_of_le HZ.out.lt HX1.out.size
 have hbf := (((HZ2.out.set_ 0 (.int .i64 uk)).set_ 1 (.int .i64 un)).set_ 2 (.string us)).set_ 3 (.slice A2 ul.length c2)
 have hEF := (((HX2.out.setCell (p := ⟨w.heap.size + 1, 0, none⟩) (by simp) (.int .i64 uk)).setCell (p := ⟨w.heap.size + 1, 1, none⟩) (by simp) (.int .i64 un)).setCell (p := ⟨w.heap.size + 1, 2, none⟩) (by simp) (.string us)).setCell (p := ⟨w.heap.size + 1, 3, none⟩) (by simp) (.slice A2 ul.length c2)
 have hTF := TmIn.mods (S := [w.heap.size + 1]) (D' := fun i => w.heap.size ≤ i ∧ i < ((((W2.setCell ⟨w.heap.size + 1, 0, none⟩ (.int .i64 uk)).setCell ⟨w.heap.size + 1, 1, none⟩ (.int .i64 un)).setCell ⟨w.heap.size + 1, 2, none⟩ (.string us)).setCell ⟨w.heap.size + 1, 3, none⟩ (.slice A2 ul.length c2)).heap.size) (((((Mods.refl _ W2).setCell (p := ⟨w.heap.size + 1, 0, none⟩) (.inl (by simp)) (.int .i64 uk)).setCell (p := ⟨w.heap.size + 1, 1, none⟩) (.inl (by simp)) (.int .i64 un)).setCell (p := ⟨w.heap.size + 1, 2, none⟩) (.inl (by simp)) (.string us)).setCell (p := ⟨w.heap.size + 1, 3, none⟩) (.inl (by simp)) (.slice A2 ul.length c2)) (fun i hi => by simp; omega) (fun i hi => ⟨by omega, by simpa using hi.2⟩) HT2.out
 generalize (((W2.setCell ⟨w.heap.size + 1, 0, none⟩ (.int .i64 uk)).setCell ⟨w.heap.size + 1, 1, none⟩ (.int .i64 un)).setCell ⟨w.heap.size + 1, 2, none⟩ (.string us)).setCell ⟨w.heap.size + 1, 3, none⟩ (.slice A2 ul.length c2) = VF at hbf hEF hTF ⊢
 have r0 : VF.cell? ⟨w.heap.size + 1, 0, none⟩ = some (.int .i64 uk) := hbf.cell 0
 have r1 : VF.cell? ⟨w.heap.size + 1, 1, none⟩ = some (.int .i64 un) := hbf.cell 1
 have r2 : VF.cell? ⟨w.heap.size + 1, 2, none⟩ = some (.string us) := hbf.cell 2
 have r3 : VF.cell? ⟨w.heap.size + 1, 3, none⟩ = some (.slice A2 ul.length c2) := hbf.cell 3
 exact bodyPost_ret (v := .tuple #[.agg #[.int .i64 uk, .int .i64 un, .string us, .slice A2 ul.length c2], .int .i64 V.length]) (by simp [results, Tryz.results16, go_sem, r0, r1, r2, r3]) rfl ⟨A2, c2, rfl, hTF, hEF⟩
end Go.Proofs.YtmnnhdegoapfcaaGreatDoor
