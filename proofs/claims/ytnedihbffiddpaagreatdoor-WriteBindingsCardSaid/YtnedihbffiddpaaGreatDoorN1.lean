/- Layer 11, plain: numbers that are merged, variables by their places in a list: as the program numbers them. No program in sight. -/
import Derived.Test.YtnedihbffiddpaaGreatDoorW31
import Derived.Test.YtnedihbffiddpaaGreatDoorV3
import Derived.BigQuiet
import Derived.Test.YtnedihbffiddpaaGreatDoorW32
import Derived.Test.YtnedihbffiddpaaGreatDoorV12
import Derived.Test.YtnedihbffiddpaaGreatDoorW34
import Derived.Test.YtnedihbffiddpaaGreatDoorW36
import Derived.Test.YtnedihbffiddpaaGreatDoorW38
import Derived.Test.YtnedihbffiddpaaGreatDoorLaw
namespace Go.El

/-- Numbers behind others. -/
def mgV (acc more : List Int) : List Int := more.foldl (fun a n => addV n a) acc
theorem mgV_mem : ∀ {more acc : List Int} {n : Int}, n ∈ acc ∨ n ∈ more → n ∈ mgV acc more
  | [], acc, n, h => by simpa [mgV] using h
  | m :: r, acc, n, h => by
    have ih := @mgV_mem r (addV m acc) n
    refine ih ?_
    rcases h with h | h
    · left
      unfold addV
      split
      · exact h
      · exact List.mem_append_left _ h
    · rcases List.mem_cons.1 h with rfl | h
      · exact .inl (addV_mem _ _)
      · exact .inr h
theorem mgV_snoc (acc more : List Int) (n : Int) : mgV acc (more ++ [n]) = addV n (mgV acc more) := by simp [mgV]
theorem mgV_addV (acc b : List Int) (n : Int) : mgV acc (addV n b) = addV n (mgV acc b) := by
  by_cases h : n ∈ b
  · have h1 : addV n b = b := if_pos h
    have h2 : addV n (mgV acc b) = mgV acc b := if_pos (mgV_mem (.inr h))
    rw [h1, h2]
  · have h1 : addV n b = b ++ [n] := if_neg h
    rw [h1, mgV_snoc]
mutual
theorem mgV_vsT : ∀ (t : Tm) (acc b : List Int), mgV acc (vsT t b) = vsT t (mgV acc b)
  | .mk k n s l, acc, b => by
    simp only [vsT]
    split
    · exact mgV_addV _ _ _
    · exact mgV_vsL l acc b
theorem mgV_vsL : ∀ (l : List Tm) (acc b : List Int), mgV acc (vsL l b) = vsL l (mgV acc b)
  | [], acc, b => by simp [vsL]
  | a :: r, acc, b => by
    simp only [vsL]
    rw [mgV_vsL r acc (vsT a b), mgV_vsT a acc b]
end
/-- The variables of a term, behind others. -/
theorem mgV_vars (t : Tm) (acc : List Int) : mgV acc (vsT t []) = vsT t acc := by
  rw [mgV_vsT]
  rfl

mutual
/-- Variables by their places in a list. -/
def nuT : Tm → List Int → Tm
  | .mk k n s l, V => if k = 1 ∧ n ∈ V then .mk 1 (plc n V) ⟨#[]⟩ [] else .mk k n s (nuL l V)
def nuL : List Tm → List Int → List Tm
  | [], _ => []
  | a :: r, V => nuT a V :: nuL r V
end
theorem nuL_len : ∀ (l : List Tm) (V : List Int), (nuL l V).length = l.length
  | [], _ => rfl
  | a :: r, V => by simp [nuL, nuL_len r]
theorem nuL_take : ∀ {l : List Tm} {j : Nat} {u : Tm} (V : List Int), l[j]? = some u → nuL (l.take (j + 1)) V = nuL (l.take j) V ++ [nuT u V]
  | [], j, u, V, h => by simp at h
  | a :: r, 0, u, V, h => by
    simp at h
    subst h
    simp [nuL]
  | a :: r, j + 1, u, V, h => by
    have := nuL_take (l := r) (j := j) (u := u) V (by simpa using h)
    simp only [List.take_succ_cons, nuL]
    rw [this]
    rfl
theorem plc_pre {n : Int} : ∀ {l r : List Int}, n ∈ l → plc n (l ++ r) = plc n l
  | m :: l, r, h => by
    simp only [List.cons_append, plc]
    split
    · rfl
    · rename_i hne
      have : n ∈ l := by
        rcases List.mem_cons.1 h with e | e
        · exact absurd e.symm hne
        · exact e
      rw [plc_pre this]
theorem addV_pre (n : Int) (l : List Int) : l <+: addV n l := by
  unfold addV
  split
  · exact List.prefix_refl _
  · exact List.prefix_append _ _
mutual
theorem vsT_pre : ∀ (t : Tm) (acc : List Int), acc <+: vsT t acc
  | .mk k n s l, acc => by
    simp only [vsT]
    split
    · exact addV_pre _ _
    · exact vsL_pre l acc
theorem vsL_pre : ∀ (l : List Tm) (acc : List Int), acc <+: vsL l acc
  | [], acc => List.prefix_refl _
  | a :: r, acc => by
    simp only [vsL]
    exact (vsT_pre a acc).trans (vsL_pre r _)
end
mutual
theorem nuT_rnT : ∀ (t : Tm) (acc V : List Int), vsT t acc <+: V → nuT t V = rnT t acc
  | .mk k n s l, acc, V, h => by
    simp only [vsT] at h
    simp only [nuT, rnT]
    by_cases hk : k = 1
    · rw [if_pos hk] at h
      obtain ⟨r, rfl⟩ := h
      have hm := addV_mem n acc
      rw [if_pos hk, if_pos ⟨hk, List.mem_append_left _ hm⟩, plc_pre hm]
    · rw [if_neg hk] at h
      rw [if_neg (fun e => hk e.1), if_neg hk, nuL_rnL l acc V h]
theorem nuL_rnL : ∀ (l : List Tm) (acc V : List Int), vsL l acc <+: V → nuL l V = rnL l acc
  | [], acc, V, _ => rfl
  | a :: r, acc, V, h => by
    simp only [vsL] at h
    simp only [nuL, rnL]
    rw [nuT_rnT a acc V ((vsL_pre r _).trans h), nuL_rnL r (vsT a acc) V h]
end
/-- What the reference numbers is what the program numbers. -/
theorem nu_rn (t : Tm) (acc : List Int) : nuT t (vsT t acc) = rnT t acc := nuT_rnT t acc _ (List.prefix_refl _)
end Go.El

/- Layers 6 and 11, the reference: the walks of vars, Vars, merge. -/
namespace Go.El
theorem addV_yes {n : Int} {l : List Int} (h : n ∈ l) : addV n l = l := if_pos h
theorem addV_no {n : Int} {l : List Int} (h : ¬ n ∈ l) : addV n l = l ++ [n] := if_neg h
def iV (n : Int) : Value := .int .i64 n
end Go.El
namespace Go.Proofs.YtnedihbffiddpaaGreatDoor
open Go.RowKit Go.El

theorem intInfo : (Tryz.prog.info? 3).map (fun i => (i.zero, i.size, i.bytes)) = some (some (.int .i64 0), 1, 8) := by kernel_rfl
/-- A row of numbers that a call has. -/
structure IntsO (w : World) (v : Value) (L : List Int) : Prop where
  own : w.ownsRow 0 3 1 v L.length (L.map iV)
theorem IntsO.ext {w w' : World} {v : Value} {L : List Int} (h : IntsO w v L) (x : Ext w w') : IntsO w' v L := ⟨own_ext h.own x⟩
theorem IntsO.nil (w : World) : IntsO w (.slice none 0 0) [] := ⟨World.ownsRow_nil _ _ _ _⟩
/-- A step of such a row. -/
structure IStep (w w' : World) (v v' : Value) (L' : List Int) : Prop where
  own : IntsO w' v' L'
  mods : Mods (ownL v) w w'
  far : ∀ b, v'.ownBlock = some b → v.ownBlock = some b ∨ w.heap.size ≤ b
theorem IStep.of_ext {w w' : World} {v : Value} {L : List Int} (h : IntsO w v L) (x : Ext w w') : IStep w w' v v L := ⟨h.ext x, Mods.ext x, fun _ hb => .inl hb⟩
theorem IStep.pre {a w w' : World} {v v' : Value} {L' : List Int} (x : Ext a w) (h : IStep w w' v v' L') : IStep a w' v v' L' :=
  ⟨h.own, (Mods.ext x).trans h.mods, fun b hb => (h.far b hb).imp (fun h => h) (fun h => Nat.le_trans x.size h)⟩
theorem IStep.trans {a w w' : World} {v v' v2 : Value} {L L' : List Int} (h : IStep a w v v' L) (k : IStep w w' v' v2 L') : IStep a w' v v2 L' := by
  refine ⟨k.own, Mods.step h.mods k.mods (fun b hb => ?_), fun b hb => ?_⟩
  · rcases h.far b (mem_ownL hb) with h1 | h1
    · exact .inl (by simp [ownL, h1])
    · exact .inr h1
  · rcases k.far b hb with h1 | h1
    · exact h.far b h1
    · exact .inr (Nat.le_trans h.mods.size h1)
theorem ints_one (n : Int) : ∀ u ∈ [iV n], u.oneCell' = true := by
  intro u hu
  simp at hu
  subst hu
  rfl
theorem IStep.app {w w0 w' : World} {v v' : Value} {L : List Int} {n : Int} (x : Ext w w0) (ho : w'.ownsRow 0 3 1 v' (L.length + 1) (L.map iV ++ [iV n])) (hm : Mods (ownL v) w0 w') (hb : v'.ownBlock = v.ownBlock ∨ v'.ownBlock = some w0.heap.size) : IStep w w' v v' (L ++ [n]) := by
  refine ⟨⟨by simpa using ho⟩, (Mods.ext x).trans hm, fun b hb' => ?_⟩
  rcases hb with h | h
  · exact .inl (h.symm.trans hb')
  · have e := h.symm.trans hb'
    injection e with e
    exact .inr (e ▸ x.size)
/-- What is read at a place of a slice of numbers. -/
theorem src_int {w : World} {A : Option Addr} {L : List Int} (h : El.Src w A L.length 1 (L.map iV)) {k : Nat} (hk : k < L.length) : ∃ b off, A = some ⟨b, off, none⟩ ∧ w.cell? ⟨b, off + k, none⟩ = some (.int .i64 L[k]) := by
  obtain ⟨b, off, rfl, hc⟩ := El.Src.form h (by omega) (by omega)
  exact ⟨b, off, rfl, hc k _ (by simp [hk, iV])⟩
theorem not_mem_first {n : Int} {l : List Int} (h : ∀ (j : Nat) (m : Int), j < l.length → l[j]? = some m → ¬ m = n) : ¬ n ∈ l := by
  intro hm
  obtain ⟨j, hj⟩ := List.mem_iff_getElem?.1 hm
  exact h j n (List.getElem?_eq_some_iff.1 hj).1 hj rfl

set_option maxRecDepth 100000 in
set_option maxHeartbeats 4000000 in
theorem varsVar_any (n : Int) (s : ByteArray) (A : Option Addr) (m c : Nat) (L : List Int) (v : Value) (w : World) (hv : IntsO w v L) (hL : L.length ≤ 1000000000) :
    Calls Tryz.prog 53 #[.agg #[.int .i64 1, .int .i64 n, .string s, .slice A m c], v] w fun e w' => ∃ v', e = .returned v' ∧ IStep w w' v v' (addV n L) := by
  obtain ⟨i1, hi1, hz0, hz1, hz2⟩ := infoP intInfo
  obtain ⟨Av, cv, rfl⟩ := own_value hv.own
  have HV := Lib.hid hv
  generalize hL2 : addV n L = L2
  have HL2 := Lib.hid hL2
  clear hv hL2
  go_enter Tryz.func53, Tryz.ntmps53
  go_upto_region 2 with fail
  refine wp_abs (fun V => Hid (Blk V w.heap.size 27 #[.int .i64 1, .int .i64 n, .string s, .slice A m c]) ∧ Hid (Ext w V)) ⟨Blk.new w _ _, (Ext.refl w).alloc _⟩ ?_
  rintro V ⟨HB0, HX0⟩
  go_wp2_with fail
  go_loopw [5] (fun i wr => ∃ j : Nat, j ≤ L.length ∧ i = .int .i64 j ∧ Ext V wr ∧ Hid (∀ (q : Nat) (x : Int), q < j → L[q]? = some x → ¬ x = n)) (fun i _ => L.length - (intOf i).toNat)
  case atStart => exact ⟨0, Nat.zero_le _, rfl, Ext.refl _, Lib.hid (fun q x h => by omega)⟩
  case round =>
    obtain ⟨j, hj, rfl, hx, HN⟩ := hrel
    have y1 : wr.cell? ⟨w.heap.size, 1, none⟩ = some (.int .i64 n) := (HB0.out.ext hx).cell 1
    by_cases hlt : j < L.length
    · obtain ⟨b, off, rfl, e0⟩ := src_int (El.Src.of_own HV.out.own) hlt
      have d0 := (HX0.out.trans hx).cell e0
      have HJ := Lib.hid (List.getElem?_eq_getElem hlt)
      clear e0
      generalize L[j] = x at d0 HJ
      by_cases hq : x = n
      · have hm : n ∈ L := by
          have := List.mem_of_getElem? HJ.out
          rwa [hq] at this
        have HM := Lib.hid (addV_yes hm)
        have q1 : (x == n) = true := by simpa using hq
        clear hq hm
        go_upto_region 5 with fail
        go_region
        all_goals
          go_wp2_with fail
          go_ret
          exact ⟨_, rfl, by rw [← HL2.out, HM.out]; exact IStep.of_ext HV.out (((HX0.out.trans hx)).drew)⟩
      · have q1 : (x == n) = false := by simpa using hq
        have HQ := Lib.hid hq
        clear hq
        go_upto_region 5 with fail
        go_region
        all_goals
          go_wp2_with fail
          go_roundw
          case rel =>
            exact ⟨j + 1, hlt, by go_num, hx.drew, Lib.hid (fun q z hq hz => by
              rcases Nat.lt_succ_iff_lt_or_eq.1 hq with h | rfl
              · exact HN.out q z h hz
              · obtain rfl := Option.some.inj (hz.symm.trans HJ.out)
                exact HQ.out)⟩
          case measure => simp [intOf]; omega
    · obtain rfl : j = L.length := by omega
      have HM := Lib.hid (addV_no (not_mem_first HN.out))
      have hE := HX0.out.trans hx
      go_wp2_with (at_builtin; refine wpList_append_src (P := Tryz.prog) rfl _ _ 66 rfl 3 i1 _ 1 8 Tryz.underlying66 hi1 hz0 hz1 hz2 rfl (by omega) (.slice Av L.length cv) rfl _ _ _ rfl L.length (L.map iV) (own_ext HV.out.own (hE.alloc _)) [iV n] (El.Src.new _ #[.int .i64 n] _ 1 1 rfl) (ints_one n) (by unfold maxLen; omega) (by omega) ?_; intro v3 w3 ho3 hm3 hb3; have HS3 := Lib.hid (IStep.app (hE.alloc _) ho3 hm3 hb3); clear ho3 hm3 hb3)
      go_ret
      exact ⟨_, rfl, by rw [← HL2.out, HM.out]; exact HS3.out⟩

end Go.Proofs.YtnedihbffiddpaaGreatDoor

/- Layer 6, the reference: vars of any term; Vars. -/
namespace Go.Proofs.YtnedihbffiddpaaGreatDoor
open Go.RowKit Go.El

/-- Terms that lie beside a row of numbers are kept by its steps. -/
theorem IStep.tm {w w' : World} {v v' : Value} {L : List Int} {D : Nat → Prop} {u : Tm} {A : Option Addr} {c : Nat} (h : IStep w w' v v' L) (hD : ∀ k, D k → k < w.heap.size ∧ v.ownBlock ≠ some k) (ht : TmIn D w u A c) : TmIn D w' u A c :=
  TmIn.mods h.mods (fun k hk hm => (hD k hk).2 (mem_ownL hm)) (fun _ h => h) ht
theorem IStep.off {w w' : World} {v v' : Value} {L : List Int} {D : Nat → Prop} (h : IStep w w' v v' L) (hD : ∀ k, D k → k < w.heap.size ∧ v.ownBlock ≠ some k) : ∀ k, D k → k < w'.heap.size ∧ v'.ownBlock ≠ some k := fun k hk => by
  refine ⟨Nat.lt_of_lt_of_le (hD k hk).1 h.mods.size, fun e => ?_⟩
  rcases h.far k e with h1 | h1
  · exact (hD k hk).2 h1
  · have := (hD k hk).1
    omega
theorem IStep.blk {w w' : World} {v v' : Value} {L : List Int} {b : Nat} {t : TypeId} {cs : Array Value} (h : IStep w w' v v' L) (hv : v.ownBlock ≠ some b) (hB : Blk w b t cs) : Blk w' b t cs :=
  hB.mods h.mods (fun hm => hv (mem_ownL hm))

set_option maxRecDepth 100000 in
set_option maxHeartbeats 4000000 in
theorem vars_any : ∀ (N : Nat) (t : Tm), szT t ≤ N → szT t ≤ 100000000 → ∀ (L : List Int) (A : Option Addr) (c : Nat) (v : Value) (w : World) (D : Nat → Prop), L.length + szT t ≤ 1000000000 → TmIn D w t A c → (∀ k, D k → k < w.heap.size ∧ v.ownBlock ≠ some k) → IntsO w v L →
    Calls Tryz.prog 53 #[tmVal t A c, v] w fun e w' => ∃ v', e = .returned v' ∧ IStep w w' v v' (vsT t L)
  | 0, t, h => by
    have := szT_pos t
    omega
  | N + 1, .mk k n s l, hN => by
    intro hbig L A c v w D hL ht hD hv
    have IH := vars_any N
    simp only [szT] at hN hbig hL
    unfold tmVal
    simp only [Tm.k, Tm.n, Tm.s, Tm.l]
    by_cases hk : k = 1
    · subst hk
      rw [show vsT (.mk 1 n s l) L = addV n L by simp [vsT]]
      exact varsVar_any n s A l.length c L v w hv (by omega)
    · have q1 : (k == 1) = false := by simpa using hk
      rw [show vsT (.mk k n s l) L = vsL l L by simp [vsT, hk]]
      have hlw := len_szL l
      generalize hL2 : vsL l L = L2
      have HL2 := Lib.hid hL2
      have HT := Lib.hid ht
      have HD := Lib.hid hD
      have HV := Lib.hid hv
      clear hk hL2 ht hD hv
      go_enter Tryz.func53, Tryz.ntmps53
      go_upto_region 8 with fail
      refine wp_abs (fun V => Hid (Blk V w.heap.size 27 #[.int .i64 k, .int .i64 n, .string s, .slice A l.length c]) ∧ Hid (Ext w V) ∧ Hid (w.heap.size < V.heap.size)) ⟨Blk.new w _ _, (Ext.refl w).alloc _, Lib.hid (by simp)⟩ ?_
      rintro V ⟨HB0, HX0, HW0⟩
      go_wp2_with fail
      go_loopw [1, 6] (fun v' i wr => ∃ j : Nat, j ≤ l.length ∧ i = .int .i64 j ∧ Hid (IStep V wr v v' (vsL (l.take j) L))) (fun _ i _ => l.length - (intOf i).toNat)
      case atStart => exact ⟨0, Nat.zero_le _, rfl, Lib.hid (by simpa [vsL] using IStep.of_ext (HV.out.ext HX0.out) (Ext.refl _))⟩
      case round =>
        obtain ⟨j, hj, rfl, HS⟩ := hrel
        have hvb : v.ownBlock ≠ some w.heap.size := fun e => by
          have := (HV.out.own.lt _ e).2
          omega
        have hbl := HS.out.blk hvb HB0.out
        have y0 : wr.cell? ⟨w.heap.size, 0, none⟩ = some (.int .i64 k) := hbl.cell 0
        have y3 : wr.cell? ⟨w.heap.size, 3, none⟩ = some (.slice A l.length c) := hbl.cell 3
        clear hbl
        by_cases hlt : j < l.length
        · have ho : l[j]? = some l[j] := List.getElem?_eq_getElem hlt
          have hsu := szL_get ho
          have hst := szL_take ho
          have hsl := szL_take_le l (j + 1)
          have hlv := (vsL_len (l.take j) L).1
          have HTK := Lib.hid (vsL_take L ho)
          generalize l[j] = u at *
          generalize vsL (l.take j) L = vs at *
          have hDV : ∀ k, D k → k < V.heap.size ∧ v.ownBlock ≠ some k := fun k hk => ⟨by have := (HD.out k hk).1; have := HW0.out; omega, (HD.out k hk).2⟩
          obtain ⟨bb, off, A', c', rfl, _, hu, q0, q1, q2, q3⟩ := (HS.out.tm hDV (HT.out.ext HX0.out)).child ho
          have HC := Lib.hid (IH u (by omega) (by omega) vs A' c' u1 wr D (by omega) hu (HS.out.off hDV) HS.out.own)
          unfold tmVal at HC
          clear hu hDV ho
          go_wp2_with (go_at_call 53; refine HC.out.mono ?_; rintro e W1 ⟨v2, rfl, h2⟩; have HS2 := Lib.hid (HS.out.trans h2); clear h2)
          go_roundw
          case rel => exact ⟨j + 1, hlt, by go_num, Lib.hid (by rw [HTK.out]; exact HS2.out)⟩
          case measure => simp [intOf]; omega
        · obtain rfl : j = l.length := by omega
          rw [List.take_length] at HS
          go_wp2_with fail
          go_ret
          exact ⟨_, rfl, by rw [← HL2.out]; exact IStep.pre HX0.out HS.out⟩

set_option maxRecDepth 100000 in
theorem refVars_any (t : Tm) (A : Option Addr) (c : Nat) (w : World) (D : Nat → Prop) (hbig : szT t ≤ 100000000) (ht : TmIn D w t A c) :
    Calls Tryz.prog 31 #[tmVal t A c] w fun e w' => ∃ v', e = .returned v' ∧ IntsO w' v' (vsT t []) ∧ Ext w w' ∧ (∀ b, v'.ownBlock = some b → w.heap.size ≤ b) := by
  have hx := ext_box w (.cells #[.int .i64 t.k, .int .i64 t.n, .string t.s, .slice A t.l.length c] 27)
  have HC := Lib.hid (vars_any (szT t) t (Nat.le_refl _) hbig [] A c (.slice none 0 0) _ _ (by simp; omega) (ht.lt.ext hx) (fun k hk => ⟨by have := hx.size; omega, by simp [Value.ownBlock]⟩) (IntsO.nil _))
  unfold tmVal at HC ⊢
  clear ht
  go_enter Tryz.func31, Tryz.ntmps31
  go_wp2_with (go_at_call 53; refine HC.out.mono ?_; rintro e W1 ⟨v2, rfl, h2⟩)
  go_ret
  exact ⟨_, rfl, h2.own, (hx.trans (Mods.toExt h2.mods (by simp [ownL, Value.ownBlock]))), fun b hb => by
    rcases h2.far b hb with h | h
    · simp [Value.ownBlock] at h
    · exact Nat.le_trans hx.size h⟩

end Go.Proofs.YtnedihbffiddpaaGreatDoor

/- Layer 11, the reference: the walk of merge. -/
namespace Go.El
theorem mgV_take {M : List Int} {i : Nat} {x : Int} (L : List Int) (h : M[i]? = some x) : mgV L (M.take (i + 1)) = addV x (mgV L (M.take i)) := by
  obtain ⟨hi, e⟩ := List.getElem?_eq_some_iff.1 h
  rw [List.take_succ_eq_append_getElem hi, e, mgV_snoc]
theorem mgV_len : ∀ (M L : List Int), (mgV L M).length ≤ L.length + M.length
  | [], L => by simp [mgV]
  | x :: M, L => by
    have h1 := mgV_len M (addV x L)
    have h2 := (addV_len x L).1
    have e : mgV L (x :: M) = mgV (addV x L) M := rfl
    rw [e]
    simp
    omega
theorem memT {P : List Int} {k : Nat} {y x : Int} (h : P[k]? = some y) : decide (x ∈ P.take (k + 1)) = (decide (x ∈ P.take k) || decide (y = x)) := by
  obtain ⟨hi, e⟩ := List.getElem?_eq_some_iff.1 h
  rw [List.take_succ_eq_append_getElem hi, e]
  by_cases h1 : x ∈ P.take k <;> by_cases h2 : y = x <;> simp [h1, h2] <;> (intro h3; exact h2 h3.symm)
end Go.El
namespace Go.Proofs.YtnedihbffiddpaaGreatDoor
open Go.RowKit Go.El

theorem IStep.src {w w' : World} {v v' : Value} {L : List Int} {A : Option Addr} {m k : Nat} {xs : List Value} (h : IStep w w' v v' L) (hA : ∀ a, A = some a → v.ownBlock ≠ some a.block) (hs : El.Src w A m k xs) : El.Src w' A m k xs :=
  hs.mods h.mods (fun a ha hm => hA a ha (mem_ownL hm))

set_option maxRecDepth 100000 in
set_option maxHeartbeats 4000000 in
theorem merge_any (L M : List Int) (v : Value) (A : Option Addr) (c : Nat) (w : World) (hv : IntsO w v L) (hs : El.Src w A M.length 1 (M.map iV)) (hA : ∀ a, A = some a → v.ownBlock ≠ some a.block) (hL : L.length + M.length ≤ 1000000000) :
    Calls Tryz.prog 30 #[v, .slice A M.length c] w fun e w' => ∃ v', e = .returned v' ∧ IStep w w' v v' (mgV L M) := by
  obtain ⟨i1, hi1, hz0, hz1, hz2⟩ := infoP intInfo
  have HV := Lib.hid hv
  have HS := Lib.hid hs
  have HA := Lib.hid hA
  generalize hL2 : mgV L M = L2
  have HL2 := Lib.hid hL2
  clear hv hs hA hL2
  go_enter Tryz.func30, Tryz.ntmps30
  go_wp2_with fail
  go_loopw [0, 5] (fun v' i wr => ∃ j : Nat, j ≤ M.length ∧ i = .int .i64 j ∧ Hid (IStep w wr v v' (mgV L (M.take j)))) (fun _ i _ => M.length - (intOf i).toNat)
  case atStart => exact ⟨0, Nat.zero_le _, rfl, Lib.hid (by simpa [mgV] using IStep.of_ext HV.out (Ext.refl _))⟩
  case round =>
    obtain ⟨j, hj, rfl, HI⟩ := hrel
    by_cases hlt : j < M.length
    · have ho : M[j]? = some M[j] := List.getElem?_eq_getElem hlt
      have hpl := mgV_len (M.take j) L
      have htl : (M.take j).length ≤ j := by simp; omega
      have HTK := Lib.hid (mgV_take L ho)
      obtain ⟨b, off, hAe, e0⟩ := src_int HS.out hlt
      have HE0 := Lib.hid e0
      have hbn := HA.out _ hAe
      have e1 : wr.cell? ⟨b, off + j, none⟩ = some (.int .i64 M[j]) := HI.out.mods.cell e0 (fun hm => hbn (mem_ownL hm))
      clear e0 ho
      generalize M[j] = x at *
      generalize mgV L (M.take j) = P at *
      obtain ⟨Av, cv, rfl⟩ := own_value HI.out.own.own
      subst hAe
      go_wp2_with fail
      obtain ⟨wo, rfl⟩ : ∃ wo : World, wo = wr := ⟨_, rfl⟩
      go_loopw [6, 7] (fun is i wr => ∃ k : Nat, k ≤ P.length ∧ i = .int .i64 k ∧ is = .bool (decide (x ∈ P.take k)) ∧ Ext wo wr) (fun _ i _ => P.length - (intOf i).toNat)
      case atStart => exact ⟨0, Nat.zero_le _, rfl, by simp, Ext.refl _⟩
      case round =>
        obtain ⟨k, hk, rfl, rfl, hx⟩ := hrel
        by_cases hkt : k < P.length
        · obtain ⟨bp, op, hAp, f0⟩ := src_int (El.Src.of_own HI.out.own.own) hkt
          have hok : P[k]? = some P[k] := List.getElem?_eq_getElem hkt
          have HMT := Lib.hid (memT (x := x) hok)
          have f1 := hx.cell f0
          have e2 := hx.cell e1
          clear hok f0
          generalize P[k] = y at *
          subst hAp
          by_cases hmem : x ∈ P.take k
          · have q0 : decide (x ∈ P.take k) = true := decide_eq_true hmem
            rw [q0] at HMT ⊢
            clear hmem q0
            go_upto_region 8 with fail
            go_quiet (fail)
            go_wp2_with fail
            go_roundw
            case rel => exact ⟨k + 1, hkt, by go_num, by rw [HMT.out]; simp, hx.drewN _⟩
            case measure => simp [intOf]; omega
          · have q0 : decide (x ∈ P.take k) = false := decide_eq_false hmem
            rw [q0] at HMT ⊢
            clear hmem q0
            go_upto_region 8 with fail
            go_quiet (fail)
            go_wp2_with fail
            go_roundw
            case rel => exact ⟨k + 1, hkt, by go_num, by rw [HMT.out]; exact congrArg Value.bool (by simp [BEq.beq]), hx.drewN _⟩
            case measure => simp [intOf]; omega
        · obtain rfl : k = P.length := by omega
          rw [List.take_length]
          have e2 := hx.cell e1
          by_cases hmem : x ∈ P
          · have q0 : decide (x ∈ P) = true := decide_eq_true hmem
            have HQ := Lib.hid (addV_yes hmem)
            rw [q0]
            clear hmem q0
            go_wp2_with fail
            go_roundw
            case rel => exact ⟨j + 1, hlt, by go_num, Lib.hid (by rw [HTK.out, HQ.out]; exact HI.out.trans (IStep.of_ext HI.out.own hx))⟩
            case measure => simp [intOf]; omega
          · have q0 : decide (x ∈ P) = false := decide_eq_false hmem
            have HQ := Lib.hid (addV_no hmem)
            rw [q0]
            clear hmem q0
            go_wp2_with (at_builtin; refine wpList_append_src (P := Tryz.prog) rfl _ _ 66 rfl 3 i1 _ 1 8 Tryz.underlying66 hi1 hz0 hz1 hz2 rfl (by omega) (.slice Av P.length cv) rfl _ _ _ rfl P.length (P.map iV) (own_ext HI.out.own.own (hx.alloc _)) [iV x] (El.Src.new _ #[.int .i64 x] _ 1 1 rfl) (ints_one x) (by unfold maxLen; omega) (by omega) ?_; intro v3 w3 ho3 hm3 hb3; have HS3 := Lib.hid (IStep.app (hx.alloc _) ho3 hm3 hb3); clear ho3 hm3 hb3)
            go_roundw
            case rel => exact ⟨j + 1, hlt, by go_num, Lib.hid (by rw [HTK.out, HQ.out]; exact HI.out.trans HS3.out)⟩
            case measure => simp [intOf]; omega
    · obtain rfl : j = M.length := by omega
      rw [List.take_length] at HI
      go_wp2_with fail
      go_ret
      exact ⟨_, rfl, by rw [← HL2.out]; exact HI.out⟩

end Go.Proofs.YtnedihbffiddpaaGreatDoor

/- Layer 11, the reference: the walk of numbered. -/
namespace Go.El
mutual
/-- Are all variables among these? -/
def hvT : Tm → List Int → Bool
  | .mk k n _ l, V => if k = 1 then decide (n ∈ V) else hvL l V
def hvL : List Tm → List Int → Bool
  | [], _ => true
  | a :: r, V => hvT a V && hvL r V
end
theorem hvL_get : ∀ {l : List Tm} {j : Nat} {u : Tm} {V : List Int}, hvL l V = true → l[j]? = some u → hvT u V = true
  | [], j, u, V, _, h => by simp at h
  | a :: r, 0, u, V, ho, h => by
    simp at h
    subst h
    simp only [hvL, Bool.and_eq_true] at ho
    exact ho.1
  | a :: r, j + 1, u, V, ho, h => by
    simp only [hvL, Bool.and_eq_true] at ho
    exact hvL_get ho.2 (by simpa using h)
mutual
theorem hvT_pre : ∀ (t : Tm) (acc V : List Int), vsT t acc <+: V → hvT t V = true
  | .mk k n s l, acc, V, h => by
    simp only [vsT] at h
    simp only [hvT]
    by_cases hk : k = 1
    · rw [if_pos hk] at h
      rw [if_pos hk]
      exact decide_eq_true (h.subset (addV_mem n acc))
    · rw [if_neg hk] at h
      rw [if_neg hk]
      exact hvL_pre l acc V h
theorem hvL_pre : ∀ (l : List Tm) (acc V : List Int), vsL l acc <+: V → hvL l V = true
  | [], acc, V, _ => rfl
  | a :: r, acc, V, h => by
    simp only [vsL] at h
    simp only [hvL, Bool.and_eq_true]
    exact ⟨hvT_pre a acc V ((vsL_pre r _).trans h), hvL_pre r (vsT a acc) V h⟩
end
theorem plc_first {n : Int} : ∀ {l : List Int} {j : Nat}, (∀ (q : Nat) (x : Int), q < j → l[q]? = some x → ¬ x = n) → l[j]? = some n → plc n l = j
  | [], j, _, h => by simp at h
  | m :: l, 0, _, h => by
    simp at h
    simp [plc, h]
  | m :: l, j + 1, hn, h => by
    have h0 : ¬ m = n := hn 0 m (by omega) rfl
    have := plc_first (l := l) (j := j) (fun q x hq hx => hn (q + 1) x (by omega) (by simpa using hx)) (by simpa using h)
    simp [plc, h0, this]
end Go.El
namespace Go.Proofs.YtnedihbffiddpaaGreatDoor
open Go.RowKit Go.El

def NumPost (t : Tm) (w : World) (e : Ending) (w' : World) : Prop :=
  ∃ A' c', e = .returned (tmVal t A' c') ∧ TmIn (fun k => w.heap.size ≤ k ∧ k < w'.heap.size) w' t A' c' ∧ Ext w w'

set_option maxRecDepth 100000 in
set_option maxHeartbeats 4000000 in
theorem numVar_any (n : Int) (s : ByteArray) (A : Option Addr) (m c : Nat) (V : List Int) (AV : Option Addr) (cV : Nat) (w : World) (hV : El.Src w AV V.length 1 (V.map iV)) (hn : n ∈ V) (hl : V.length ≤ 1000000000) :
    Calls Tryz.prog 33 #[.agg #[.int .i64 1, .int .i64 n, .string s, .slice A m c], .slice AV V.length cV] w fun e w' => e = .returned (.agg #[.int .i64 1, .int .i64 (plc n V), .string ⟨#[]⟩, .slice none 0 0]) ∧ Ext w w' := by
  have HV := Lib.hid hV
  have HI := Lib.hid hn
  generalize hP : plc n V = P
  have HP := Lib.hid hP
  clear hV hn hP
  go_enter Tryz.func33, Tryz.ntmps33
  go_upto_region 2 with fail
  refine wp_abs (fun W => Hid (Blk W (w.heap.size + 1) 27 #[.int .i64 0, .int .i64 0, .string ⟨#[]⟩, .slice none 0 0]) ∧ Hid (Blk W w.heap.size 27 #[.int .i64 1, .int .i64 n, .string s, .slice A m c]) ∧ Hid (Ext w W)) ⟨blk2b, (Blk.new w _ _).alloc _, ((Ext.refl w).alloc _).alloc _⟩ ?_
  rintro W ⟨HZ, HB0, HX0⟩
  go_wp2_with fail
  go_loopw [5] (fun i wr => ∃ j : Nat, j ≤ V.length ∧ i = .int .i64 j ∧ Ext W wr ∧ Hid (∀ (q : Nat) (x : Int), q < j → V[q]? = some x → ¬ x = n)) (fun i _ => V.length - (intOf i).toNat)
  case atStart => exact ⟨0, Nat.zero_le _, rfl, Ext.refl _, Lib.hid (fun q x h => by omega)⟩
  case round =>
    obtain ⟨j, hj, rfl, hx, HN⟩ := hrel
    have y1 : wr.cell? ⟨w.heap.size, 1, none⟩ = some (.int .i64 n) := (HB0.out.ext hx).cell 1
    by_cases hlt : j < V.length
    · obtain ⟨b, off, rfl, e0⟩ := src_int HV.out hlt
      have d0 := (HX0.out.trans hx).cell e0
      have HJ := Lib.hid (List.getElem?_eq_getElem hlt)
      clear e0
      generalize V[j] = x at d0 HJ
      by_cases hq : x = n
      · have hpl : P = j := by
          rw [← HP.out]
          exact plc_first HN.out (by rw [HJ.out, hq])
        have q1 : (x == n) = true := by simpa using hq
        subst hpl
        clear hq
        go_upto_region 5 with fail
        go_region
        all_goals
          go_wp2_with (go_at_call 20; refine (refVar_any _ _).mono ?_; rintro e W1 ⟨rfl, hx1⟩; have z0 := (HZ.out.ext hx).ext ((Ext.refl _).drew.trans hx1); have HZ1 := Lib.hid z0; have HX1 := Lib.hid ((HX0.out.trans hx).trans ((Ext.refl _).drew.trans hx1)); have zc := z0.cell; have zf := z0.frozen; clear hx1 z0)
          have hbf := (((HZ1.out.set_ 0 (.int .i64 1)).set_ 1 (.int .i64 P)).set_ 2 (.string ⟨#[]⟩)).set_ 3 (.slice none 0 0)
          have hEF := (((HX1.out.setCell (p := ⟨w.heap.size + 1, 0, none⟩) (by simp) (.int .i64 1)).setCell (p := ⟨w.heap.size + 1, 1, none⟩) (by simp) (.int .i64 P)).setCell (p := ⟨w.heap.size + 1, 2, none⟩) (by simp) (.string ⟨#[]⟩)).setCell (p := ⟨w.heap.size + 1, 3, none⟩) (by simp) (.slice none 0 0)
          generalize (((W1.setCell ⟨w.heap.size + 1, 0, none⟩ (.int .i64 1)).setCell ⟨w.heap.size + 1, 1, none⟩ (.int .i64 P)).setCell ⟨w.heap.size + 1, 2, none⟩ (.string ⟨#[]⟩)).setCell ⟨w.heap.size + 1, 3, none⟩ (.slice none 0 0) = VF at hbf hEF ⊢
          have r0 : VF.cell? ⟨w.heap.size + 1, 0, none⟩ = some (.int .i64 1) := hbf.cell 0
          have r1 : VF.cell? ⟨w.heap.size + 1, 1, none⟩ = some (.int .i64 P) := hbf.cell 1
          have r2 : VF.cell? ⟨w.heap.size + 1, 2, none⟩ = some (.string ⟨#[]⟩) := hbf.cell 2
          have r3 : VF.cell? ⟨w.heap.size + 1, 3, none⟩ = some (.slice none 0 0) := hbf.cell 3
          refine bodyPost_ret (v := .agg #[.int .i64 1, .int .i64 P, .string ⟨#[]⟩, .slice none 0 0]) (by simp [results, Tryz.results33, go_sem, r0, r1, r2, r3]) rfl ⟨rfl, hEF⟩
      · have q1 : (x == n) = false := by simpa using hq
        have HQ := Lib.hid hq
        clear hq
        go_upto_region 5 with fail
        go_region
        all_goals
          go_wp2_with fail
          go_roundw
          case rel =>
            exact ⟨j + 1, hlt, by go_num, hx.drew, Lib.hid (fun q z hq hz => by
              rcases Nat.lt_succ_iff_lt_or_eq.1 hq with h | rfl
              · exact HN.out q z h hz
              · obtain rfl := Option.some.inj (hz.symm.trans HJ.out)
                exact HQ.out)⟩
          case measure => simp [intOf]; omega
    · obtain rfl : j = V.length := by omega
      exact absurd HI.out (not_mem_first HN.out)

set_option maxRecDepth 100000 in
set_option maxHeartbeats 4000000 in
theorem numbered_any : ∀ (N : Nat) (t : Tm), szT t ≤ N → szT t ≤ 100000000 → ∀ (V : List Int) (AV : Option Addr) (cV : Nat) (A : Option Addr) (c : Nat) (w : World) (D : Nat → Prop), V.length ≤ 1000000000 → TmIn D w t A c → El.Src w AV V.length 1 (V.map iV) → hvT t V = true →
    Calls Tryz.prog 33 #[tmVal t A c, .slice AV V.length cV] w (NumPost (nuT t V) w)
  | 0, t, h => by
    have := szT_pos t
    omega
  | N + 1, .mk k n s l, hN => by
    intro hbig V AV cV A c w D hVl ht hV hhv
    obtain ⟨i1, hi1, hz0, hz1, hz2⟩ := infoP tmInfo4
    have IH := numbered_any N
    simp only [szT] at hN hbig
    simp only [hvT] at hhv
    by_cases hk : k = 1
    · subst hk
      rw [if_pos rfl] at hhv
      have hm := of_decide_eq_true hhv
      rw [show nuT (.mk 1 n s l) V = .mk 1 (plc n V) ⟨#[]⟩ [] by simp [nuT, hm]]
      exact (numVar_any n s A l.length c V AV cV w hV hm hVl).mono fun e w' ⟨h1, h2⟩ => ⟨none, 0, h1, TmsIn.term (TmsIn.nil _ _ _ _) _ _ _, h2⟩
    · have hk2 : (k == 1) = false := by simpa using hk
      rw [if_neg hk] at hhv
      have hpost : ∀ e w', (∃ A' c', e = .returned (.agg #[.int .i64 k, .int .i64 n, .string s, .slice A' l.length c']) ∧ TmIn (fun k => w.heap.size ≤ k ∧ k < w'.heap.size) w' (.mk k n s (nuL l V)) A' c' ∧ Ext w w') → NumPost (nuT (.mk k n s l) V) w e w' := fun e w' ⟨A', c', h1, h2, h3⟩ => by
        rw [show nuT (.mk k n s l) V = .mk k n s (nuL l V) by simp [nuT, hk]]
        refine ⟨A', c', ?_, h2, h3⟩
        rw [h1]
        unfold tmVal
        simp only [Tm.k, Tm.n, Tm.s, Tm.l, nuL_len]
      refine Calls.mono ?_ hpost
      have H := Lib.hid ht
      have HV := Lib.hid hV
      have HHV := Lib.hid hhv
      unfold tmVal
      simp only [Tm.k, Tm.n, Tm.s, Tm.l]
      clear hk hpost ht hV hhv
      go_enter Tryz.func33, Tryz.ntmps33
      go_upto_region 9 with fail
      refine wp_abs (fun W => Hid (Blk W (w.heap.size + 1 + 1) 27 #[.int .i64 k, .int .i64 n, .string s, .slice none 0 0]) ∧ Hid (Blk W (w.heap.size + 1) 27 #[.int .i64 0, .int .i64 0, .string ⟨#[]⟩, .slice none 0 0]) ∧ Hid (Blk W w.heap.size 27 #[.int .i64 k, .int .i64 n, .string s, .slice A l.length c]) ∧ Hid (Ext w W)) ⟨blk3, blk2, ((Blk.new w _ _).alloc _).alloc _, (((Ext.refl w).alloc _).alloc _).alloc _⟩ ?_
      rintro W ⟨HB0, HZ0, HT0, HX0⟩
      have hlw := len_szL l
      go_wp2_with fail
      go_loopw [7] (fun i wr => ∃ (j : Nat) (v : Value) (M : List TmP), j ≤ l.length ∧ i = .int .i64 j ∧ Hid (M.map (·.1) = nuL (l.take j) V) ∧ Hid (RowT w W.heap.size wr v M) ∧ Hid (Blk wr (w.heap.size + 1 + 1) 27 #[.int .i64 k, .int .i64 n, .string s, v]) ∧ Hid (Blk wr (w.heap.size + 1) 27 #[.int .i64 0, .int .i64 0, .string ⟨#[]⟩, .slice none 0 0]) ∧ Hid (Blk wr w.heap.size 27 #[.int .i64 k, .int .i64 n, .string s, .slice A l.length c])) (fun i _ => l.length - (intOf i).toNat)
      case atStart => exact ⟨0, _, [], Nat.zero_le _, rfl, Lib.hid (by simp [nuL]), RowT.start HX0.out, HB0.out, HZ0.out, HT0⟩
      case round =>
        obtain ⟨j, v, M, hj, rfl, HM, HR, HB, HZ, HT⟩ := hrel
        have hMl : M.length = j := by
          have := congrArg List.length HM.out
          simp only [List.length_map, nuL_len, List.length_take] at this
          omega
        subst hMl
        have y0 : wr.cell? ⟨w.heap.size, 0, none⟩ = some (.int .i64 k) := HT.out.cell 0
        have y3 : wr.cell? ⟨w.heap.size, 3, none⟩ = some (.slice A l.length c) := HT.out.cell 3
        by_cases hlt : M.length < l.length
        · have ho : l[M.length]? = some l[M.length] := List.getElem?_eq_getElem hlt
          have hsu := szL_get ho
          have hst := szL_take ho
          have hsl := szL_take_le l (M.length + 1)
          have hou := hvL_get HHV.out ho
          have hMn : Hid (∀ q : TmP, q.1 = nuT l[M.length] V → (M ++ [q]).map (·.1) = nuL (l.take (M.length + 1)) V) := fun q hq => by
            rw [List.map_append, HM.out, nuL_take V ho]
            simp [hq]
          generalize l[M.length] = u at ho hou hMn hsu hst
          obtain ⟨bb, off, A', c', rfl, _, hu, q0, q1, q2, q3⟩ := (TmIn.ext HR.out.ext H.out).child ho
          obtain ⟨Av, cv, rfl⟩ := own_value HR.out.own
          have HC := fun (W : World) (x : Ext wr W) => Lib.hid (IH u (by omega) (by omega) V AV cV A' c' W D hVl (TmIn.ext x hu) ((HV.out.ext HR.out.ext).ext x) hou)
          unfold tmVal at HC
          have hglt : w.heap.size + 1 + 1 < W.heap.size := HB0.out.lt
          have hVw := HR.out.low
          have z3 : wr.drew.cell? ⟨w.heap.size + 1 + 1, 3, none⟩ = some (.slice Av M.length cv) := HB.out.cell 3
          have y3' : wr.drew.cell? ⟨w.heap.size, 3, none⟩ = some (.slice (some ⟨bb, off, none⟩) l.length c) := y3
          have z4 := ((Ext.refl wr).drew).cell q0
          have z5 := ((Ext.refl wr).drew).cell q1
          have z6 := ((Ext.refl wr).drew).cell q2
          have z7 := ((Ext.refl wr).drew).cell q3
          generalize hnu : nuT u V = nu at *
          have HNU := Lib.hid hnu
          clear ho hu hou hnu
          go_upto_region 11 with fail
          clear q0 q1 q2 q3 y3 y0
          go_region_law ((first | (go_simp; go_at_call 33; refine (HC _ ((Ext.refl wr).drew)).out.mono ?_; rintro e W2 ⟨A2, c2, rfl, ht2, hx2⟩; have y3 := hx2.cell z3; have y4 := (ext_box W2 (.cells #[.int .i64 nu.k, .int .i64 nu.n, .string nu.s, .slice A2 nu.l.length c2] 27)).cell y3; unfold tmVal) | (refine step_append_src (P := Tryz.prog) rfl (.tmp 41) (.tmp 49) 23 rfl 27 i1 _ 4 56 Tryz.underlying23 hi1 hz0 hz1 hz2 rfl (by omega) (.slice Av M.length cv) rfl _ _ _ rfl M.length (flat tmC M) (own_ext HR.out.own (((Ext.refl wr).drew.trans hx2).alloc _)) (tmC (nu, A2, c2)) (El.Src.new _ #[.int .i64 nu.k, .int .i64 nu.n, .string nu.s, .slice A2 nu.l.length c2] _ 1 4 rfl) (tmC_one _) (by unfold maxLen; omega) (by omega) ?_; intro v3 w3 ho3 hm3 hb3; obtain ⟨A3, c3, rfl⟩ := own_value ho3; have hR3 := RowT.step (p := (nu, A2, c2)) HR.out (((Ext.refl wr).drew.trans hx2).alloc _) (kid_new HR.out (Ext.refl wr) ht2) ho3 hm3 hb3; have hB3 := (HB.out.ext (((Ext.refl wr).drew.trans hx2).alloc _)).mods hm3 (HR.out.no hglt); have hZ3 := (HZ.out.ext (((Ext.refl wr).drew.trans hx2).alloc _)).mods hm3 (HR.out.no (by omega)); have hT3 := (HT.out.ext (((Ext.refl wr).drew.trans hx2).alloc _)).mods hm3 (HR.out.no (by omega)); have k3 : w3.cell? ⟨w.heap.size + 1 + 1, 3, none⟩ = some (.slice Av M.length cv) := hB3.cell 3; have f3 := hB3.frozen 3; have HR3 := Lib.hid hR3; have HB3 := Lib.hid hB3; have HZ3 := Lib.hid hZ3; have HT3 := Lib.hid hT3; clear hR3 hB3 hZ3 hT3 ho3 hm3 hb3)))
          all_goals
            go_wp2_with fail
            go_roundw
            case rel => exact ⟨M.length + 1, _, M ++ [(nu, A2, c2)], hlt, by go_num, hMn.out _ rfl, HR3.out.set_ (by omega) hglt 3 _, HB3.out.set_ 3 _, HZ3.out.far (p := ⟨w.heap.size + 1 + 1, 3, none⟩) (by simp) _, HT3.out.far (p := ⟨w.heap.size + 1 + 1, 3, none⟩) (by simp; omega) _⟩
            case measure => simp [intOf]; omega
        · have hMl : M.length = l.length := by omega
          rw [hMl, List.take_length] at HM
          obtain ⟨A2, c2, rfl, ht2⟩ := HR.out.done k n s
          rw [HM.out] at ht2
          rw [hMl] at HB hlt ⊢
          have b0 : wr.cell? ⟨w.heap.size + 1 + 1, 0, none⟩ = some (.int .i64 k) := HB.out.cell 0
          have b1 : wr.cell? ⟨w.heap.size + 1 + 1, 1, none⟩ = some (.int .i64 n) := HB.out.cell 1
          have b2 : wr.cell? ⟨w.heap.size + 1 + 1, 2, none⟩ = some (.string s) := HB.out.cell 2
          have b3 : wr.cell? ⟨w.heap.size + 1 + 1, 3, none⟩ = some (.slice A2 l.length c2) := HB.out.cell 3
          have zc := HZ.out.cell
          have zf := HZ.out.frozen
          have hgl : w.heap.size + 1 + 1 < W.heap.size := HB0.out.lt
          have hbf := (((HZ.out.set_ 0 (.int .i64 k)).set_ 1 (.int .i64 n)).set_ 2 (.string s)).set_ 3 (.slice A2 l.length c2)
          have hEF := (((HR.out.ext.setCell (p := ⟨w.heap.size + 1, 0, none⟩) (by simp) (.int .i64 k)).setCell (p := ⟨w.heap.size + 1, 1, none⟩) (by simp) (.int .i64 n)).setCell (p := ⟨w.heap.size + 1, 2, none⟩) (by simp) (.string s)).setCell (p := ⟨w.heap.size + 1, 3, none⟩) (by simp) (.slice A2 l.length c2)
          have hTF := TmIn.mods (S := [w.heap.size + 1]) (D' := fun i => w.heap.size ≤ i ∧ i < ((((wr.setCell ⟨w.heap.size + 1, 0, none⟩ (.int .i64 k)).setCell ⟨w.heap.size + 1, 1, none⟩ (.int .i64 n)).setCell ⟨w.heap.size + 1, 2, none⟩ (.string s)).setCell ⟨w.heap.size + 1, 3, none⟩ (.slice A2 l.length c2)).heap.size) (((((Mods.refl _ wr).setCell (p := ⟨w.heap.size + 1, 0, none⟩) (.inl (by simp)) (.int .i64 k)).setCell (p := ⟨w.heap.size + 1, 1, none⟩) (.inl (by simp)) (.int .i64 n)).setCell (p := ⟨w.heap.size + 1, 2, none⟩) (.inl (by simp)) (.string s)).setCell (p := ⟨w.heap.size + 1, 3, none⟩) (.inl (by simp)) (.slice A2 l.length c2)) (fun i hi => by simp; omega) (fun i hi => ⟨by omega, by simpa using hi.2⟩) ht2
          have HBF := Lib.hid hbf
          have HEF := Lib.hid hEF
          have HTF := Lib.hid hTF
          clear hbf hEF hTF ht2 HM HR HB HZ HT
          go_wp2_with fail
          generalize (((wr.setCell ⟨w.heap.size + 1, 0, none⟩ (.int .i64 k)).setCell ⟨w.heap.size + 1, 1, none⟩ (.int .i64 n)).setCell ⟨w.heap.size + 1, 2, none⟩ (.string s)).setCell ⟨w.heap.size + 1, 3, none⟩ (.slice A2 l.length c2) = VF at HBF HEF HTF ⊢
          have r0 : VF.cell? ⟨w.heap.size + 1, 0, none⟩ = some (.int .i64 k) := HBF.out.cell 0
          have r1 : VF.cell? ⟨w.heap.size + 1, 1, none⟩ = some (.int .i64 n) := HBF.out.cell 1
          have r2 : VF.cell? ⟨w.heap.size + 1, 2, none⟩ = some (.string s) := HBF.out.cell 2
          have r3 : VF.cell? ⟨w.heap.size + 1, 3, none⟩ = some (.slice A2 l.length c2) := HBF.out.cell 3
          refine bodyPost_ret (v := .agg #[.int .i64 k, .int .i64 n, .string s, .slice A2 l.length c2]) (by simp [results, Tryz.results33, go_sem, r0, r1, r2, r3]) rfl ⟨A2, c2, rfl, HTF.out, HEF.out⟩

end Go.Proofs.YtnedihbffiddpaaGreatDoor

/- Layer 11, the reference: the walk of Bindings. -/
namespace Go.Proofs.YtnedihbffiddpaaGreatDoor
open Go.RowKit Go.El

set_option maxRecDepth 100000 in
theorem refBindings_odd (ns : List ByteArray) (l : List Tm) (An A : Option Addr) (cn c : Nat) (w : World) (hne : ns.length ≠ l.length) :
    Calls Tryz.prog 9 #[.slice An ns.length cn, .slice A l.length c] w fun e w' => e = .returned (.tuple #[.string (bndS ns l), .int .i64 (bndE ns l)]) ∧ Ext w w' := by
  rw [show bndS ns l = ⟨#[]⟩ from if_pos hne, show bndE ns l = 1 from if_pos hne]
  have hne2 : ¬ (ns.length : Int) = (l.length : Int) := by omega
  have q1 : ((ns.length : Int) == (l.length : Int)) = false := by simpa using hne2
  have q2 : ((ns.length : Int) != (l.length : Int)) = true := by simpa using hne2
  clear hne hne2
  go_enter Tryz.func9, Tryz.ntmps9
  go_wp2_with fail
  go_ret2
  exact ⟨rfl, Ext.refl _⟩

theorem own_src {w : World} {A : Option Addr} {c : Nat} {L : List Int} (h : IntsO w (.slice A L.length c) L) : El.Src w A L.length 1 (L.map iV) := El.Src.of_own h.own

set_option maxRecDepth 100000 in
set_option maxHeartbeats 8000000 in
theorem refBindings_even (ns : List ByteArray) (l : List Tm) (An A : Option Addr) (cn c : Nat) (w : World) (D : Nat → Prop) (hne : ns.length = l.length) (hn : El.Src w An ns.length 1 (ns.map Value.string)) (ht : TmsIn D w l A c) (hl : l.length ≤ 100) (hns : ∀ s ∈ ns, s.size ≤ 1000) (hsz : ∀ t ∈ l, szT t ≤ 100000) :
    Calls Tryz.prog 9 #[.slice An ns.length cn, .slice A l.length c] w fun e w' => e = .returned (.tuple #[.string (bndS ns l), .int .i64 (bndE ns l)]) ∧ Ext w w' := by
  have hneg : ¬ ns.length ≠ l.length := fun h => h hne
  rw [show bndS ns l = (if fstBad l ≠ 0 then ⟨#[]⟩ else txtS (bndF ns l)) from if_neg hneg, show bndE ns l = (if fstBad l ≠ 0 then fstBad l else txtE (bndF ns l)) from if_neg hneg]
  generalize hbS : (if fstBad l ≠ 0 then (⟨#[]⟩ : ByteArray) else txtS (bndF ns l)) = bS
  generalize hbE : (if fstBad l ≠ 0 then fstBad l else txtE (bndF ns l)) = bE
  have HBS0 := Lib.hid hbS
  have HBE0 := Lib.hid hbE
  have HNE := Lib.hid hne
  have HN := Lib.hid hn
  have HT := Lib.hid ht.lt
  have HNS := Lib.hid hns
  have HSZ := Lib.hid hsz
  rw [hne]
  clear hne hneg hn ht hns hsz hbS hbE
  go_enter Tryz.func9, Tryz.ntmps9
  go_wp2_with fail
  go_loopw [6] (fun i wr => ∃ j : Nat, j ≤ l.length ∧ i = .int .i64 j ∧ Hid (∀ t ∈ l.take j, chkT t = 0) ∧ Hid (Ext w wr)) (fun i _ => l.length - (intOf i).toNat)
  case atStart => exact ⟨0, Nat.zero_le _, rfl, Lib.hid (by simp), Lib.hid (Ext.refl _)⟩
  case round =>
    obtain ⟨j, hj, rfl, HC, HX⟩ := hrel
    by_cases hlt : j < l.length
    · have ho : l[j]? = some l[j] := List.getElem?_eq_getElem hlt
      have hsu := HSZ.out _ (List.getElem_mem hlt)
      have HFB := Lib.hid (fun h => fstBad_first HC.out ho h)
      have HTK := Lib.hid (List.take_succ_eq_append_getElem hlt)
      generalize l[j] = u at ho hsu HFB HTK
      obtain ⟨bb, off, A', c', rfl, _, hu, q0, q1, q2, q3⟩ := (HT.out.ext HX.out).child (j := j) ho
      have HK := Lib.hid (refCheck_any u A' c' _ _ hu (by omega))
      unfold tmVal at HK
      clear hu ho
      by_cases hc : chkT u = 0
      · rw [hc] at HK
        have HCU := Lib.hid hc
        clear hc
        go_wp2_with (go_at_call 29; refine HK.out.mono ?_; rintro e W1 ⟨rfl, h1⟩; have HX1 := Lib.hid (HX.out.trans h1); clear h1)
        go_roundw
        case rel =>
          refine ⟨j + 1, hlt, by go_num, Lib.hid (fun t ht => ?_), HX1⟩
          rw [HTK.out] at ht
          rcases List.mem_append.1 ht with h | h
          · exact HC.out t h
          · simp at h
            rw [h]
            exact HCU.out
        case measure => simp [intOf]; omega
      · have hfb := HFB.out hc
        have hf0 : fstBad l ≠ 0 := by rw [hfb]; exact hc
        have E1 : Hid (bS = ⟨#[]⟩) := by
          rw [← HBS0.out]
          exact if_pos hf0
        have E2 : Hid (bE = chkT u) := by
          rw [← HBE0.out, ← hfb]
          exact if_pos hf0
        have p1 : (chkT u == 0) = false := by simpa using hc
        have p2 : (chkT u != 0) = true := by simpa using hc
        clear hc hfb hf0 HFB
        generalize chkT u = r at HK E2 p1 p2
        go_wp2_with (go_at_call 29; refine HK.out.mono ?_; rintro e W1 ⟨rfl, h1⟩; have HX1 := Lib.hid (HX.out.trans h1); clear h1)
        go_ret2
        exact ⟨ret_2 E1.out.symm E2.out.symm, HX1.out⟩
    · obtain rfl : j = l.length := by omega
      rw [List.take_length] at HC
      have hf0 := fstBad_none HC.out
      have hfn : ¬ fstBad l ≠ 0 := fun h => h hf0
      have E1 : Hid (bS = txtS (bndF ns l)) := by
        rw [← HBS0.out]
        exact if_neg hfn
      have E2 : Hid (bE = txtE (bndF ns l)) := by
        rw [← HBE0.out]
        exact if_neg hfn
      have HMAY := Lib.hid (fun t (ht : t ∈ l) => (show mayT t = true by unfold mayT; simp [HC.out t ht]))
      have HZL : Hid (∀ x ∈ ns.zip l, x.1.size ≤ 1000 ∧ mayT x.2 = true) := fun x hx => by
        obtain ⟨h1, h2⟩ := List.of_mem_zip (a := x.1) (b := x.2) hx
        exact ⟨HNS.out _ h1, HMAY.out _ h2⟩
      have hzl : (ns.zip l).length = l.length := by rw [List.length_zip, HNE.out]; simp
      have HZ := Lib.hid hzl
      clear hf0 hfn HC hzl hj hlt
      go_wp2_with fail
      obtain ⟨wo, rfl⟩ : ∃ wo : World, wo = wr := ⟨_, rfl⟩
      go_loopw [8, 9, 10] (fun vs s i wr => ∃ j : Nat, j ≤ l.length ∧ i = .int .i64 j ∧ s = .string (strB (bdL ((ns.zip l).take j)).1) ∧ Hid (IStep wo wr (.slice none 0 0) vs (bdL ((ns.zip l).take j)).2)) (fun _ _ i _ => l.length - (intOf i).toNat)
      case atStart => exact ⟨0, Nat.zero_le _, rfl, rfl, Lib.hid (IStep.of_ext (IntsO.nil _) (Ext.refl _))⟩
      case round =>
        obtain ⟨j, hj, rfl, rfl, HS⟩ := hrel
        have hwo : Ext wo wr := Mods.toExt HS.out.mods (by simp [ownL, Value.ownBlock])
        have HX2 := Lib.hid (HX.out.trans hwo)
        clear hwo
        by_cases hlt : j < l.length
        · have hln : j < ns.length := by rw [HNE.out]; exact hlt
          have ho : l[j]? = some l[j] := List.getElem?_eq_getElem hlt
          have hs : ns[j]? = some ns[j] := List.getElem?_eq_getElem hln
          have hz : (ns.zip l)[j]? = some (ns[j], l[j]) := by rw [List.getElem?_zip_eq_some]; exact ⟨hs, ho⟩
          have HTK := Lib.hid (bdL_take hz)
          have hbl := bdL_len (j := j) HZL.out (by rw [HZ.out]; omega)
          have hmu := HMAY.out _ (List.getElem_mem hlt)
          have hnu := HNS.out _ (List.getElem_mem hln)
          have hsu := HSZ.out _ (List.getElem_mem hlt)
          obtain ⟨bn, on, rfl, hcn⟩ := El.Src.form HN.out (by omega) (by omega)
          have n0 : w.cell? ⟨bn, on + j, none⟩ = some (.string ns[j]) := hcn j _ (by simp [hs])
          clear hcn hs hz
          generalize ns[j] = nm at *
          generalize l[j] = u at *
          generalize bdL ((ns.zip l).take j) = a at *
          obtain ⟨F, vs⟩ := a
          dsimp only at HS hbl ⊢
          obtain ⟨bb, off, A', c', rfl, _, hu, q0, q1, q2, q3⟩ := HT.out.child (j := j) ho
          have HU := Lib.hid hu
          have HN0 := Lib.hid n0
          have HQ := Lib.hid (show w.cell? ⟨bb, off + j * 4, none⟩ = some (.int .i64 u.k) ∧ w.cell? ⟨bb, off + j * 4 + 1, none⟩ = some (.int .i64 u.n) ∧ w.cell? ⟨bb, off + j * 4 + 2, none⟩ = some (.string u.s) ∧ w.cell? ⟨bb, off + j * 4 + 3, none⟩ = some (.slice A' u.l.length c') from ⟨q0, q1, q2, q3⟩)
          have p0 := HX2.out.cell q0
          have p1 := HX2.out.cell q1
          have p2 := HX2.out.cell q2
          have p3 := HX2.out.cell q3
          have n1 := HX2.out.cell n0
          clear q0 q1 q2 q3 n0 ho hu
          by_cases h95 : nm.data.toList = [95]
          · have s2 : (nm.toList == [95]) = true := by rw [ByteArray.toList_eq]; simpa using h95
            have HBS : Hid (bdS (F, vs) (nm, u) = (F, vs)) := if_pos h95
            clear h95
            go_wp2_with fail
            go_roundw
            case rel => exact ⟨j + 1, hlt, by go_num, by rw [HTK.out, HBS.out], Lib.hid (by rw [HTK.out, HBS.out]; exact HS.out)⟩
            case measure => simp [intOf]; omega
          · have s2 := lit_ne h95
            have HBS : Hid (bdS (F, vs) (nm, u) = (F ++ sepF F ++ (nm.data.toList ++ [32, 61, 32]) ++ txT none (rnT u vs) 1200, vsT u vs)) := if_neg h95
            have hmr := rnT_may hmu (show vs.length ≤ 1000000000 by omega)
            obtain ⟨hok, _, hszu⟩ := mayT_iff.1 hmu
            have hszr := (rnT_size u vs hok).1
            obtain ⟨hokr, _, _⟩ := mayT_iff.1 hmr
            have hvl := (vsT_len u vs).1
            have hv0 := (vsT_len u []).1
            have hlx := txT_le none (rnT u vs) 1200 hokr
            have HRV := Lib.hid (refVars_any u A' c' wr _ (by omega) (HU.out.ext HX2.out))
            have HNM := fun (W : World) (x : Ext w W) (AV : Option Addr) (cV : Nat) (hV : IntsO W (.slice AV (vsT u vs).length cV) (vsT u vs)) => Lib.hid (numbered_any (szT u) u (Nat.le_refl _) (by omega) (vsT u vs) AV cV A' c' W _ (by omega) (HU.out.ext x) (own_src hV) (hvT_pre u vs _ (List.prefix_refl _)))
            have HTX := fun (W : World) (D' : Nat → Prop) (A2 : Option Addr) (c2 : Nat) (h : TmIn D' W (rnT u vs) A2 c2) => Lib.hid ((rtx_all (szT (rnT u vs))).no (Nat.le_refl _) hokr (by omega) (o := none) (p := none) 1200 (w := W) rfl h (by omega) (by omega))
            have hmg := mgV_vars u vs
            rw [nu_rn] at HNM
            unfold tmVal at HRV HNM
            have hzt := strB_size (txT none (rnT u vs) 1200)
            have hzF := strB_size F
            obtain ⟨Av, cv, rfl⟩ := own_value HS.out.own.own
            have HMGE := Lib.hid hmg
            have HFE : Hid (∀ o2 : ByteArray, o2 = strB (F ++ sepF F) → o2 ++ nm ++ (⟨#[32, 61, 32]⟩ : ByteArray) ++ strB (txT none (rnT u vs) 1200) = strB (F ++ sepF F ++ (nm.data.toList ++ [32, 61, 32]) ++ txT none (rnT u vs) 1200)) := fun o2 h => by
              rw [h]
              have e1 : strB (F ++ sepF F) ++ nm = strB (F ++ sepF F ++ nm.data.toList) := by
                have := strB_app (F ++ sepF F) nm.data.toList
                rwa [strB_mk] at this
              have e2 : strB (F ++ sepF F ++ nm.data.toList) ++ (⟨#[32, 61, 32]⟩ : ByteArray) = strB (F ++ sepF F ++ nm.data.toList ++ [32, 61, 32]) := strB_app _ [32, 61, 32]
              rw [e1, e2, strB_app]
              simp only [List.append_assoc]
            generalize hVN : vsT u vs = VN at *
            generalize hRT : rnT u vs = RT at *
            generalize strB (txT none RT 1200) = tx at *
            generalize (txT none RT 1200).length = ltx at *
            have hFe : F = [] ∨ 0 < F.length := by
              rcases F with _ | ⟨a, F⟩
              · exact .inl rfl
              · exact .inr (by simp)
            clear h95 hmu hok hokr hmr hmg hszr hVN hRT
            generalize hsF : strB F = sF at *
            have HSF := Lib.hid hsF
            clear hsF
            rcases hFe with hF | hF
            · skip
              have HO2 : Hid (sF = strB (F ++ sepF F)) := by
                rw [← HSF.out, hF]
                rfl
              have hsz0 : sF.size = 0 := by rw [hzF, hF]; rfl
              have hg : ¬ 0 < sF.size := by omega
              have b1 : ¬ 9223372036854775807 < sF.size + nm.size := by omega
              have b2 : ¬ 9223372036854775807 < sF.size + nm.size + 3 := by omega
              have b3 : ¬ 9223372036854775807 < sF.size + nm.size + 3 + tx.size := by omega
              clear hsz0
              have HFin := Lib.hid (HFE.out _ HO2.out)
              clear hF hzF hzt hlx
              go_upto_region 16 with (first | (go_at_call 31; refine HRV.out.mono ?_; rintro e W1 ⟨v1, rfl, h1, x1, f1⟩; have H1 := Lib.hid h1; have X1 := Lib.hid x1; have F1 := Lib.hid f1; clear h1 x1 f1; obtain ⟨A1, c1, rfl⟩ := own_value H1.out.own) | (go_at_call 30; refine (merge_any vs (vsT u []) (.slice Av vs.length cv) A1 c1 W1 (HS.out.own.ext X1.out) (own_src H1.out) (fun a ha e => by subst ha; have h1 := F1.out a.block rfl; have h2 := (HS.out.own.own.lt _ e).2; omega) (by simp only [List.length_nil] at hv0; omega)).mono ?_; rintro e W2 ⟨v2, rfl, h2⟩; rw [HMGE.out] at h2; have H2 := Lib.hid (HS.out.trans (IStep.pre X1.out h2)); clear h2))
              clear p0 p1 p2 p3 n1
              obtain ⟨A2, c2, rfl⟩ := own_value H2.out.own.own
              have hw2 : Ext wo W2 := Mods.toExt H2.out.mods (by simp [ownL, Value.ownBlock])
              have HX3 := Lib.hid (HX.out.trans hw2)
              clear hw2
              obtain ⟨q0, q1, q2, q3⟩ := HQ.out
              have p0 := HX3.out.cell q0
              have p1 := HX3.out.cell q1
              have p2 := HX3.out.cell q2
              have p3 := HX3.out.cell q3
              have n1 := HX3.out.cell HN0.out
              have d0 := ((Ext.refl W2).drew).cell p0
              have d1 := ((Ext.refl W2).drew).cell p1
              have d2 := ((Ext.refl W2).drew).cell p2
              have d3 := ((Ext.refl W2).drew).cell p3
              have m1 := ((Ext.refl W2).drew).cell n1
              clear q0 q1 q2 q3
              go_upto_region 18 with fail
              clear p0 p1 p2 p3 n1
              go_region_law ((first | (go_simp; go_at_call 33; refine (HNM _ (HX3.out.drew) A2 c2 (H2.out.own.ext ((Ext.refl W2).drew))).out.mono ?_; rintro e W3 ⟨A3, c3, rfl, ht3, hx3⟩; have m3 := hx3.cell m1; have HT3 := Lib.hid ht3; unfold tmVal) | (go_simp; go_at_call 32; refine (HTX _ _ A3 c3 HT3.out).out.mono ?_; rintro e W4 ⟨rfl, hx4⟩; have m4 := hx4.cell m3)))
              all_goals
                go_wp2_with fail
                go_roundw
                case rel => exact ⟨j + 1, hlt, by go_num, by rw [HTK.out, HBS.out, HFin.out], Lib.hid (by rw [HTK.out, HBS.out]; exact H2.out.trans (IStep.of_ext H2.out.own (((Ext.refl W2).drew.trans hx3).trans hx4)))⟩
                case measure => simp [intOf]; omega
            · skip
              have HO2 : Hid (sF ++ (⟨#[44, 32]⟩ : ByteArray) = strB (F ++ sepF F)) := by
                rw [← HSF.out, show sepF F = [44, 32] from if_neg (fun e => by rw [e] at hF; simp at hF)]
                exact strB_app F [44, 32]
              have hg : 0 < sF.size := by omega
              have b0 : ¬ 9223372036854775807 < sF.size + 2 := by omega
              have b1 : ¬ 9223372036854775807 < sF.size + 2 + nm.size := by omega
              have b2 : ¬ 9223372036854775807 < sF.size + 2 + nm.size + 3 := by omega
              have b3 : ¬ 9223372036854775807 < sF.size + 2 + nm.size + 3 + tx.size := by omega
              have HFin := Lib.hid (HFE.out _ HO2.out)
              clear hF hzF hzt hlx
              go_upto_region 16 with (first | (go_at_call 31; refine HRV.out.mono ?_; rintro e W1 ⟨v1, rfl, h1, x1, f1⟩; have H1 := Lib.hid h1; have X1 := Lib.hid x1; have F1 := Lib.hid f1; clear h1 x1 f1; obtain ⟨A1, c1, rfl⟩ := own_value H1.out.own) | (go_at_call 30; refine (merge_any vs (vsT u []) (.slice Av vs.length cv) A1 c1 W1 (HS.out.own.ext X1.out) (own_src H1.out) (fun a ha e => by subst ha; have h1 := F1.out a.block rfl; have h2 := (HS.out.own.own.lt _ e).2; omega) (by simp only [List.length_nil] at hv0; omega)).mono ?_; rintro e W2 ⟨v2, rfl, h2⟩; rw [HMGE.out] at h2; have H2 := Lib.hid (HS.out.trans (IStep.pre X1.out h2)); clear h2))
              clear p0 p1 p2 p3 n1
              obtain ⟨A2, c2, rfl⟩ := own_value H2.out.own.own
              have hw2 : Ext wo W2 := Mods.toExt H2.out.mods (by simp [ownL, Value.ownBlock])
              have HX3 := Lib.hid (HX.out.trans hw2)
              clear hw2
              obtain ⟨q0, q1, q2, q3⟩ := HQ.out
              have p0 := HX3.out.cell q0
              have p1 := HX3.out.cell q1
              have p2 := HX3.out.cell q2
              have p3 := HX3.out.cell q3
              have n1 := HX3.out.cell HN0.out
              have d0 := ((Ext.refl W2).drew).cell p0
              have d1 := ((Ext.refl W2).drew).cell p1
              have d2 := ((Ext.refl W2).drew).cell p2
              have d3 := ((Ext.refl W2).drew).cell p3
              have m1 := ((Ext.refl W2).drew).cell n1
              clear q0 q1 q2 q3
              go_upto_region 18 with fail
              clear p0 p1 p2 p3 n1
              go_region_law ((first | (go_simp; go_at_call 33; refine (HNM _ (HX3.out.drew) A2 c2 (H2.out.own.ext ((Ext.refl W2).drew))).out.mono ?_; rintro e W3 ⟨A3, c3, rfl, ht3, hx3⟩; have m3 := hx3.cell m1; have HT3 := Lib.hid ht3; unfold tmVal) | (go_simp; go_at_call 32; refine (HTX _ _ A3 c3 HT3.out).out.mono ?_; rintro e W4 ⟨rfl, hx4⟩; have m4 := hx4.cell m3)))
              all_goals
                go_wp2_with fail
                go_roundw
                case rel => exact ⟨j + 1, hlt, by go_num, by rw [HTK.out, HBS.out, HFin.out], Lib.hid (by rw [HTK.out, HBS.out]; exact H2.out.trans (IStep.of_ext H2.out.own (((Ext.refl W2).drew.trans hx3).trans hx4)))⟩
                case measure => simp [intOf]; omega
        · obtain rfl : j = l.length := by omega
          have he : (ns.zip l).take l.length = ns.zip l := List.take_of_length_le (by rw [HZ.out]; exact Nat.le_refl _)
          rw [he] at HS ⊢
          have HBF : Hid (bndF ns l = if (bdL (ns.zip l)).1 = [] then [116, 114, 117, 101] else (bdL (ns.zip l)).1) := rfl
          generalize (bdL (ns.zip l)).1 = F at *
          have HLG := fun (X : List UInt8) W => Lib.hid (refLong_any X W)
          by_cases hF : F = []
          · have HB2 := HBF.out
            rw [if_pos hF] at HB2
            have HBF2 := Lib.hid HB2
            subst hF
            have HL := HLG [116, 114, 117, 101]
            have s1 : ((strB []).toList == []) = true := by decide +kernel
            clear HB2 HLG
            go_wp2_with (go_at_call 34; refine (HL _).out.mono ?_; rintro e W1 ⟨rfl, rfl⟩)
            go_ret2
            exact ⟨ret_2 (by rw [E1.out, HBF2.out]) (by rw [E2.out, HBF2.out]), HX2.out⟩
          · have HB2 := HBF.out
            rw [if_neg hF] at HB2
            have HBF2 := Lib.hid HB2
            have HL := HLG F
            have s1 : ((strB F).toList == []) = false := by
              rw [ByteArray.toList_eq, strB_toList]
              simpa using hF
            clear HB2 hF HLG
            go_wp2_with (go_at_call 34; refine (HL _).out.mono ?_; rintro e W1 ⟨rfl, rfl⟩)
            go_ret2
            exact ⟨ret_2 (by rw [E1.out, HBF2.out]) (by rw [E2.out, HBF2.out]), HX2.out⟩

end Go.Proofs.YtnedihbffiddpaaGreatDoor

/- WriteBindings: its walk. -/
namespace Go.Proofs.YtnedihbffiddpaaGreatDoor
open Go.RowKit Go.El

set_option maxRecDepth 100000 in
set_option maxHeartbeats 8000000 in
theorem writeBindings_any (ns : List ByteArray) (l : List Tm) (An A : Option Addr) (cn c : Nat) (w : World) (D : Nat → Prop) (hn : El.Src w An ns.length 1 (ns.map Value.string)) (hnl : ns.length ≤ 9223372036854775807) (hns : ∀ s ∈ ns, s.size ≤ 9223372036854775807) (ht : TmsIn D w l A c) (hfl : fitL l = true) (hll : l.length ≤ 9223372036854775807) (he : Env w) :
    Calls Tryz.prog 3 #[.slice An ns.length cn, .slice A l.length c] w fun e w' => e = .returned (.bool true) ∧ Ext w w' := by
  have HN := Lib.hid hn
  have HNS := Lib.hid hns
  have HT := Lib.hid ht
  have HF := Lib.hid hfl
  have HE := Lib.hid he
  clear hn hns ht hfl he
  have HLV := fun (W : World) (x : Ext w W) => Lib.hid (lives_any W (HE.out.ext x))
  by_cases hbig : 20 < ns.length ∨ 20 < l.length
  · have hbig2 : (20 < ns.length) ∨ (ns.length ≤ 20 ∧ 20 < l.length) := by omega
    clear hbig
    rcases hbig2 with hb | ⟨hb, hb2⟩
    all_goals
      go_enter Tryz.func3, Tryz.ntmps3
      go_wp2_with (go_at_call 5; refine (HLV _ (Ext.refl w)).out.mono ?_; rintro e W1 ⟨rfl, hx⟩)
      go_ret
      exact ⟨rfl, hx⟩
  · have hb1 : ns.length ≤ 20 := by omega
    have hb2 : l.length ≤ 20 := by omega
    clear hbig hnl hll
    go_enter Tryz.func3, Tryz.ntmps3
    go_wp2_with fail
    go_loopw [5, 6] (fun z i wr => ∃ j m : Nat, j ≤ l.length ∧ i = .int .i64 j ∧ z = .int .i64 m ∧ m ≤ j * 6000 ∧ Hid (∀ t ∈ l.take j, szT t ≤ 6000) ∧ Ext w wr) (fun _ i _ => l.length - (intOf i).toNat)
    case atStart => exact ⟨0, 0, Nat.zero_le _, rfl, rfl, Nat.le_refl _, Lib.hid (by simp), Ext.refl _⟩
    case round =>
      obtain ⟨j, m, hj, rfl, rfl, hm, HSZ, hx⟩ := hrel
      by_cases hlt : j < l.length
      · have ho : l[j]? = some l[j] := List.getElem?_eq_getElem hlt
        have hfu := fitL_get HF.out ho
        have HTK := Lib.hid (List.take_succ_eq_append_getElem hlt)
        generalize l[j] = u at *
        obtain ⟨bb, off, A', c', rfl, _, hu, q0, q1, q2, q3⟩ := (HT.out.ext hx).child (j := j) ho
        have HLA := Lib.hid (refLarge_any u A' c' wr _ hu hfu)
        have HU := Lib.hid hu
        have hz := bigT_no (t := u)
        unfold tmVal at HLA
        clear hu ho
        cases hbt : bigT u
        · rw [hbt] at HLA hz
          have hz := hz rfl
          have HSI := fun (W : World) (x : Ext wr W) => Lib.hid (refSize_any (szT u) u (Nat.le_refl _) (by omega) A' c' W _ (HU.out.ext x))
          unfold tmVal at HSI
          have HZ := Lib.hid hz
          obtain ⟨zu, hzu⟩ : ∃ zu : Nat, szT u = zu := ⟨_, rfl⟩
          rw [hzu] at HSI hz
          have HZU := Lib.hid hzu
          clear hzu
          clear hbt
          go_upto_region 9 with (go_at_call 6; refine HLA.out.mono ?_; rintro e W1 ⟨rfl, hx1⟩; have X1 := Lib.hid hx1; have p0 := hx1.cell q0; have p1 := hx1.cell q1; have p2 := hx1.cell q2; have p3 := hx1.cell q3; clear hx1 q0 q1 q2 q3)
          go_wp2_with (go_at_call 7; refine (HSI _ X1.out).out.mono ?_; rintro e W2 ⟨rfl, hx2⟩)
          go_roundw
          case rel =>
            refine ⟨j + 1, m + zu, hlt, by go_num, by go_num, by omega, Lib.hid (fun t ht => ?_), hx.trans (X1.out.trans hx2)⟩
            rw [HTK.out] at ht
            rcases List.mem_append.1 ht with h | h
            · exact HSZ.out t h
            · simp at h
              subst h
              exact HZ.out
          case measure => simp [intOf]; omega
        · rw [hbt] at HLA
          clear hbt hz
          go_wp2_with (first | (go_at_call 6; refine HLA.out.mono ?_; rintro e W1 ⟨rfl, hx1⟩; have X1 := Lib.hid (hx.trans hx1); clear hx1) | (go_at_call 5; refine (HLV _ X1.out).out.mono ?_; rintro e W2 ⟨rfl, hx2⟩; have X2 := Lib.hid (X1.out.trans hx2); clear hx2))
          go_ret
          exact ⟨rfl, X2.out⟩
      · obtain rfl : j = l.length := by omega
        rw [List.take_length] at HSZ
        go_wp2_with fail
        obtain ⟨wo, rfl⟩ : ∃ wo : World, wo = wr := ⟨_, rfl⟩
        go_loopw [7] (fun i wr => ∃ k : Nat, k ≤ ns.length ∧ i = .int .i64 k ∧ Hid (∀ s ∈ ns.take k, s.size ≤ 1000) ∧ Ext w wr) (fun i _ => ns.length - (intOf i).toNat)
        case atStart => exact ⟨0, Nat.zero_le _, rfl, Lib.hid (by simp), hx⟩
        case round =>
          clear hx
          obtain ⟨k, hk, rfl, HK, hx⟩ := hrel
          by_cases hlk : k < ns.length
          · obtain ⟨bn, on, rfl, hcn⟩ := El.Src.form HN.out (by omega) (by omega)
            have n0 : w.cell? ⟨bn, on + k, none⟩ = some (.string ns[k]) := hcn k _ (by simp [hlk])
            have hsk := HNS.out _ (List.getElem_mem hlk)
            have HTK := Lib.hid (List.take_succ_eq_append_getElem hlk)
            have n1 := hx.cell n0
            clear hcn n0
            generalize ns[k] = nm at *
            by_cases hz : 1000 < nm.size
            · go_wp2_with (go_at_call 5; refine (HLV _ hx).out.mono ?_; rintro e W1 ⟨rfl, hx1⟩; have X1 := Lib.hid (hx.trans hx1); clear hx1)
              go_ret
              exact ⟨rfl, X1.out⟩
            · go_wp2_with fail
              go_roundw
              case rel =>
                refine ⟨k + 1, hlk, by go_num, Lib.hid (fun s hs => ?_), hx⟩
                rw [HTK.out] at hs
                rcases List.mem_append.1 hs with h | h
                · exact HK.out s h
                · simp at h
                  subst h
                  omega
              case measure => simp [intOf]; omega
          · obtain rfl : k = ns.length := by omega
            rw [List.take_length] at HK
            by_cases h5 : 5000 < m
            · go_wp2_with (go_at_call 5; refine (HLV _ hx).out.mono ?_; rintro e W1 ⟨rfl, hx1⟩; have X1 := Lib.hid (hx.trans hx1); clear hx1)
              go_ret
              exact ⟨rfl, X1.out⟩
            · have HP : Hid (∀ W, Ext w W → Calls Tryz.prog 8 #[.slice An ns.length cn, .slice A l.length c] W fun e w' => e = .returned (.tuple #[.string (bndS ns l), .int .i64 (bndE ns l)]) ∧ Ext W w') := fun W x => by
                by_cases hne : ns.length = l.length
                · exact bindings_even ns l An A cn c W D hne (HN.out.ext x) (HT.out.ext x) (HE.out.ext x) (by omega) HK.out (fun t h => Nat.le_trans (HSZ.out t h) (by omega))
                · exact bindings_odd ns l An A cn c W hne
              have HR : Hid (∀ W, Ext w W → Calls Tryz.prog 9 #[.slice An ns.length cn, .slice A l.length c] W fun e w' => e = .returned (.tuple #[.string (bndS ns l), .int .i64 (bndE ns l)]) ∧ Ext W w') := fun W x => by
                by_cases hne : ns.length = l.length
                · exact refBindings_even ns l An A cn c W D hne (HN.out.ext x) (HT.out.ext x) (by omega) HK.out (fun t h => Nat.le_trans (HSZ.out t h) (by omega))
                · exact refBindings_odd ns l An A cn c W hne
              generalize bndS ns l = bs at *
              generalize bndE ns l = be at *
              go_upto_region 18 with (go_at_call 8; refine (HP.out _ hx).mono ?_; rintro e W1 ⟨rfl, hx1⟩; have X1 := Lib.hid (hx.trans hx1); clear hx1)
              go_upto_region 19 with (go_at_call 9; refine (HR.out _ X1.out).mono ?_; rintro e W2 ⟨rfl, hx2⟩; have X2 := Lib.hid (X1.out.trans hx2); clear hx2)
              go_wp2_with (go_at_call 5; refine (HLV _ X2.out).out.mono ?_; rintro e W3 ⟨rfl, hx3⟩; have X3 := Lib.hid (X2.out.trans hx3); clear hx3)
              go_ret
              exact ⟨rfl, X3.out⟩

end Go.Proofs.YtnedihbffiddpaaGreatDoor

/- Arguments that are slices of strings, opened. Over any program. -/
namespace Go.El
open Go.RowKit Go.ChangeShapes Go.WideShapes Go.ChangeAt Go.Deep Go.Joins

section
variable {H : Type} {enc : TypeId × Value → H} {P : Program} {w : World} {base : Nat} {spare : Nat → Bool} {held : Bool}

/-- A slice whose elements read one by one. -/
theorem open_rowsN {α : Type} {cells : α → List Value} {k : Nat} {good : α → Prop} {t e : TypeId} (ht : P.underlying t = some (.slice e)) (hce : P.cellsOf e = k) (hk : ∀ x, (cells x).length = k) (h0 : 0 < k)
    (hel : ∀ {fuel : Nat} {cs : List Value} {x : DataW H × List MemPlace}, DataW.trod enc P w base spare held fuel e cs = some x → ∃ a : α, cs = cells a ∧ good a)
    {r : Reach} {b0 : Nat} {v : Value} {d : DataW H} {ps : List MemPlace} (hv : Value.okWide P w r b0 t v) (h : DataW.Trod enc P w base spare held t v d ps) :
    ∃ (A : Option Addr) (L : List α) (c : Nat), v = .slice A L.length c ∧ Src w A L.length k (flat cells L) ∧ (∀ x ∈ L, good x) ∧ L.length ≤ maxLen := by
  obtain ⟨fuel, hf⟩ := h
  have h1 : v.cells.toList = [v] := by
    simp only [Value.okWide, ht] at hv
    cases v <;> simp_all [Cell.okWide, Cell.ok, Value.cells]
  rw [h1] at hf
  rcases open_slice ht hf with ⟨h2, _⟩ | ⟨a, len, cap, m, n, D, Pl, hcs, hb, hl, hm, hmm, hx, hi⟩
  · simp only [List.cons.injEq, and_true] at h2
    subst h2
    exact ⟨none, [], 0, rfl, Src.none _ _ _, fun x hx => by simp at hx, Nat.zero_le _⟩
  · simp only [List.cons.injEq, and_true] at hcs
    subst hcs
    have hml : len ≤ m := by rw [hmm]; split <;> omega
    obtain ⟨L, hL, hp⟩ := list_of_all (p := fun i x => w.cells? base (a.add (i * k)) k = some (cells x) ∧ good x) len (fun i hil => by
      obtain ⟨cs', hc, ht'⟩ := hi i (by omega)
      obtain ⟨x, e, g⟩ := hel ht'
      rw [hce, e] at hc
      exact ⟨x, hc, g⟩)
    subst hL
    refine ⟨some a, L, cap, rfl, src_of_cells hk h0 (fun i x hx j u hu => ?_), fun x hx => ?_, by omega⟩
    · obtain ⟨_, _, hat⟩ := World.cells?_some (hp i x hx).1
      have hj : j < k := by
        have := (List.getElem?_eq_some_iff.1 hu).1
        rwa [hk] at this
      rw [← Go.Deep.add_add]
      exact (hat j hj).trans hu
    · obtain ⟨i, hi⟩ := List.mem_iff_getElem?.1 hx
      exact (hp i x hi).2

theorem flat_strs (L : List ByteArray) : flat (fun s => [Value.string s]) L = L.map Value.string := by
  induction L with
  | nil => rfl
  | cons a r ih => simpa [flat] using ih
theorem open_names {t e : TypeId} (ht : P.underlying t = some (.slice e)) (he : P.underlying e = some .string) (hce : P.cellsOf e = 1) {r : Reach} {b0 : Nat} {v : Value} {d : DataW H} {ps : List MemPlace} (hv : Value.okWide P w r b0 t v) (h : DataW.Trod enc P w base spare held t v d ps) :
    ∃ (A : Option Addr) (L : List ByteArray) (c : Nat), v = .slice A L.length c ∧ Src w A L.length 1 (L.map Value.string) ∧ (∀ s ∈ L, s.size ≤ maxLen) ∧ L.length ≤ maxLen := by
  obtain ⟨A, L, c, e1, hs, hg, hl⟩ := open_rowsN (cells := fun s : ByteArray => [Value.string s]) (k := 1) (good := fun s => s.size ≤ maxLen) ht hce (fun _ => rfl) (by omega) (fun {fuel cs x} hx => by
    obtain ⟨s, e1, _, hz⟩ := DataW.trod_string he hx
    exact ⟨s, e1, hz⟩) hv h
  rw [flat_strs] at hs
  exact ⟨A, L, c, e1, hs, hg, hl⟩
end

end Go.El
