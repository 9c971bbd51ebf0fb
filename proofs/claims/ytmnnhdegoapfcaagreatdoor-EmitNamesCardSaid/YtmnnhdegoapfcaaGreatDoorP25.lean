/- Layer 6, the program: the walk of build, by a namer. -/
import Derived.Test.YtmnnhdegoapfcaaGreatDoorP24
import Derived.Deep.RegionLaw
namespace Go.Proofs.YtmnnhdegoapfcaaGreatDoor
open Go.RowKit Go.El
theorem row_done {wr : World} {v : Value} {M : List TmP} {D : Nat → Prop} (own : wr.ownsRow 0 30 4 v M.length (flat tmC M)) (kid : ∀ p ∈ M, TmIn D wr p.1 p.2.1 p.2.2) (hD : ∀ b, v.ownBlock = some b → D b) (k n : Int) (s : ByteArray) : ∃ A c, v = .slice A M.length c ∧ TmIn D wr (.mk k n s (M.map (·.1))) A c := by
 obtain ⟨A, c, rfl⟩ := own_value own
 refine ⟨A, c, rfl, ?_⟩
 have hc : (M.map (·.1)).length ≤ c := by
  rcases own.2 with ⟨h1, h2⟩ | ⟨g', cap', cur, hv, _, _, hnc, _⟩
  ·simp only [Value.slice.injEq] at h1
   simp
   omega
  ·injection hv with _ _ hc
   subst hc
   simpa using hnc
 refine .mk k n s _ A c (M.map (·.2)) (by simp) (fun j t q ht hq => ?_) (fun hne => ?_) hc
 ·rw [List.getElem?_map] at ht hq
  cases hp : M[j]? with
  | none => rw [hp] at ht; simp at ht
  | some p =>
   rw [hp] at ht hq
   simp at ht hq
   subst ht hq
   exact kid p (List.mem_of_getElem? hp)
 ·have hlen : 0 < M.length := by
   rcases M with _ | ⟨p, M⟩
   ·simp at hne
   ·simp
  obtain ⟨b, off, rfl, hcell⟩ := El.Src.form (El.Src.of_own own) hlen (by omega)
  have hb0 : (Value.slice (some ⟨b, off, none⟩) M.length c).ownBlock = some b := rfl
  refine ⟨b, off, rfl, hD b hb0, fun j t q ht hq => ?_⟩
  rw [List.getElem?_map] at ht hq
  cases hp : M[j]? with
  | none => rw [hp] at ht; simp at ht
  | some p =>
   rw [hp] at ht hq
   simp at ht hq
   subst ht hq
   refine ⟨?_, ?_, ?_, ?_⟩
   ·exact hcell (j * 4) _ ((flat_at tmC_len M j 0 p hp (by omega)).trans rfl)
   ·exact hcell (j * 4 + 1) _ ((flat_at tmC_len M j 1 p hp (by omega)).trans rfl)
   ·exact hcell (j * 4 + 2) _ ((flat_at tmC_len M j 2 p hp (by omega)).trans rfl)
   ·exact hcell (j * 4 + 3) _ ((flat_at tmC_len M j 3 p hp (by omega)).trans rfl)
structure NbAt (nb rm lo x : Nat) (w : World) (v0 : Value) (k n : Int) (s : ByteArray) (wr : World) (acc : List Int) (v qv qb : Value) (M : List TmP) : Prop where
 nm : NmAt nb rm wr acc acc v
 st : PStep [nb, rm] v0 w v wr
 own : wr.ownsRow 0 30 4 qv M.length (flat tmC M)
 far : ∀ b, qv.ownBlock = some b → lo ≤ b ∧ Clr2 [nb, rm] v wr b
 kid : ∀ p ∈ M, TmIn (fun b => lo ≤ b ∧ Clr2 [nb, rm] v wr b ∧ qv.ownBlock ≠ some b) wr p.1 p.2.1 p.2.2
 ub : Blk wr (x + 1) 30 #[.int .i64 k, .int .i64 n, .string s, qb]
 zb : Blk wr x 30 #[.int .i64 0, .int .i64 0, .string ⟨#[]⟩, .slice none 0 0]
 cu : Clr2 [nb, rm] v wr (x + 1)
 cz : Clr2 [nb, rm] v wr x
 x0 : w.heap.size ≤ x
 x1 : x + 1 < lo
 lo2 : lo ≤ wr.heap.size
section
variable {nb rm lo x : Nat} {w : World} {v0 : Value} {k n : Int} {s : ByteArray} {wr w' : World} {acc acc' : List Int} {v v' qv qv' qb : Value} {M : List TmP}
theorem NbAt.go (h : NbAt nb rm lo x w v0 k n s wr acc v qv qb M) (hm : NmAt nb rm w' acc' acc' v') (st : PStep [nb, rm] v wr v' w') : NbAt nb rm lo x w v0 k n s w' acc' v' qv qb M :=
 ⟨hm, h.st.trans st, own_mods h.own st.mods (fun b hb => (h.far b hb).2.no), fun b hb => ⟨(h.far b hb).1, st.clr (h.far b hb).2⟩, fun p hp => TmIn.mods st.mods (fun _ hk => hk.2.1.no) (fun _ hk => ⟨hk.1, st.clr hk.2.1, hk.2.2⟩) (h.kid p hp), h.ub.mods st.mods h.cu.no, h.zb.mods st.mods h.cz.no, st.clr h.cu, st.clr h.cz, h.x0, h.x1, Nat.le_trans h.lo2 st.mods.size⟩
theorem NbAt.ext (h : NbAt nb rm lo x w v0 k n s wr acc v qv qb M) (e : Ext wr w') : NbAt nb rm lo x w v0 k n s w' acc v qv qb M := h.go (h.nm.ext e) (PStep.ext e)
theorem NbAt.more (h : NbAt nb rm lo x w v0 k n s wr acc v qv qb M) {p : TmP} (hp : TmIn (fun b => lo ≤ b ∧ Clr2 [nb, rm] v wr b ∧ qv.ownBlock ≠ some b) wr p.1 p.2.1 p.2.2)
  (ho : w'.ownsRow 0 30 4 qv' (M.length + 1) (flat tmC M ++ tmC p)) (hm : Mods (ownL qv) wr w') (hb : qv'.ownBlock = qv.ownBlock ∨ qv'.ownBlock = some wr.heap.size) : NbAt nb rm lo x w v0 k n s w' acc v qv' qb (M ++ [p]) := by
 have hin : ∀ b, b ∈ ownL qv → qv.ownBlock = some b := fun b hb => by simpa [ownL] using hb
 have hc : ∀ b, Clr2 [nb, rm] v wr b → Clr2 [nb, rm] v w' b := fun b hb => ⟨hb.1, hb.2.1, Nat.lt_of_lt_of_le hb.2.2 hm.size⟩
 have hlo := h.x1
 have hq : ∀ b, qv.ownBlock ≠ some b → b < wr.heap.size → qv'.ownBlock ≠ some b := fun b h1 h2 e => by
  rcases hb with hb | hb
  ·exact h1 (hb.symm.trans e)
  ·have := hb.symm.trans e
   injection this with this
   omega
 have hk : ∀ {t : Tm} {A : Option Addr} {c : Nat}, TmIn (fun b => lo ≤ b ∧ Clr2 [nb, rm] v wr b ∧ qv.ownBlock ≠ some b) wr t A c → TmIn (fun b => lo ≤ b ∧ Clr2 [nb, rm] v w' b ∧ qv'.ownBlock ≠ some b) w' t A c := fun g =>
  TmIn.mods hm (fun b hb e => hb.2.2 (hin b e)) (fun b hb => ⟨hb.1, hc b hb.2.1, hq b hb.2.2 hb.2.1.2.2⟩) g
 have hno : ∀ y, y < lo → y ∉ ownL qv := fun y hy e => by have := (h.far y (hin y e)).1; omega
 refine ⟨h.nm.keep hm (fun b hb => ⟨(h.far b (hin b hb)).2.1, (h.far b (hin b hb)).2.2.1⟩), ⟨h.st.mods.step hm (fun b hb => .inr ?_), h.st.own⟩, ?_, fun b e => ?_, fun q hq' => ?_, h.ub.mods hm (hno _ hlo), h.zb.mods hm (hno _ (by omega)), hc _ h.cu, hc _ h.cz, h.x0, h.x1, Nat.le_trans h.lo2 hm.size⟩
 ·have := (h.far b (hin b hb)).1
  have := h.x0
  omega
 ·rw [List.length_append, flat_append]
  simpa [flat] using ho
 ·rcases hb with hb | hb
  ·have := h.far b (hb.symm.trans e)
   exact ⟨this.1, hc b this.2⟩
  ·have e1 := hb.symm.trans e
   injection e1 with e1
   subst e1
   exact ⟨h.lo2, h.nm.clr (Nat.le_refl _) (own_lt ho e)⟩
 ·rcases List.mem_append.1 hq' with hq' | hq'
  ·exact hk (h.kid q hq')
  ·simp at hq'
   subst hq'
   exact hk hp
theorem NbAt.put (h : NbAt nb rm lo x w v0 k n s wr acc v qv qb M) : NbAt nb rm lo x w v0 k n s (wr.setCell ⟨x + 1, 3, none⟩ qv) acc v qv qv M := by
 have hd : Mods [x + 1] wr (wr.setCell ⟨x + 1, 3, none⟩ qv) := (Mods.refl _ wr).setCell (p := ⟨x + 1, 3, none⟩) (.inl (by simp)) _
 have hc : ∀ b, Clr2 [nb, rm] v wr b → Clr2 [nb, rm] v (wr.setCell ⟨x + 1, 3, none⟩ qv) b := fun b hb => ⟨hb.1, hb.2.1, by simpa using hb.2.2⟩
 have hx0 := h.x0
 have hx1 := h.x1
 refine ⟨h.nm.keep hd (fun b hb => ?_), h.st.new1 (by omega) 3 _, own_mods h.own hd (fun b hb => ?_), fun b hb => ⟨(h.far b hb).1, hc b (h.far b hb).2⟩, fun p hp => TmIn.mods hd (fun b hb => ?_) (fun b hb => ⟨hb.1, hc b hb.2.1, hb.2.2⟩) (h.kid p hp), h.ub.set_ 3 qv, h.zb.mods hd (by simp), hc _ h.cu, hc _ h.cz, hx0, hx1, by simpa using h.lo2⟩
 ·simp at hb
  subst hb
  exact ⟨h.cu.1, h.cu.2.1⟩
 ·have := (h.far b hb).1
  simp
  omega
 ·have := hb.1
  simp
  omega
end
theorem NbAt.start {nb rm : Nat} {w V : World} {acc : List Int} {v : Value} {x : Nat} {k n : Int} {s : ByteArray} (h : NmAt nb rm w acc acc v) (e : Ext w V) (hx : w.heap.size ≤ x) (hu : Blk V (x + 1) 30 #[.int .i64 k, .int .i64 n, .string s, .slice none 0 0]) (hz : Blk V x 30 #[.int .i64 0, .int .i64 0, .string ⟨#[]⟩, .slice none 0 0]) :
  NbAt nb rm V.heap.size x w v k n s V acc v (.slice none 0 0) (.slice none 0 0) [] :=
 ⟨h.ext e, PStep.ext e, World.ownsRow_nil _ _ _ _, fun b hb => by simp [Value.ownBlock] at hb, fun p hp => by simp at hp, hu, hz, h.clr (by omega) hu.lt, h.clr hx hz.lt, hx, hu.lt, Nat.le_refl _⟩
theorem blk2n {w : World} {t1 t2 : TypeId} {c1 c2 : Array Value} : Blk ((w.alloc (.cells c1 t1)).alloc (.cells c2 t2)) (w.heap.size + 1) t2 c2 := by
 have := Blk.new (w.alloc (.cells c1 t1)) t2 c2
 rw [World.size_alloc] at this
 exact this
theorem kid_newN {nb rm lo : Nat} {W W2 : World} {v qv : Value} (hlo : lo ≤ W.heap.size) (hq : ∀ b, qv.ownBlock = some b → b < W.heap.size) {t : Tm} {A : Option Addr} {c : Nat} (ht : TmIn (fun b => W.heap.size ≤ b ∧ Clr2 [nb, rm] v W2 b) W2 t A c) (o : Obj) :
  TmIn (fun b => lo ≤ b ∧ Clr2 [nb, rm] v (W2.alloc o) b ∧ qv.ownBlock ≠ some b) (W2.alloc o) t A c :=
 (ht.ext ((Ext.refl W2).alloc o)).mono (fun b hb => ⟨by omega, (PStep.ext ((Ext.refl W2).alloc o)).clr hb.2, fun e => by have := hq b e; omega⟩)
def BuPost (nb rm : Nat) (t : Tm) (acc : List Int) (v : Value) (w : World) (e : Ending) (w' : World) : Prop :=
 ∃ A' c' v', e = .returned (tmVal (rnT t acc) A' c') ∧ NmAt nb rm w' (vsT t acc) (vsT t acc) v' ∧ PStep [nb, rm] v w v' w' ∧ TmIn (fun b => w.heap.size ≤ b ∧ Clr2 [nb, rm] v' w' b) w' (rnT t acc) A' c'
set_option maxRecDepth 100000 in
set_option maxHeartbeats 8000000 in
theorem buildNm (nb rm : Nat) : ∀ (N : Nat) (t : Tm), szT t ≤ N → szT t ≤ 100000000 → okT t = true → ∀ (A : Option Addr) (c : Nat) (w : World) (acc : List Int) (v : Value), NmAt nb rm w acc acc v → acc.length + szT t ≤ 1000000000 → TmIn (Clr2 [nb, rm] v w) w t A c →
  Calls Tryz.prog 185 #[tmVal t A c, .func (.func 186) #[.pointer (some ⟨nb, 0, none⟩)] #[]] w (BuPost nb rm t acc v w)
 | 0, t, h => by
  have := szT_pos t
  omega
 | N + 1, .mk k n s l, hN => by
  intro hbig hok A c w acc v hnm hacc ht
  obtain ⟨i1, hi1, hz0, hz1, hz2⟩ := infoP tmInfo4
  have IH := buildNm nb rm N
  simp only [szT] at hN hbig hacc
  simp only [okT, Bool.and_eq_true] at hok
  obtain ⟨hpk, hokl⟩ := hok
  have H := Lib.hid ht
  have HN := Lib.hid hnm
  clear ht hnm
  unfold tmVal
  simp only [Tm.k, Tm.n, Tm.s, Tm.l]
  by_cases hk : k = 1
  ·subst hk
   have hv : s = ⟨#[]⟩ ∧ l = [] := by
    simp only [partK, if_true, decide_eq_true_eq] at hpk
    refine ⟨?_, List.length_eq_zero_iff.1 hpk.2.2.2⟩
    exact mk_of (List.length_eq_zero_iff.1 (by simpa using hpk.2.2.1))
   obtain ⟨rfl, rfl⟩ := hv
   have hrn : rnT (.mk 1 n ⟨#[]⟩ []) acc = .mk 1 (plc n (addV n acc)) ⟨#[]⟩ [] := by simp [rnT]
   have hvs : vsT (.mk 1 n ⟨#[]⟩ []) acc = addV n acc := by simp [vsT]
   have HPO : Hid (∀ w' v', NmAt nb rm w' (addV n acc) (addV n acc) v' → PStep [nb, rm] v w v' w' → BuPost nb rm (.mk 1 n ⟨#[]⟩ []) acc v w (.returned (.agg #[.int .i64 1, .int .i64 (plc n (addV n acc)), .string ⟨#[]⟩, .slice none 0 0])) w') := Lib.hid (fun w' v' g1 g2 => by
    unfold BuPost
    rw [hrn, hvs]
    exact ⟨none, 0, v', rfl, g1, g2, TmsIn.term (TmsIn.nil _ _ _ _) _ _ _⟩)
   have HO := fun W (x : Ext w W) => Lib.hid (nmOf n (HN.out.ext x) (by omega))
   unfold NmPost at HO
   clear hrn hvs hpk
   generalize (plc n (addV n acc) : Int) = P at *
   go_enter Tryz.func185, Tryz.ntmps185
   go_upto_region 2 with fail
   refine wp_abs (fun V => Hid (Blk V (w.heap.size + 1) 30 #[.int .i64 0, .int .i64 0, .string ⟨#[]⟩, .slice none 0 0]) ∧ Hid (Blk V w.heap.size 30 #[.int .i64 1, .int .i64 n, .string ⟨#[]⟩, .slice A 0 c]) ∧ Hid (Ext w V)) ⟨blk2n, (Blk.new w _ _).alloc _, ((Ext.refl w).alloc _).alloc _⟩ ?_
   rintro V ⟨HZ, HT, HX⟩
   have y1 : V.cell? ⟨w.heap.size, 1, none⟩ = some (.int .i64 n) := HT.out.cell 1
   have HO1 := HO V HX.out
   have CZ := Lib.hid (HN.out.clr (k := w.heap.size + 1) (by omega) HZ.out.lt)
   clear HO
   go_wp2_with (go_at_call 186; refine HO1.out.mono ?_; rintro e W1 ⟨rfl, v1, n1, s1⟩; have z0 := HZ.out.mods s1.mods CZ.out.no; have HZ1 := Lib.hid z0; have N1 := Lib.hid n1; have S1 := Lib.hid s1; have C1 := Lib.hid (s1.clr CZ.out); have zc := z0.cell; have zf := z0.frozen; clear z0 n1 s1)
   have hbf := (((HZ1.out.set_ 0 (.int .i64 1)).set_ 1 (.int .i64 P)).set_ 2 (.string ⟨#[]⟩)).set_ 3 (.slice none 0 0)
   have hc : ∀ (W : World) (i : Nat) (u : Value), Clr2 [nb, rm] v1 W (w.heap.size + 1) → NmAt nb rm W (addV n acc) (addV n acc) v1 → Clr2 [nb, rm] v1 (W.setCell ⟨w.heap.size + 1, i, none⟩ u) (w.heap.size + 1) ∧ NmAt nb rm (W.setCell ⟨w.heap.size + 1, i, none⟩ u) (addV n acc) (addV n acc) v1 := fun W i u g1 g2 =>
    ⟨⟨g1.1, g1.2.1, by simpa using g1.2.2⟩, g2.keep (T := [w.heap.size + 1]) ((Mods.refl _ W).setCell (p := ⟨w.heap.size + 1, i, none⟩) (.inl (by simp)) u) (fun k hk => by simp at hk; subst hk; exact ⟨g1.1, g1.2.1⟩)⟩
   have k0 := hc W1 0 (.int .i64 1) C1.out N1.out
   have k1 := hc _ 1 (.int .i64 P) k0.1 k0.2
   have k2 := hc _ 2 (.string ⟨#[]⟩) k1.1 k1.2
   have k3 := hc _ 3 (.slice none 0 0) k2.1 k2.2
   have hEF := (((((PStep.ext HX.out).trans S1.out).new1 (k := w.heap.size + 1) (by omega) 0 (.int .i64 1)).new1 (k := w.heap.size + 1) (by omega) 1 (.int .i64 P)).new1 (k := w.heap.size + 1) (by omega) 2 (.string ⟨#[]⟩)).new1 (k := w.heap.size + 1) (by omega) 3 (.slice none 0 0)
   have hNF := k3.2
   clear k0 k1 k2 k3 hc
   generalize (((W1.setCell ⟨w.heap.size + 1, 0, none⟩ (.int .i64 1)).setCell ⟨w.heap.size + 1, 1, none⟩ (.int .i64 P)).setCell ⟨w.heap.size + 1, 2, none⟩ (.string ⟨#[]⟩)).setCell ⟨w.heap.size + 1, 3, none⟩ (.slice none 0 0) = VF at hbf hNF hEF ⊢
   have r0 : VF.cell? ⟨w.heap.size + 1, 0, none⟩ = some (.int .i64 1) := hbf.cell 0
   have r1 : VF.cell? ⟨w.heap.size + 1, 1, none⟩ = some (.int .i64 P) := hbf.cell 1
   have r2 : VF.cell? ⟨w.heap.size + 1, 2, none⟩ = some (.string ⟨#[]⟩) := hbf.cell 2
   have r3 : VF.cell? ⟨w.heap.size + 1, 3, none⟩ = some (.slice none 0 0) := hbf.cell 3
   refine bodyPost_ret (v := .agg #[.int .i64 1, .int .i64 P, .string ⟨#[]⟩, .slice none 0 0]) (by simp [results, Tryz.results185, go_sem, r0, r1, r2, r3]) rfl (HPO.out _ _ hNF hEF)
  ·have hk2 : (k == 1) = false := by simpa using hk
   have hrn : rnT (.mk k n s l) acc = .mk k n s (rnL l acc) := by simp [rnT, hk]
   have hvs : vsT (.mk k n s l) acc = vsL l acc := by simp [vsT, hk]
   have HPO : Hid (∀ w' v' A' c', NmAt nb rm w' (vsL l acc) (vsL l acc) v' → PStep [nb, rm] v w v' w' → TmIn (fun b => w.heap.size ≤ b ∧ Clr2 [nb, rm] v' w' b) w' (.mk k n s (rnL l acc)) A' c' → BuPost nb rm (.mk k n s l) acc v w (.returned (.agg #[.int .i64 k, .int .i64 n, .string s, .slice A' l.length c'])) w') := Lib.hid (fun w' v' A' c' g1 g2 g3 => by
    unfold BuPost
    rw [hrn, hvs]
    refine ⟨A', c', v', ?_, g1, g2, g3⟩
    unfold tmVal
    simp only [Tm.k, Tm.n, Tm.s, Tm.l]
    rw [rnL_len])
   clear hpk hrn hvs
   go_enter Tryz.func185, Tryz.ntmps185
   go_upto_region 5 with fail
   refine wp_abs (fun V => Hid (Blk V (w.heap.size + 1 + 1) 30 #[.int .i64 k, .int .i64 n, .string s, .slice none 0 0]) ∧ Hid (Blk V (w.heap.size + 1) 30 #[.int .i64 0, .int .i64 0, .string ⟨#[]⟩, .slice none 0 0]) ∧ Hid (Ext w V)) ⟨blk3, blk2, (((Ext.refl w).alloc _).alloc _).alloc _⟩ ?_
   rintro V ⟨HB0, HZ0, HX0⟩
   have hlw := len_szL l
   have HS0 := Lib.hid (NbAt.start HN.out HX0.out (Nat.le_succ _) HB0.out HZ0.out)
   clear HB0 HZ0 HX0 HN
   generalize V.heap.size = lo at *
   go_loopw [25] (fun i wr => ∃ (j : Nat) (vj qv : Value) (M : List TmP), j ≤ l.length ∧ i = .int .i64 j ∧ Hid (M.map (·.1) = rnL (l.take j) acc) ∧ Hid (NbAt nb rm lo (w.heap.size + 1) w v k n s wr (vsL (l.take j) acc) vj qv qv M)) (fun i _ => l.length - (intOf i).toNat)
   case atStart => exact ⟨0, v, _, [], Nat.zero_le _, rfl, rfl, HS0⟩
   case round =>
    clear HS0
    obtain ⟨j, vj, qv, M, hj, rfl, HM, HR⟩ := hrel
    have hMl : M.length = j := by
     have := congrArg List.length HM.out
     rw [List.length_map, rnL_len, List.length_take] at this
     omega
    subst hMl
    by_cases hlt : M.length < l.length
    ·have ho : l[M.length]? = some l[M.length] := List.getElem?_eq_getElem hlt
     have hsu := szL_get ho
     have hou := okL_get hokl ho
     have hrt := rnL_take acc ho
     have hvt := vsL_take acc ho
     have hvl := (vsL_len (l.take M.length) acc).1
     have hst := szL_take ho
     have hsl := szL_take_le l (M.length + 1)
     generalize l[M.length] = u at ho hou hsu hrt hvt hst
     generalize vsL (l.take M.length) acc = ac at *
     have HRT := Lib.hid hrt
     have HVT := Lib.hid hvt
     obtain ⟨bb, off, A', c', rfl, _, hu, q0, q1, q2, q3⟩ := (HR.out.st.tm H.out).child ho
     obtain ⟨Av, cv, rfl⟩ := own_value HR.out.own
     have HC := fun (W : World) (x : Ext wr W) => Lib.hid (IH u (by omega) (by omega) hou A' c' W ac vj (HR.out.nm.ext x) (by omega) ((PStep.ext x).tm hu))
     unfold tmVal at HC
     clear ho hu hrt hvt hvl hst hsl hsu
     go_upto_region 7 with fail
     refine wp_abs (fun W => Hid (Ext wr W) ∧ Hid (Blk W wr.heap.size 30 #[.int .i64 u.k, .int .i64 u.n, .string u.s, .slice A' u.l.length c'])) ⟨ext_box _ _, Blk.new _ _ _⟩ ?_
     rintro W ⟨HE, HU⟩
     have RW := Lib.hid (HR.out.ext HE.out)
     have hrw := HE.out.size
     have hlo := HR.out.lo2
     have hx1 := HR.out.x1
     have CX := Lib.hid (HR.out.nm.clr (Nat.le_refl _) HU.out.lt)
     have z3 : W.drew.cell? ⟨w.heap.size + 1 + 1, 3, none⟩ = some (.slice Av M.length cv) := RW.out.ub.cell 3
     have z4 : W.drew.cell? ⟨wr.heap.size, 0, none⟩ = some (.int .i64 u.k) := HU.out.cell 0
     have z5 : W.drew.cell? ⟨wr.heap.size, 1, none⟩ = some (.int .i64 u.n) := HU.out.cell 1
     have z6 : W.drew.cell? ⟨wr.heap.size, 2, none⟩ = some (.string u.s) := HU.out.cell 2
     have z7 : W.drew.cell? ⟨wr.heap.size, 3, none⟩ = some (.slice A' u.l.length c') := HU.out.cell 3
     clear q0 q1 q2 q3
     have hq : ∀ b, (Value.slice Av M.length cv).ownBlock = some b → b < W.heap.size := fun b hb => own_lt RW.out.own hb
     have HQ := Lib.hid hq
     have hlw2 : lo ≤ W.heap.size := by omega
     unfold BuPost tmVal at HC
     clear hq
     (first | (go_region_law ((first
      | (go_simp; go_at_call 185; refine (HC _ (HE.out.drew)).out.mono ?_; rintro e W2 ⟨A2, c2, v2, rfl, n2, s2, ht2⟩; have R2 := Lib.hid ((RW.out.ext ((Ext.refl W).drew)).go n2 s2); have K2 := fun o => Lib.hid (kid_newN hlw2 HQ.out ht2 o); have y3 : W2.cell? ⟨w.heap.size + 1 + 1, 3, none⟩ = some (.slice Av M.length cv) := R2.out.ub.cell 3; have y4 := (ext_box W2 (.cells #[.int .i64 (rnT u ac).k, .int .i64 (rnT u ac).n, .string (rnT u ac).s, .slice A2 (rnT u ac).l.length c2] 30)).cell y3; clear n2 s2 ht2)
      | (refine step_append_src (P := Tryz.prog) rfl (.tmp 30) (.tmp 34) 28 rfl 30 i1 _ 4 56 Tryz.underlying28 hi1 hz0 hz1 hz2 rfl (by omega) (.slice Av M.length cv) rfl _ _ _ rfl M.length (flat tmC M) ((R2.out.ext ((Ext.refl W2).alloc _))).own (tmC (rnT u ac, A2, c2)) (El.Src.new _ #[.int .i64 (rnT u ac).k, .int .i64 (rnT u ac).n, .string (rnT u ac).s, .slice A2 (rnT u ac).l.length c2] _ 1 4 rfl) (tmC_one _) (by unfold maxLen; omega) (by omega) ?_; intro v3 w3 ho3 hm3 hb3; obtain ⟨A3, c3, rfl⟩ := own_value ho3; have R3 := Lib.hid ((R2.out.ext ((Ext.refl W2).alloc _)).more (p := (rnT u ac, A2, c2)) (K2 _).out ho3 hm3 hb3); have k3 : w3.cell? ⟨w.heap.size + 1 + 1, 3, none⟩ = some (.slice Av M.length cv) := R3.out.ub.cell 3; have f3 := R3.out.ub.frozen 3; clear ho3 hm3 hb3)))) | fail "region 7")
     all_goals
      go_wp2_with fail
      go_roundw
      case rel => exact ⟨M.length + 1, v2, _, M ++ [(rnT u ac, A2, c2)], hlt, by go_num, Lib.hid (by rw [List.map_append, HM.out, HRT.out]; rfl), Lib.hid (by rw [HVT.out]; exact R3.out.put)⟩
      case measure => simp [intOf]; omega
    ·have hMl : M.length = l.length := by omega
     have hM1 : M.map (·.1) = rnL l acc := by rw [HM.out, hMl, List.take_length]
     obtain ⟨A2, c2, rfl, ht2⟩ := row_done (D := fun b => lo ≤ b ∧ Clr2 [nb, rm] vj wr b) HR.out.own (fun p hp => (HR.out.kid p hp).mono (fun b hb => ⟨hb.1, hb.2.1⟩)) HR.out.far k n s
     rw [hM1] at ht2
     rw [hMl, List.take_length] at HR
     rw [hMl] at hlt ⊢
     have b0 : wr.cell? ⟨w.heap.size + 1 + 1, 0, none⟩ = some (.int .i64 k) := HR.out.ub.cell 0
     have b1 : wr.cell? ⟨w.heap.size + 1 + 1, 1, none⟩ = some (.int .i64 n) := HR.out.ub.cell 1
     have b2 : wr.cell? ⟨w.heap.size + 1 + 1, 2, none⟩ = some (.string s) := HR.out.ub.cell 2
     have b3 : wr.cell? ⟨w.heap.size + 1 + 1, 3, none⟩ = some (.slice A2 l.length c2) := HR.out.ub.cell 3
     have zc := HR.out.zb.cell
     have zf := HR.out.zb.frozen
     have hx1 := HR.out.x1
     have hbf := (((HR.out.zb.set_ 0 (.int .i64 k)).set_ 1 (.int .i64 n)).set_ 2 (.string s)).set_ 3 (.slice A2 l.length c2)
     have hc : ∀ (W : World) (i : Nat) (u : Value), Clr2 [nb, rm] vj W (w.heap.size + 1) → NmAt nb rm W (vsL l acc) (vsL l acc) vj → Clr2 [nb, rm] vj (W.setCell ⟨w.heap.size + 1, i, none⟩ u) (w.heap.size + 1) ∧ NmAt nb rm (W.setCell ⟨w.heap.size + 1, i, none⟩ u) (vsL l acc) (vsL l acc) vj := fun W i u g1 g2 =>
      ⟨⟨g1.1, g1.2.1, by simpa using g1.2.2⟩, g2.keep (T := [w.heap.size + 1]) ((Mods.refl _ W).setCell (p := ⟨w.heap.size + 1, i, none⟩) (.inl (by simp)) u) (fun k hk => by simp at hk; subst hk; exact ⟨g1.1, g1.2.1⟩)⟩
     have k0 := hc wr 0 (.int .i64 k) HR.out.cz HR.out.nm
     have k1 := hc _ 1 (.int .i64 n) k0.1 k0.2
     have k2 := hc _ 2 (.string s) k1.1 k1.2
     have k3 := hc _ 3 (.slice A2 l.length c2) k2.1 k2.2
     have hEF := (((HR.out.st.new1 (k := w.heap.size + 1) (by omega) 0 (.int .i64 k)).new1 (k := w.heap.size + 1) (by omega) 1 (.int .i64 n)).new1 (k := w.heap.size + 1) (by omega) 2 (.string s)).new1 (k := w.heap.size + 1) (by omega) 3 (.slice A2 l.length c2)
     have hTF := TmIn.mods (S := [w.heap.size + 1]) (D' := fun b => w.heap.size ≤ b ∧ Clr2 [nb, rm] vj ((((wr.setCell ⟨w.heap.size + 1, 0, none⟩ (.int .i64 k)).setCell ⟨w.heap.size + 1, 1, none⟩ (.int .i64 n)).setCell ⟨w.heap.size + 1, 2, none⟩ (.string s)).setCell ⟨w.heap.size + 1, 3, none⟩ (.slice A2 l.length c2)) b) (((((Mods.refl _ wr).setCell (p := ⟨w.heap.size + 1, 0, none⟩) (.inl (by simp)) (.int .i64 k)).setCell (p := ⟨w.heap.size + 1, 1, none⟩) (.inl (by simp)) (.int .i64 n)).setCell (p := ⟨w.heap.size + 1, 2, none⟩) (.inl (by simp)) (.string s)).setCell (p := ⟨w.heap.size + 1, 3, none⟩) (.inl (by simp)) (.slice A2 l.length c2)) (fun i hi => by simp; omega) (fun i hi => ⟨by omega, hi.2.1, hi.2.2.1, by simpa using hi.2.2.2⟩) ht2
     have HBF := Lib.hid hbf
     have HEF := Lib.hid hEF
     have HTF := Lib.hid hTF
     have HNF := Lib.hid k3.2
     clear hbf hEF hTF ht2 HM HR k0 k1 k2 k3 hc
     go_wp2_with fail
     generalize (((wr.setCell ⟨w.heap.size + 1, 0, none⟩ (.int .i64 k)).setCell ⟨w.heap.size + 1, 1, none⟩ (.int .i64 n)).setCell ⟨w.heap.size + 1, 2, none⟩ (.string s)).setCell ⟨w.heap.size + 1, 3, none⟩ (.slice A2 l.length c2) = VF at HBF HEF HTF HNF ⊢
     have r0 : VF.cell? ⟨w.heap.size + 1, 0, none⟩ = some (.int .i64 k) := HBF.out.cell 0
     have r1 : VF.cell? ⟨w.heap.size + 1, 1, none⟩ = some (.int .i64 n) := HBF.out.cell 1
     have r2 : VF.cell? ⟨w.heap.size + 1, 2, none⟩ = some (.string s) := HBF.out.cell 2
     have r3 : VF.cell? ⟨w.heap.size + 1, 3, none⟩ = some (.slice A2 l.length c2) := HBF.out.cell 3
     refine bodyPost_ret (v := .agg #[.int .i64 k, .int .i64 n, .string s, .slice A2 l.length c2]) (by simp [results, Tryz.results185, go_sem, r0, r1, r2, r3]) rfl (HPO.out _ _ _ _ HNF.out HEF.out HTF.out)
end Go.Proofs.YtmnnhdegoapfcaaGreatDoor

/- Layer 6, the program: the walks of rename, Vars. -/
namespace Go.Proofs.YtmnnhdegoapfcaaGreatDoor
open Go.RowKit Go.El
def RnPost (t : Tm) (w : World) (e : Ending) (w' : World) : Prop :=
 ∃ A' c' v, e = .returned (.tuple #[tmVal (rnT t []) A' c', v]) ∧ Ext w w' ∧ TmIn (fun b => w.heap.size ≤ b ∧ v.ownBlock ≠ some b ∧ b < w'.heap.size) w' (rnT t []) A' c' ∧ w'.ownsRow 0 3 1 v (vsT t []).length ((vsT t []).map (Value.int .i64)) ∧ ∀ b, v.ownBlock = some b → w.heap.size ≤ b
theorem blk4n {w : World} {t1 t2 t4 : TypeId} {c1 c2 c4 : Array Value} {o : Obj} : Blk ((((w.alloc (.cells c1 t1)).alloc (.cells c2 t2)).alloc o).alloc (.cells c4 t4)) (w.heap.size + 1 + 1 + 1) t4 c4 := by
 have := Blk.new (((w.alloc (.cells c1 t1)).alloc (.cells c2 t2)).alloc o) t4 c4
 rw [World.size_alloc, World.size_alloc, World.size_alloc] at this
 exact this
theorem map4n {w : World} {t1 t2 t4 : TypeId} {c1 c2 c4 : Array Value} : MapAt (Value.int .i64) ((((w.alloc (.cells c1 t1)).alloc (.cells c2 t2)).alloc (.map #[] 0)).alloc (.cells c4 t4)) (w.heap.size + 1 + 1) (numP []) := by
 have := (MapAt.new (Value.int .i64) ((w.alloc (.cells c1 t1)).alloc (.cells c2 t2))).ext ((Ext.refl _).alloc (.cells c4 t4))
 rw [World.size_alloc, World.size_alloc] at this
 exact this
set_option maxRecDepth 100000 in
set_option maxHeartbeats 4000000 in
theorem rename_any (t : Tm) (A : Option Addr) (c : Nat) (w : World) (D : Nat → Prop) (hok : okT t = true) (hbig : szT t ≤ 100000000) (ht : TmIn D w t A c) :
  Calls Tryz.prog 157 #[tmVal t A c] w (RnPost t w) := by
 have HT0 := Lib.hid ht
 have hmm := @run_makeMap Tryz.prog
 unfold tmVal
 go_enter Tryz.func157, Tryz.ntmps157
 go_upto_region 2 with fail
 clear hmm
 refine wp_abs (fun V => Hid (Blk V w.heap.size 30 #[.int .i64 t.k, .int .i64 t.n, .string t.s, .slice A t.l.length c]) ∧ Hid (Blk V (w.heap.size + 1) 30 #[.int .i64 0, .int .i64 0, .string ⟨#[]⟩, .slice none 0 0]) ∧ Hid (Ext w V) ∧ Hid (NmAt (w.heap.size + 1 + 1 + 1) (w.heap.size + 1 + 1) V [] [] (.slice none 0 0)))
  ⟨((Blk.new w _ _).alloc _ |>.alloc _).alloc _, (blk2n.alloc _).alloc _, ((((Ext.refl w).alloc _).alloc _).alloc _).alloc _, ⟨blk4n, map4n, World.ownsRow_nil _ _ _ _, by omega, by simp [Value.ownBlock], by simp [Value.ownBlock]⟩⟩ ?_
 rintro V ⟨HT, HZ, HX, HN⟩
 have x0 : V.cell? ⟨w.heap.size, 0, none⟩ = some (.int .i64 t.k) := HT.out.cell 0
 have x1 : V.cell? ⟨w.heap.size, 1, none⟩ = some (.int .i64 t.n) := HT.out.cell 1
 have x2 : V.cell? ⟨w.heap.size, 2, none⟩ = some (.string t.s) := HT.out.cell 2
 have x3 : V.cell? ⟨w.heap.size, 3, none⟩ = some (.slice A t.l.length c) := HT.out.cell 3
 have hVl := HN.out.blk.lt
 have hn : ∀ k, k < w.heap.size + 1 + 1 → k < V.heap.size → Clr2 [w.heap.size + 1 + 1 + 1, w.heap.size + 1 + 1] (.slice none 0 0) V k := fun k h1 h2 => ⟨by simp; omega, by simp [Value.ownBlock], h2⟩
 have CZ := Lib.hid (hn (w.heap.size + 1) (by omega) HZ.out.lt)
 have HB := Lib.hid (buildNm (w.heap.size + 1 + 1 + 1) (w.heap.size + 1 + 1) (szT t) t (Nat.le_refl _) hbig hok A c V [] (.slice none 0 0) HN.out (by simp; omega) ((HT0.out.lt.ext HX.out).mono (fun k hk => hn k (by omega) (by omega))))
 have hS : ∀ x, x ∈ [w.heap.size + 1 + 1 + 1, w.heap.size + 1 + 1] → w.heap.size ≤ x := fun x hx => by simp at hx; omega
 have HS := Lib.hid hS
 clear hS hn HT ht HT0
 unfold BuPost tmVal at HB
 obtain ⟨nb, hnb⟩ : ∃ nb, nb = w.heap.size + 1 + 1 + 1 := ⟨_, rfl⟩
 have hne1 : ¬ (w.heap.size + 1 = nb) := by omega
 have hne2 : ¬ (nb = w.heap.size + 1) := by omega
 rw [← hnb] at HB HN CZ HS ⊢
 clear hnb
 generalize w.heap.size + 1 + 1 = rm at *
 go_upto_region 3 with (go_at_call 185; refine HB.out.mono ?_; rintro e W1 ⟨A1, c1, v1, rfl, n1, s1, ht1⟩; have N1 := Lib.hid n1; have S1 := Lib.hid s1; have T1 := Lib.hid ht1; clear n1 s1 ht1)
 have hP : Hid (∀ W2, Ext W1 W2 → ∀ q0 q1 q2 q3, RnPost t w (.returned (.tuple #[.agg #[.int .i64 (rnT t []).k, .int .i64 (rnT t []).n, .string (rnT t []).s, .slice A1 (rnT t []).l.length c1], v1])) ((((W2.setCell ⟨w.heap.size + 1, 0, none⟩ q0).setCell ⟨w.heap.size + 1, 1, none⟩ q1).setCell ⟨w.heap.size + 1, 2, none⟩ q2).setCell ⟨w.heap.size + 1, 3, none⟩ q3).drew) := by
  intro W2 x2 q0 q1 q2 q3
  have hzv := HZ.out.lt
  have hs1 := S1.out.mods.size
  have hs2 := x2.size
  have hvx := HX.out.size
  have e1 : Ext w W1 := (Mods.step (S := []) (Mods.ext HX.out) S1.out.mods (fun x hx => .inr (by
   rcases List.mem_append.1 hx with hx | hx
   ·exact HS.out x hx
   ·simp [ownL, Value.ownBlock] at hx))).toExt (by simp)
  have hv1 : v1.ownBlock ≠ some (w.heap.size + 1) := (S1.out.clr CZ.out).2.1
  have hd : ∀ (W : World) (i : Nat) (q : Value), Mods [w.heap.size + 1] W2 W → Mods [w.heap.size + 1] W2 (W.setCell ⟨w.heap.size + 1, i, none⟩ q) := fun W i q h => h.setCell (p := ⟨w.heap.size + 1, i, none⟩) (.inl (by simp)) q
  have hd4 := (hd _ 3 q3 (hd _ 2 q2 (hd _ 1 q1 (hd _ 0 q0 (Mods.refl _ W2))))).drew
  refine ⟨A1, c1, v1, rfl, ((((e1.trans x2).setCell (p := ⟨w.heap.size + 1, 0, none⟩) (by simp) q0).setCell (p := ⟨w.heap.size + 1, 1, none⟩) (by simp) q1).setCell (p := ⟨w.heap.size + 1, 2, none⟩) (by simp) q2).setCell (p := ⟨w.heap.size + 1, 3, none⟩) (by simp) q3 |>.drew, ?_, ?_, fun b hb => ?_⟩
  ·refine TmIn.mods hd4 (fun b hb => by simp; omega) (fun b hb => ?_) (T1.out.ext x2)
   refine ⟨by omega, hb.2.2.1, ?_⟩
   have h4 := hb.2.2.2
   have h5 := hd4.size
   omega
  ·exact own_mods (own_ext N1.out.own x2) hd4 (fun b hb => by simp; rintro rfl; exact hv1 hb)
  ·rcases S1.out.own b hb with h | h
   ·simp [Value.ownBlock] at h
   ·omega
 have HZ2 := fun (o : Obj) => Lib.hid ((HZ.out.mods S1.out.mods CZ.out.no).ext ((Ext.refl W1).alloc o))
 have HU2 := Blk.new W1 30 #[.int .i64 (rnT t []).k, .int .i64 (rnT t []).n, .string (rnT t []).s, .slice A1 (rnT t []).l.length c1]
 have HZ3 := (HZ2 (.cells #[.int .i64 (rnT t []).k, .int .i64 (rnT t []).n, .string (rnT t []).s, .slice A1 (rnT t []).l.length c1] 30)).out
 have HN3 := N1.out.ext (ext_box W1 (.cells #[.int .i64 (rnT t []).k, .int .i64 (rnT t []).n, .string (rnT t []).s, .slice A1 (rnT t []).l.length c1] 30))
 have HX3 := Lib.hid (ext_box W1 (.cells #[.int .i64 (rnT t []).k, .int .i64 (rnT t []).n, .string (rnT t []).s, .slice A1 (rnT t []).l.length c1] 30))
 have hzl := HZ.out.lt
 have hsz := S1.out.mods.size
 have hub : Hid (∀ (x : Nat), x < W1.heap.size → ¬ x = W1.heap.size ∧ ¬ W1.heap.size = x) := fun x hx => ⟨by omega, by omega⟩
 have hu1 := hub.out (w.heap.size + 1) (by omega)
 have hu2 := hub.out nb (by have := N1.out.blk.lt; omega)
 generalize W1.alloc (.cells #[.int .i64 (rnT t []).k, .int .i64 (rnT t []).n, .string (rnT t []).s, .slice A1 (rnT t []).l.length c1] 30) = W2 at HU2 HZ3 HN3 HX3 ⊢
 generalize W1.heap.size = ub at *
 obtain ⟨hu3, hu4⟩ := hu1
 obtain ⟨hu5, hu6⟩ := hu2
 have u9 : ∀ i, W2.drew.cell? ⟨ub, i, none⟩ = _ := HU2.cell
 have z9 : ∀ i, W2.drew.cell? ⟨w.heap.size + 1, i, none⟩ = _ := HZ3.cell
 have zf : ∀ i, W2.drew.frozen? ⟨w.heap.size + 1, i, none⟩ = false := HZ3.frozen
 have n9 : W2.drew.cell? ⟨nb, 1, none⟩ = some v1 := HN3.blk.cell 1
 have u8 := HU2.cell
 have z8 := HZ3.cell
 have zf8 := HZ3.frozen
 have n8 : W2.cell? ⟨nb, 1, none⟩ = some v1 := HN3.blk.cell 1
 clear HZ2 hub x0 x1 x2 x3 HB HN HZ CZ HX HS
 have hbf := (((HZ3.set_ 0 (.int .i64 (rnT t []).k)).set_ 1 (.int .i64 (rnT t []).n)).set_ 2 (.string (rnT t []).s)).set_ 3 (.slice A1 (rnT t []).l.length c1)
 have HPF := hP.out _ HX3.out (.int .i64 (rnT t []).k) (.int .i64 (rnT t []).n) (.string (rnT t []).s) (.slice A1 (rnT t []).l.length c1)
 have HBF := Lib.hid hbf
 have HPG := Lib.hid HPF
 clear hbf HPF hP
 go_region
 all_goals
  go_wp2_with fail
  generalize (((W2.setCell ⟨w.heap.size + 1, 0, none⟩ (.int .i64 (rnT t []).k)).setCell ⟨w.heap.size + 1, 1, none⟩ (.int .i64 (rnT t []).n)).setCell ⟨w.heap.size + 1, 2, none⟩ (.string (rnT t []).s)).setCell ⟨w.heap.size + 1, 3, none⟩ (.slice A1 (rnT t []).l.length c1) = VF at HBF HPG ⊢
  have r0 : VF.drew.cell? ⟨w.heap.size + 1, 0, none⟩ = some (.int .i64 (rnT t []).k) := HBF.out.cell 0
  have r1 : VF.drew.cell? ⟨w.heap.size + 1, 1, none⟩ = some (.int .i64 (rnT t []).n) := HBF.out.cell 1
  have r2 : VF.drew.cell? ⟨w.heap.size + 1, 2, none⟩ = some (.string (rnT t []).s) := HBF.out.cell 2
  have r3 : VF.drew.cell? ⟨w.heap.size + 1, 3, none⟩ = some (.slice A1 (rnT t []).l.length c1) := HBF.out.cell 3
  refine bodyPost_ret (v := .tuple #[.agg #[.int .i64 (rnT t []).k, .int .i64 (rnT t []).n, .string (rnT t []).s, .slice A1 (rnT t []).l.length c1], v1]) (by simp [results, Tryz.results157, go_sem, r0, r1, r2, r3]) rfl HPG.out
set_option maxRecDepth 100000 in
set_option maxHeartbeats 2000000 in
theorem varsP_any (t : Tm) (A : Option Addr) (c : Nat) (w : World) (D : Nat → Prop) (hm : mayT t = true) (ht : TmIn D w t A c) :
  Calls Tryz.prog 122 #[tmVal t A c] w fun e w' => ∃ v, e = .returned v ∧ w'.ownsRow 0 3 1 v (vsT t []).length ((vsT t []).map (Value.int .i64)) ∧ Ext w w' ∧ ∀ b, v.ownBlock = some b → w.heap.size ≤ b := by
 obtain ⟨hok, hdp, hsz⟩ := mayT_iff.1 hm
 have HM := fun W (x : Ext w W) => Lib.hid (may_any t A c W D (TmIn.ext x ht) (by omega))
 have HR := fun W (x : Ext w W) => Lib.hid (rename_any t A c W D hok (by omega) (TmIn.ext x ht))
 rw [hm] at HM
 unfold RnPost tmVal at HR
 unfold tmVal at HM ⊢
 clear hok hdp hsz hm ht
 go_enter Tryz.func122, Tryz.ntmps122
 go_upto_region 1 with fail
 refine wp_abs (fun V => Hid (Blk V w.heap.size 30 #[.int .i64 t.k, .int .i64 t.n, .string t.s, .slice A t.l.length c]) ∧ Hid (Ext w V)) ⟨Blk.new _ _ _, ext_box _ _⟩ ?_
 rintro V ⟨HT, HX⟩
 have x9 := HT.out.cell
 have HM1 := HM V HX.out
 go_upto_region 3 with (go_at_call 156; refine HM1.out.mono ?_; rintro e W1 ⟨rfl, x1⟩; have X1 := Lib.hid (HX.out.trans x1); have y9 := (HT.out.ext x1).cell; have HR1 := HR W1 X1.out; clear x1)
 go_wp2_with (go_at_call 157; refine HR1.out.mono ?_; rintro e W2 ⟨A2, c2, v2, rfl, x2, _, o2, f2⟩; have X2 := Lib.hid (X1.out.trans x2); have O2 := Lib.hid o2; have F2 := Lib.hid f2; have S2 := Lib.hid (X1.out.size); clear x2 o2 f2)
 go_ret
 exact ⟨_, rfl, own_ext O2.out ((Ext.refl _).alloc _), X2.out.alloc _, fun b hb => Nat.le_trans S2.out (F2.out b hb)⟩
end Go.Proofs.YtmnnhdegoapfcaaGreatDoor
