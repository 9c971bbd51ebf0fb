/- Layer 15, the program: the walk of note. -/
import Derived.Test.YtmnnhdegoapfcaaGreatDoorP30
import Derived.Test.YtmnnhdegoapfcaaGreatDoorP08
import Derived.Maps.RangeRun
import Derived.Sort.MapsRangeIn
import Derived.RangeFuncGives
namespace Go.El
open Go.RowKit
def spV (x : Spn) : Value := .agg #[.int .i64 x.n, .int .i64 x.a, .int .i64 x.b]
def spP (L : List Spn) : List (Int × Value) := L.map fun x => (x.n, spV x)
def findS (n : Int) : List Spn → Option Spn
 | [] => none
 | x :: l => if x.n = n then some x else findS n l
theorem sp_find (n : Int) : ∀ L : List Spn, findP n (spP L) = (findS n L).map spV
 | [] => rfl
 | x :: L => by
  have ih := sp_find n L
  simp only [spP, List.map_cons, findP, findS] at ih ⊢
  split
  ·rfl
  ·exact ih
def ntY (k n : Int) (L : List Spn) : Spn := match findS n L with
 | some x => { x with b := k }
 | none => ⟨n, k, k⟩
theorem sp_set (k n : Int) : ∀ L : List Spn, setP n (spV (ntY k n L)) (spP L) = spP (noteS k n L)
 | [] => rfl
 | x :: L => by
  have ih := sp_set k n L
  unfold ntY at ih ⊢
  simp only [spP, List.map_cons, setP, findS, noteS] at ih ⊢
  by_cases h : x.n = n
  ·rw [if_pos h, if_pos h, if_pos h]
   simp [h]
  ·rw [if_neg h, if_neg h, if_neg h]
   simp only [List.map_cons]
   rw [ih]
theorem findS_n {n : Int} : ∀ {L : List Spn} {x : Spn}, findS n L = some x → x.n = n
 | [], _, h => by cases h
 | y :: L, x, h => by
  simp only [findS] at h
  split at h
  ·injection h with h
   subst h
   assumption
  ·exact findS_n h
theorem notesS_take {k : Int} {ns : List Int} {j : Nat} {n : Int} (L : List Spn) (h : ns[j]? = some n) : notesS k (ns.take (j + 1)) L = noteS k n (notesS k (ns.take j) L) := by
 obtain ⟨hj, he⟩ := List.getElem?_eq_some_iff.1 h
 unfold notesS
 rw [List.take_succ_eq_append_getElem hj, List.foldl_append, he]
 rfl
end Go.El
namespace Go.Proofs.YtmnnhdegoapfcaaGreatDoor
open Go.RowKit Go.El
theorem zeroSp (W : World) : (zeroValue 135).run Tryz.prog W = .ok (.agg #[.int .i64 0, .int .i64 0, .int .i64 0]) W := by kernel_rfl
set_option maxRecDepth 100000 in
set_option maxHeartbeats 4000000 in
theorem pNote (k : Int) (ns : List Int) (A : Option Addr) (c : Nat) (L : List Spn) (sm : Nat) (w : World) (hM : MapAt (Value.int .i64) w sm (spP L)) (hs : El.Src w A ns.length 1 (ns.map (Value.int .i64))) (hl : ns.length ≤ 1000000000) :
  Calls Tryz.prog 121 #[.map (some sm), .int .i64 k, .slice A ns.length c] w fun e w' => e = .returned (.tuple #[]) ∧ MapAt (Value.int .i64) w' sm (spP (notesS k ns L)) ∧ Mods [sm] w w' := by
 have HM := Lib.hid hM
 have HS := Lib.hid hs
 clear hM hs
 go_enter Tryz.func121, Tryz.ntmps121
 go_upto_region 1 with fail
 go_loopw [12] (fun i wr => ∃ j : Nat, j ≤ ns.length ∧ i = .int .i64 j ∧ Hid (MapAt (Value.int .i64) wr sm (spP (notesS k (ns.take j) L))) ∧ Hid (Mods [sm] w wr)) (fun i _ => ns.length - (intOf i).toNat)
 case atStart => exact ⟨0, Nat.zero_le _, rfl, HM, Lib.hid (Mods.refl _ _)⟩
 case round =>
  obtain ⟨j, hj, rfl, HP, HD⟩ := hrel
  by_cases hlt : j < ns.length
  ·have ho : ns[j]? = some ns[j] := List.getElem?_eq_getElem hlt
   generalize ns[j] = n at ho
   obtain ⟨sb, off, rfl, hcell⟩ := El.Src.form HS.out (by omega) (by omega)
   have hc0 : w.cell? ⟨sb, off + j, none⟩ = some (.int .i64 n) := hcell j _ (by rw [List.getElem?_map, ho]; rfl)
   have hne : sb ≠ sm := HM.out.ne_cell hc0
   have c0 := HD.out.cell hc0 (by simpa using hne)
   have HTK := Lib.hid (notesS_take (k := k) L ho)
   generalize notesS k (ns.take j) L = Lj at *
   have hf := sp_find n Lj
   have HST := Lib.hid (sp_set k n Lj)
   clear hcell hc0 ho hne
   cases hfs : findS n Lj with
   | some x =>
    rw [hfs] at hf
    have hn := findS_n hfs
    obtain ⟨xn, xa, xb⟩ := x
    simp only at hn
    subst hn
    have hy : ntY k xn Lj = ⟨xn, xa, k⟩ := by unfold ntY; rw [hfs]
    rw [hy] at HST
    have HF := Lib.hid hf
    unfold spV at HF HST
    clear hf hfs hy
    go_upto_region 4 with (at_lookup; refine wpList_lookup_at (P := Tryz.prog) _ rfl _ _ true rfl (intKind .i64) Tryz.underlying129 Tryz.underlying3 sm rfl xn rfl _ zeroSp _ HP.out ?_; rw [HF.out]; simp only [if_true, Option.map_some, Option.getD_some, Option.isSome_some])
    refine wp_abs (fun W => Hid (Ext wr W) ∧ Hid (Blk W wr.heap.size 135 #[.int .i64 xn, .int .i64 xa, .int .i64 xb])) ⟨ext_box _ _, Blk.new _ _ _⟩ ?_
    rintro W ⟨HE, HU⟩
    have u9 := HU.out.cell
    have uf := HU.out.frozen
    have HM2 := fun q => Lib.hid ((HP.out.ext HE.out).setCell ⟨wr.heap.size, 2, none⟩ q)
    have HU2 := fun q => Lib.hid (HU.out.set_ 2 q)
    have HD2 := fun q => Lib.hid ((HD.out.trans (Mods.ext HE.out)).setCell (p := ⟨wr.heap.size, 2, none⟩) (.inr HD.out.size) q)
    go_upto_region 7 with fail
    refine wp_abs (fun W => Hid (MapAt (Value.int .i64) W sm (spP Lj)) ∧ Hid (Blk W wr.heap.size 135 #[.int .i64 xn, .int .i64 xa, .int .i64 k]) ∧ Hid (Mods [sm] w W)) ⟨HM2 _, HU2 _, HD2 _⟩ ?_
    rintro W2 ⟨HM3, HU3, HD3⟩
    have v9 := HU3.out.cell
    clear HM2 HU2 HD2 u9 uf
    go_wp2_with (at_mapUpdate; refine wpList_mapUpdate_at (P := Tryz.prog) _ rfl _ _ _ 129 rfl (intKind .i64) Tryz.underlying129 Tryz.underlying3 (m := sm) (ps := spP Lj) rfl HM3.out xn (.agg #[.int .i64 xn, .int .i64 xa, .int .i64 k]) rfl rfl ?_; intro w5 hm5 hd5 hs5; have H5 := Lib.hid hm5; have D5 := Lib.hid hd5; clear hm5 hd5 hs5)
    go_roundw
    case rel => exact ⟨j + 1, hlt, by go_num, Lib.hid (by rw [HTK.out, ← HST.out]; exact H5.out), Lib.hid (HD3.out.trans D5.out)⟩
    case measure => simp [intOf]; omega
   | none =>
    rw [hfs] at hf
    have hy : ntY k n Lj = ⟨n, k, k⟩ := by unfold ntY; rw [hfs]
    rw [hy] at HST
    have HF := Lib.hid hf
    unfold spV at HF HST
    clear hf hfs hy
    go_upto_region 4 with (at_lookup; refine wpList_lookup_at (P := Tryz.prog) _ rfl _ _ true rfl (intKind .i64) Tryz.underlying129 Tryz.underlying3 sm rfl n rfl _ zeroSp _ HP.out ?_; rw [HF.out]; simp only [if_true, Option.map_none, Option.getD_none, Option.isSome_none])
    refine wp_abs (fun W => Hid (Ext wr W) ∧ Hid (Blk W wr.heap.size 135 #[.int .i64 0, .int .i64 0, .int .i64 0])) ⟨ext_box _ _, Blk.new _ _ _⟩ ?_
    rintro W ⟨HE, HU⟩
    have u9 := HU.out.cell
    have uf := HU.out.frozen
    have HM2 := fun q0 q1 q2 q => Lib.hid (((((HP.out.ext HE.out).setCell ⟨wr.heap.size, 0, none⟩ q0).setCell ⟨wr.heap.size, 1, none⟩ q1).setCell ⟨wr.heap.size, 2, none⟩ q2).setCell ⟨wr.heap.size, 2, none⟩ q)
    have HU2 := fun q0 q1 q2 q => Lib.hid ((((HU.out.set_ 0 q0).set_ 1 q1).set_ 2 q2).set_ 2 q)
    have HD2 := fun q0 q1 q2 q => Lib.hid (((((HD.out.trans (Mods.ext HE.out)).setCell (p := ⟨wr.heap.size, 0, none⟩) (.inr HD.out.size) q0).setCell (p := ⟨wr.heap.size, 1, none⟩) (.inr HD.out.size) q1).setCell (p := ⟨wr.heap.size, 2, none⟩) (.inr HD.out.size) q2).setCell (p := ⟨wr.heap.size, 2, none⟩) (.inr HD.out.size) q)
    go_upto_region 7 with fail
    refine wp_abs (fun W => Hid (MapAt (Value.int .i64) W sm (spP Lj)) ∧ Hid (Blk W wr.heap.size 135 #[.int .i64 n, .int .i64 k, .int .i64 k]) ∧ Hid (Mods [sm] w W)) ⟨HM2 _ _ _ _, HU2 _ _ _ _, HD2 _ _ _ _⟩ ?_
    rintro W2 ⟨HM3, HU3, HD3⟩
    have v9 := HU3.out.cell
    clear HM2 HU2 HD2 u9 uf
    go_wp2_with (at_mapUpdate; refine wpList_mapUpdate_at (P := Tryz.prog) _ rfl _ _ _ 129 rfl (intKind .i64) Tryz.underlying129 Tryz.underlying3 (m := sm) (ps := spP Lj) rfl HM3.out n (.agg #[.int .i64 n, .int .i64 k, .int .i64 k]) rfl rfl ?_; intro w5 hm5 hd5 hs5; have H5 := Lib.hid hm5; have D5 := Lib.hid hd5; clear hm5 hd5 hs5)
    go_roundw
    case rel => exact ⟨j + 1, hlt, by go_num, Lib.hid (by rw [HTK.out, ← HST.out]; exact H5.out), Lib.hid (HD3.out.trans D5.out)⟩
    case measure => simp [intOf]; omega
  ·obtain rfl : j = ns.length := by omega
   rw [List.take_length] at HP
   go_wp2_with fail
   go_end0
   exact ⟨rfl, HP.out, HD.out⟩
end Go.Proofs.YtmnnhdegoapfcaaGreatDoor

/- Layer 15, the program: the walk of gather. -/
namespace Go.El
open Go.RowKit
theorem gath_take {gs : List (Int × Tm)} {j : Nat} {g : Int × Tm} (s : List Spn × Nat) (h : gs[j]? = some g) : (gs.take (j + 1)).foldl gathG s = gathG ((gs.take j).foldl gathG s) g := by
 obtain ⟨hj, he⟩ := List.getElem?_eq_some_iff.1 h
 rw [List.take_succ_eq_append_getElem hj, List.foldl_append, he]
 rfl
theorem gath_le (gs : List (Int × Tm)) : ∀ (s : List Spn × Nat), (gs.foldl gathG s).2 ≤ s.2 + gs.length := by
 induction gs with
 | nil => intro s; simp
 | cons g gs ih =>
  intro s
  have := ih (gathG s g)
  have h2 : (gathG s g).2 ≤ s.2 + 1 := by
   unfold gathG
   simp only
   split <;> simp
  simp only [List.foldl_cons, List.length_cons]
  omega
theorem gathG3 (L : List Spn) (k : Nat) (t : Tm) : gathG (L, k) (3, t) = (notesS k (vsT t []) (notesS k [-1] (notesS 0 [-1] L)), k + 1) := by
 unfold gathG
 simp [notesS]
theorem gathG20 (L : List Spn) (t : Tm) : gathG (L, 0) (2, t) = (L, 0) := by
 unfold gathG
 simp
theorem gathG2 (L : List Spn) (k : Nat) (t : Tm) (h : 0 < k) : gathG (L, k) (2, t) = (notesS k [-1] (notesS 0 [-1] L), k) := by
 unfold gathG
 simp [notesS, h]
theorem gathGo (L : List Spn) (k : Nat) (kg : Int) (t : Tm) (h3 : ¬ kg = 3) (h2 : ¬ kg = 2) : gathG (L, k) (kg, t) = (notesS k (vsT t []) L, k + 1) := by
 unfold gathG
 simp only
 rw [if_neg (show ¬ (kg = 3 ∨ (kg = 2 ∧ 0 < k)) from fun h => h.elim h3 (fun h => h2 h.1)), if_neg h2]
end Go.El
namespace Go.Proofs.YtmnnhdegoapfcaaGreatDoor
open Go.RowKit Go.El
structure GatAt (cs : Array Value) (w : World) (sm : Nat) (wr : World) (L : List Spn) : Prop where
 bx : Blk wr w.heap.size 34 cs
 map : MapAt (Value.int .i64) wr sm (spP L)
 ext : Ext w wr
 lo : w.heap.size < sm
theorem GatAt.go {cs : Array Value} {w : World} {sm : Nat} {wr w' : World} {L : List Spn} (h : GatAt cs w sm wr L) (x : Ext wr w') : GatAt cs w sm w' L := ⟨h.bx.ext x, h.map.ext x, h.ext.trans x, h.lo⟩
theorem GatAt.note {cs : Array Value} {w : World} {sm : Nat} {wr w' : World} {L L' : List Spn} (h : GatAt cs w sm wr L) (hm : MapAt (Value.int .i64) w' sm (spP L')) (hd : Mods [sm] wr w') : GatAt cs w sm w' L' := by
 have := h.lo
 exact ⟨h.bx.mods hd (by simp; omega), hm, (Mods.step (S := []) (Mods.ext h.ext) hd (fun x hx => .inr (by simp at hx; omega))).toExt (by simp), h.lo⟩
structure ClMay (c : Cls) : Prop where
 h : mayT c.h = true
 g : ∀ (j : Nat) (k : Int) (t : Tm), c.gs[j]? = some (k, t) → mayT t = true
 l : c.gs.length ≤ 1000000000
set_option maxRecDepth 100000 in
set_option maxHeartbeats 8000000 in
theorem pGather (c : Cls) (hA : Option Addr) (hc : Nat) (gA : Option Addr) (gc : Nat) (D : Nat → Prop) (w : World) (h : ClIn D w c hA hc gA gc) (hz : ClMay c) :
  Calls Tryz.prog 81 #[.agg (clC c hA hc gA gc)] w fun e w' => ∃ sm, e = .returned (.tuple #[.map (some sm), .int .i64 (gathF c).2]) ∧ MapAt (Value.int .i64) w' sm (spP (gathF c).1) ∧ w.heap.size < sm ∧ Ext w w' := by
 have H := Lib.hid h.lt
 have HZ := Lib.hid hz
 have hmm := @run_makeMap Tryz.prog
 have HV := fun W (x : Ext w W) => Lib.hid (varsP_any c.h hA hc W D hz.h (TmIn.ext x h.hd))
 have hnl := (vsT_len c.h []).1
 have hsz := (mayT_iff.1 hz.h).2.2
 simp only [List.length_nil] at hnl
 have hGT : Hid (∀ p, c.gs.foldl gathG (notesS 0 (vsT c.h []) [], 0) = p → gathF c = p) := Lib.hid (fun p hp => hp)
 have HB0 := (Blk.new w 34 (clC c hA hc gA gc)).alloc (.map #[] 0)
 have HX0 := (ext_box w (.cells (clC c hA hc gA gc) 34)).alloc (.map #[] 0)
 have HM0 := MapAt.new (Value.int .i64) (w.alloc (.cells (clC c hA hc gA gc) 34))
 rw [World.size_alloc] at HM0
 have hgl := hz.l
 clear h hz
 unfold tmVal at HV
 unfold clC at *
 go_enter Tryz.func81, Tryz.ntmps81
 go_upto_region 2 with fail
 clear hmm
 refine wp_abs (fun V => Hid (GatAt #[.int .i64 c.h.k, .int .i64 c.h.n, .string c.h.s, .slice hA c.h.l.length hc, .slice gA c.gs.length gc, .int .i64 c.vars] w (w.heap.size + 1) V [])) ⟨HB0, HM0, HX0, by omega⟩ ?_
 clear HB0 HM0 HX0
 rintro V HG0
 obtain ⟨sm, hsm⟩ : ∃ sm, sm = w.heap.size + 1 := ⟨_, rfl⟩
 rw [← hsm] at HG0 ⊢
 have HSM : Hid (w.heap.size < sm) := Lib.hid (by omega)
 clear hsm
 have x9 := HG0.out.bx.cell
 have HV1 := HV V HG0.out.ext
 clear HV
 go_upto_region 3 with (first
  | (go_at_call 122; refine HV1.out.mono ?_; rintro e W1 ⟨v1, rfl, o1, x1, f1⟩; obtain ⟨A1, c1, rfl⟩ := own_value o1; have G1 := Lib.hid (HG0.out.go x1); have HN1 := Lib.hid (pNote 0 (vsT c.h []) A1 c1 [] sm W1 G1.out.map (El.Src.of_own o1) (by omega)); clear o1 x1 f1)
  | (go_at_call 121; refine HN1.out.mono ?_; rintro e W2 ⟨rfl, m2, d2⟩; have G2 := Lib.hid (G1.out.note m2 d2); clear m2 d2))
 have y9 := G2.out.bx.cell
 clear x9 HG0 HV1 hnl hsz
 go_upto_region 5 with fail
 go_loopw [5, 18] (fun kv iv wr => ∃ (j k : Nat) (L : List Spn), j ≤ c.gs.length ∧ kv = .int .i64 k ∧ iv = .int .i64 j ∧ k ≤ j ∧ Hid ((c.gs.take j).foldl gathG (notesS 0 (vsT c.h []) [], 0) = (L, k)) ∧ Hid (GatAt #[.int .i64 c.h.k, .int .i64 c.h.n, .string c.h.s, .slice hA c.h.l.length hc, .slice gA c.gs.length gc, .int .i64 c.vars] w sm wr L)) (fun _ iv _ => c.gs.length - (intOf iv).toNat)
 case atStart => exact ⟨0, 0, _, Nat.zero_le _, rfl, rfl, Nat.le_refl _, Lib.hid rfl, G2⟩
 case round =>
  clear G2 y9
  obtain ⟨j, k, L, hj, rfl, rfl, hkj, HL, HG⟩ := hrel
  by_cases hlt : j < c.gs.length
  ·have ho : c.gs[j]? = some c.gs[j] := List.getElem?_eq_getElem hlt
   generalize c.gs[j] = g at ho
   obtain ⟨kg, t⟩ := g
   have HGT := Lib.hid ((gath_take _ ho).trans (congrArg (fun s => gathG s (kg, t)) HL.out))
   obtain ⟨bb, off, A', c', rfl, _, ht, q0, q1, q2, q3, q4⟩ := (H.out.gs.ext HG.out.ext).at_ j kg t ho
   have hmt := HZ.out.g j kg t ho
   have hvl := (vsT_len t []).1
   have hts := (mayT_iff.1 hmt).2.2
   simp only [List.length_nil] at hvl
   have HVT := fun W (x : TmIn (fun k => k < w.heap.size) W t A' c') => Lib.hid (varsP_any t A' c' W _ hmt x)
   unfold tmVal at HVT
   have HT := Lib.hid ht
   clear ho ht hmt HL
   go_upto_region 7 with fail
   refine wp_abs (fun W => Hid (Ext wr W) ∧ Hid (Blk W wr.heap.size 42 #[.int .i64 kg, .int .i64 t.k, .int .i64 t.n, .string t.s, .slice A' t.l.length c'])) ⟨ext_box _ _, Blk.new _ _ _⟩ ?_
   rintro W ⟨HE, HU⟩
   have GW := Lib.hid (HG.out.go HE.out)
   clear q0 q1 q2 q3 q4 HG
   replace HT := Lib.hid (TmIn.ext HE.out HT.out)
   have hbx : wr.heap.size < W.heap.size := HU.out.lt
   have hsb : Hid (wr.heap.size ≠ sm) := Lib.hid (fun e => by
    obtain ⟨es, cl, hb, _⟩ := GW.out.map
    have h2 := HU.out
    unfold Blk at h2
    rw [e, hb] at h2
    cases h2)
   generalize wr.heap.size = bx at *
   have u9 := HU.out.cell
   have u0 : W.cell? ⟨bx, 0, none⟩ = some (.int .i64 kg) := HU.out.cell 0
   by_cases h3 : kg = 3
   ·subst h3
    have HA := Lib.hid (pNote 0 [-1] (some ⟨W.heap.size, 0, none⟩) 1 L sm (W.alloc (.cells #[.int .i64 (-1)] 3)) (GW.out.go (ext_box _ _)).map (El.Src.new W #[.int .i64 (-1)] _ 1 1 rfl) (by simp))
    go_upto_region 10 with (go_at_call 121; refine HA.out.mono ?_; rintro e W2 ⟨rfl, m2, d2⟩; have G2 := Lib.hid ((GW.out.go (ext_box _ _)).note m2 d2); have HU2 := Lib.hid ((HU.out.ext (ext_box _ _)).mods d2 (by simp; exact hsb.out)); have HT2 := Lib.hid (TmIn.mods (D' := fun k => k < w.heap.size) d2 (fun k hk => by have := HSM.out; simp; omega) (fun _ h => h) (TmIn.ext (ext_box _ _) HT.out)); clear m2 d2)
    have HB := Lib.hid (pNote k [-1] (some ⟨W2.heap.size, 0, none⟩) 1 (notesS 0 [-1] L) sm (W2.alloc (.cells #[.int .i64 (-1)] 3)) (G2.out.go (ext_box _ _)).map (El.Src.new W2 #[.int .i64 (-1)] _ 1 1 rfl) (by simp))
    clear HA
    go_upto_region 11 with (go_at_call 121; refine HB.out.mono ?_; rintro e W3 ⟨rfl, m3, d3⟩; have G3 := Lib.hid ((G2.out.go (ext_box _ _)).note m3 d3); have HU3 := Lib.hid ((HU2.out.ext (ext_box _ _)).mods d3 (by simp; exact hsb.out)); have HT3 := Lib.hid (TmIn.mods (D' := fun k => k < w.heap.size) d3 (fun k hk => by have := HSM.out; simp; omega) (fun _ h => h) (TmIn.ext (ext_box _ _) HT2.out)); clear m3 d3)
    have k9 := HU3.out.cell
    clear HB
    have HC := HVT W3 HT3.out
    go_wp2_with (first
     | (go_at_call 122; refine HC.out.mono ?_; rintro e W5 ⟨v5, rfl, o5, x5, f5⟩; obtain ⟨A5, c5, rfl⟩ := own_value o5; have G5 := Lib.hid (G3.out.go x5); have HN5 := Lib.hid (pNote k (vsT t []) A5 c5 (notesS k [-1] (notesS 0 [-1] L)) sm W5 G5.out.map (El.Src.of_own o5) (by omega)); clear o5 x5 f5)
     | (go_at_call 121; refine HN5.out.mono ?_; rintro e W6 ⟨rfl, m6, d6⟩; have G6 := Lib.hid (G5.out.note m6 d6); clear m6 d6))
    go_roundw
    case rel => exact ⟨j + 1, k + 1, _, hlt, by go_num, by go_num, by omega, Lib.hid (HGT.out.trans (gathG3 L k t)), G6⟩
    case measure => simp [intOf]; omega
   ·have q3 : (kg == 3) = false := by simpa using h3
    by_cases h2 : kg = 2
    ·subst h2
     by_cases hk0 : k = 0
     ·subst hk0
      go_wp2_with fail
      go_roundw
      case rel => exact ⟨j + 1, 0, _, hlt, rfl, by go_num, by omega, Lib.hid (HGT.out.trans (gathG20 L t)), GW⟩
      case measure => simp [intOf]; omega
     ·have dk : decide ((k : Int) > 0) = true := decide_eq_true (by omega)
      have HA := Lib.hid (pNote 0 [-1] (some ⟨W.heap.size, 0, none⟩) 1 L sm (W.alloc (.cells #[.int .i64 (-1)] 3)) (GW.out.go (ext_box _ _)).map (El.Src.new W #[.int .i64 (-1)] _ 1 1 rfl) (by simp))
      go_upto_region 10 with (go_at_call 121; refine HA.out.mono ?_; rintro e W2 ⟨rfl, m2, d2⟩; have G2 := Lib.hid ((GW.out.go (ext_box _ _)).note m2 d2); have HU2 := Lib.hid ((HU.out.ext (ext_box _ _)).mods d2 (by simp; exact hsb.out)); have HT2 := Lib.hid (TmIn.mods (D' := fun k => k < w.heap.size) d2 (fun k hk => by have := HSM.out; simp; omega) (fun _ h => h) (TmIn.ext (ext_box _ _) HT.out)); clear m2 d2)
      have HB := Lib.hid (pNote k [-1] (some ⟨W2.heap.size, 0, none⟩) 1 (notesS 0 [-1] L) sm (W2.alloc (.cells #[.int .i64 (-1)] 3)) (G2.out.go (ext_box _ _)).map (El.Src.new W2 #[.int .i64 (-1)] _ 1 1 rfl) (by simp))
      clear HA
      go_upto_region 11 with (go_at_call 121; refine HB.out.mono ?_; rintro e W3 ⟨rfl, m3, d3⟩; have G3 := Lib.hid ((G2.out.go (ext_box _ _)).note m3 d3); have HU3 := Lib.hid ((HU2.out.ext (ext_box _ _)).mods d3 (by simp; exact hsb.out)); have HT3 := Lib.hid (TmIn.mods (D' := fun k => k < w.heap.size) d3 (fun k hk => by have := HSM.out; simp; omega) (fun _ h => h) (TmIn.ext (ext_box _ _) HT2.out)); clear m3 d3)
      have k9 := HU3.out.cell
      clear HB
      go_wp2_with fail
      go_roundw
      case rel => exact ⟨j + 1, k, _, hlt, rfl, by go_num, by omega, Lib.hid (HGT.out.trans (gathG2 L k t (by omega))), G3⟩
      case measure => simp [intOf]; omega
    ·have q2 : (kg == 2) = false := by simpa using h2
     have HC := HVT W HT.out
     go_wp2_with (first
      | (go_at_call 122; refine HC.out.mono ?_; rintro e W5 ⟨v5, rfl, o5, x5, f5⟩; obtain ⟨A5, c5, rfl⟩ := own_value o5; have G5 := Lib.hid (GW.out.go x5); have HN5 := Lib.hid (pNote k (vsT t []) A5 c5 L sm W5 G5.out.map (El.Src.of_own o5) (by omega)); clear o5 x5 f5)
      | (go_at_call 121; refine HN5.out.mono ?_; rintro e W6 ⟨rfl, m6, d6⟩; have G6 := Lib.hid (G5.out.note m6 d6); clear m6 d6))
     go_roundw
     case rel => exact ⟨j + 1, k + 1, _, hlt, by go_num, by go_num, by omega, Lib.hid (HGT.out.trans (gathGo L k kg t h3 h2)), G6⟩
     case measure => simp [intOf]; omega
  ·obtain rfl : j = c.gs.length := by omega
   rw [List.take_length] at HL
   have HR := Lib.hid (hGT.out _ HL.out)
   go_wp2_with fail
   go_ret2
   exact ⟨sm, by rw [HR.out]; rfl, by rw [HR.out]; exact HG.out.map, HSM.out, HG.out.ext⟩
end Go.Proofs.YtmnnhdegoapfcaaGreatDoor

/- 'for k, v := range m' over a map whose entries are written out: what is still to come, as a list. Over any program. -/
namespace Go.El
open Go.RowKit Go.MapKept
open Go.ChangeMaps (setBlock)
section
variable {α : Type}
theorem filter_other {l1 l2 : List MapEntry} {e : MapEntry} (h : ((l1 ++ e :: l2).map (·.born)).Nodup) : (l1 ++ e :: l2).filter (fun x => !(x.born == e.born)) = l1 ++ l2 := by
 rw [List.map_append, List.map_cons] at h
 obtain ⟨_, h2, h3⟩ := List.nodup_append.1 h
 obtain ⟨h4, _⟩ := List.nodup_cons.1 h2
 have f1 : l1.filter (fun x => !(x.born == e.born)) = l1 := List.filter_eq_self.2 fun x hx => by
  have := h3 x.born (List.mem_map.2 ⟨x, hx, rfl⟩) e.born (by simp)
  simpa using this
 have f2 : l2.filter (fun x => !(x.born == e.born)) = l2 := List.filter_eq_self.2 fun x hx => by
  have : x.born ≠ e.born := fun e1 => h4 (List.mem_map.2 ⟨x, hx, e1⟩)
  simpa using this
 rw [List.filter_append, List.filter_cons, f1, f2]
 simp
def MapIt (kv : α → Value) (w : World) (m r : Nat) (ps rest : List (α × Value)) : Prop :=
 ∃ es clock since seen c0, w.heap[m]? = some (.map es clock) ∧ Stamped es clock ∧ es.toList.map (fun e => (e.key, e.val)) = ps.map (fun p => (kv p.1, p.2)) ∧ w.heap[r]? = some (.mapIter (some m) since seen c0) ∧
  (∀ x ∈ es.toList, x.born < since) ∧ (leftOf es seen).toList.map (fun e => (e.key, e.val)) = rest.map (fun p => (kv p.1, p.2)) ∧ since ≤ c0 ∧ since ≤ clock
variable {kv : α → Value} {w w' : World} {m r : Nat} {ps rest : List (α × Value)} {P : Program}
theorem MapIt.ne (h : MapIt kv w m r ps rest) : m ≠ r := by
 obtain ⟨es, clock, since, seen, c0, hb, _, _, hr, _⟩ := h
 rintro rfl
 rw [hb] at hr
 cases hr
theorem MapIt.left_eq (h : MapIt kv w m r ps rest) : w.rangeLeft m r = rest.length := by
 obtain ⟨es, clock, since, seen, c0, hb, _, _, hr, _, hl, _⟩ := h
 have := congrArg List.length hl
 simp only [List.length_map, Array.length_toList] at this
 unfold World.rangeLeft
 rw [hb, hr]
 exact this
theorem MapIt.of_walks (h : MapIt kv w m r ps rest) (hk : KeepsWalks w w') : MapIt kv w' m r ps rest := by
 obtain ⟨es, clock, since, seen, c0, hb, h1, h2, hr, h3⟩ := h
 exact ⟨es, clock, since, seen, c0, hk.same m _ hb rfl, h1, h2, hk.same r _ hr rfl, h3⟩
theorem MapIt.iter_walk (h : MapIt kv w m r ps rest) : ∃ o : Obj, w.heap[r]? = some o ∧ o.isWalk = true := by
 obtain ⟨es, clock, since, seen, c0, _, _, _, hr, _⟩ := h
 exact ⟨_, hr, rfl⟩
theorem MapAt.run_range (h : MapAt kv w m ps) {t k e : TypeId} (ht : P.underlying t = some (.map k e)) :
  ∃ w', (Instr.range t (.map (some m))).run P w = .ok (.pointer (some ⟨w.heap.size, 0, none⟩)) w' ∧ MapIt kv w' m w.heap.size ps ps ∧ w.grownBy w' none ∧ w'.heap.size = w.heap.size + 1 := by
 have hlt := h.lt
 obtain ⟨es, clock, hb, hst, hps⟩ := h
 refine ⟨_, run_range_map w t k e m es clock ht hb, ⟨es, clock, clock, #[], clock, ((MapKept.heap_alloc w _).2 m hlt).trans hb, hst, hps, (MapKept.heap_alloc w _).1, hst.1, ?_, Nat.le_refl _, Nat.le_refl _⟩, World.grownBy_alloc w _ none, by simp⟩
 have : (leftOf es #[]).toList = es.toList := by
  unfold leftOf
  rw [Array.toList_filter]
  exact List.filter_eq_self.2 fun x _ => by simp
 rw [this]
 exact hps
theorem map_split {β γ δ : Type} {f : β → δ} {g : γ → δ} : ∀ {l1 : List β} {x : β} {l2 : List β} {rest : List γ}, (l1 ++ x :: l2).map f = rest.map g → ∃ r1 y r2, rest = r1 ++ y :: r2 ∧ f x = g y ∧ l1.map f = r1.map g ∧ l2.map f = r2.map g
 | [], x, l2, [], h => by simp at h
 | [], x, l2, y :: r, h => by
  simp only [List.nil_append, List.map_cons, List.cons.injEq] at h
  exact ⟨[], y, r, rfl, h.1, rfl, h.2⟩
 | a :: l1, x, l2, [], h => by simp at h
 | a :: l1, x, l2, y :: r, h => by
  simp only [List.cons_append, List.map_cons, List.cons.injEq] at h
  obtain ⟨r1, z, r2, e, h1, h2, h3⟩ := map_split h.2
  exact ⟨y :: r1, z, r2, by rw [e]; rfl, h1, by simp [h.1, h2], h3⟩
theorem MapIt.next (h : MapIt kv w m r ps rest) (ty : TypeId) :
  (rest = [] ∧ (Instr.next (.pointer (some ⟨r, 0, none⟩)) false ty).run P w = .ok (.tuple #[.bool false]) w) ∨
  ∃ r1 x r2 w', rest = r1 ++ x :: r2 ∧ (Instr.next (.pointer (some ⟨r, 0, none⟩)) false ty).run P w = .ok (.tuple #[.bool true, kv x.1, x.2]) w' ∧ MapIt kv w' m r ps (r1 ++ r2) ∧
   w.grownBy w' (some r) ∧ w'.heap.size = w.heap.size ∧ (Instr.entry (.pointer (some ⟨r, 0, none⟩))).run P w' = .ok (.tuple #[kv x.1, x.2]) w' := by
 have hne := h.ne
 obtain ⟨es, clock, since, seen, c0, hb, hst, hps, hr, hold, hl, hsc, hsk⟩ := h
 have hnd := ((stamped_iff es clock).1 hst).2.1
 rcases run_next_at (P := P) w ty r m since c0 seen es clock hr hb hold hsc with ⟨h0, hrun⟩ | ⟨e, he, w1, hal, hrun⟩
 ·refine .inl ⟨?_, hrun⟩
  have := congrArg List.length hl
  simp only [List.length_map, Array.length_toList, h0] at this
  exact List.eq_nil_of_length_eq_zero this.symm
 ·obtain ⟨hem, hes⟩ := mem_left he
  obtain ⟨l1, l2, hsp⟩ := List.append_of_mem he
  rw [hsp] at hl
  obtain ⟨r1, x, r2, hrest, hx, h1, h2⟩ := map_split hl
  injection hx with hk hv
  have hr1 : w1.heap[r]? = some (.mapIter (some m) since seen c0) := by rcases hal with rfl | rfl <;> exact hr
  have hb1 : w1.heap[m]? = some (.map es clock) := by rcases hal with rfl | rfl <;> exact hb
  have hset := heap_set (o' := .mapIter (some m) since (seen.push e.born) clock) hr1
  have hb' : (setBlock w1 r (.mapIter (some m) since (seen.push e.born) clock)).heap[m]? = some (.map es clock) := (hset.2 m (fun e1 => hne e1)).trans hb1
  have hleft : (leftOf es (seen.push e.born)).toList = l1 ++ l2 := by
   have hsub : (l1 ++ e :: l2).Sublist es.toList := by
    rw [← hsp]
    unfold leftOf
    rw [Array.toList_filter]
    exact List.filter_sublist
   rw [← filter_other ((hsub.map (·.born)).nodup hnd), ← hsp]
   unfold leftOf
   rw [Array.toList_filter, Array.toList_filter, List.filter_filter]
   refine List.filter_congr fun y _ => ?_
   rw [contains_push]
   cases seen.contains y.born <;> cases (y.born == e.born) <;> rfl
  refine .inr ⟨r1, x, r2, _, hrest, by rw [hrun, hk, hv], ⟨es, clock, since, seen.push e.born, clock, hb', hst, hps, hset.1, hold, ?_, hsk, hsk⟩, ?_, ?_, ?_⟩
  ·rw [hleft, List.map_append, List.map_append, h1, h2]
  ·rcases hal with rfl | rfl <;> exact ⟨rfl, rfl, rfl, by simp [setBlock], fun i _ hi => hset.2 i (fun e1 => hi (by rw [e1]))⟩
  ·rcases hal with rfl | rfl <;> simp [setBlock]
  ·rw [run_entry_at _ r m since seen es clock e hset.1 hb' hem hnd, hk, hv]
section
variable {F : Fence} {n : Nat} {ops : Array Oper} {rs : List Oper} {o : Oper} {a : Act} {Q : Exit → Act → World → Prop}
theorem wpListIn_range_at (w : World) (hg : o.guard = none) (mo : Operand) (t : TypeId) (hop : o.op = Op.range t mo) (k e : TypeId) (ht : P.underlying t = some (.map k e)) (hm : a.eval mo = .map (some m)) (hown : MapAt kv w m ps)
  (hK : ∀ w', MapIt kv w' m w.heap.size ps ps → w.grownBy w' none → w'.heap.size = w.heap.size + 1 → wpListIn F n P ops Q rs (a.put o.dst (.pointer (some ⟨w.heap.size, 0, none⟩))) w') :
  wpListIn F n P ops Q (o :: rs) a w := by
 refine wpListIn_plain hg fun K' hK' => ?_
 obtain ⟨w', hrun, r1, r2, r3⟩ := hown.run_range (P := P) ht
 unfold Oper.wpIn
 refine ⟨by simp [Oper.about, hop], ?_⟩
 rw [Oper.semAt_plain F _ _ (by rw [hop]; intro c hc'; cases hc')]
 simp [execOp, hop, hm, hrun, Result.andThen]
 exact hK' _ _ (hK w' r1 r2 r3)
theorem wpListIn_next_at (w : World) (hg : o.guard = none) (it : Operand) (hop : o.op = Op.next it false) (hit : a.eval it = .pointer (some ⟨r, 0, none⟩)) (h : MapIt kv w m r ps rest)
  (hDone : rest = [] → wpListIn F n P ops Q rs (a.put o.dst (.tuple #[.bool false])) w)
  (hMore : ∀ (r1 : List (α × Value)) (x : α × Value) (r2 : List (α × Value)) (w' : World), rest = r1 ++ x :: r2 → MapIt kv w' m r ps (r1 ++ r2) → w.grownBy w' (some r) → w'.heap.size = w.heap.size →
   (Instr.entry (.pointer (some ⟨r, 0, none⟩))).run P w' = .ok (.tuple #[kv x.1, x.2]) w' → wpListIn F n P ops Q rs (a.put o.dst (.tuple #[.bool true, kv x.1, x.2])) w') :
  wpListIn F n P ops Q (o :: rs) a w := by
 refine wpListIn_plain hg fun K' hK' => ?_
 unfold Oper.wpIn
 refine ⟨by simp [Oper.about, hop], ?_⟩
 rw [Oper.semAt_plain F _ _ (by rw [hop]; intro c hc'; cases hc')]
 rcases h.next (P := P) o.type with ⟨h0, hrun⟩ | ⟨r1, x, r2, w', hr, hrun, hit', hgr, hsz, hen⟩
 ·simp [execOp, hop, hit, hrun, Result.andThen]
  exact hK' _ _ (hDone h0)
 ·simp [execOp, hop, hit, hrun, Result.andThen]
  exact hK' _ _ (hMore r1 x r2 w' hr hit' hgr hsz hen)
end
end
end Go.El
