/- Layer 6, the program: the walks of measure, Check, may. -/
import Derived.Test.YtgcdhffeacdegaaGreatDoorC14
import Derived.Test.YtgcdhffeacdegaaGreatDoorC07
import Derived.Lib.AppendStr
import Derived.Lib.OwnKind
import Derived.Lib.Builder
import Derived.Lib.UnsafeStr
import Derived.Shelf.RegionOpenPlain
import Derived.Deep.RegionHeld3
namespace Go.El
open Go.RowKit
theorem TmIn.lt {D : Nat → Prop} {w : World} {t : Tm} {A : Option Addr} {c : Nat} (h : TmIn D w t A c) : TmIn (fun k => k < w.heap.size) w t A c := by
  induction h with
  | mk k n s l A cap ch hl hr hs hc ih =>
    refine .mk k n s l A cap ch hl ih (fun hne => ?_) hc
    obtain ⟨b, off, hA, hb, hcell⟩ := hs hne
    refine ⟨b, off, hA, ?_, hcell⟩
    have h0 : 0 < l.length := List.length_pos_iff.2 hne
    exact cell_lt (hcell 0 _ _ (List.getElem?_eq_getElem h0) (List.getElem?_eq_getElem (by omega))).1
mutual
theorem dpT_le : ∀ t : Tm, dpT t ≤ szT t
  | .mk _ _ _ l => by
    have := dpL_le l
    simp only [dpT, szT]
    omega
theorem dpL_le : ∀ l : List Tm, dpL l ≤ szL l
  | [] => Nat.le_refl _
  | t :: r => by
    have := dpT_le t
    have := dpL_le r
    simp only [dpL, szL]
    omega
end
end Go.El
namespace Go.Proofs.YtgcdhffeacdegaaGreatDoor
open Go.RowKit Go.El

set_option maxRecDepth 100000 in
set_option maxHeartbeats 2000000 in
theorem measure_any (t : Tm) (A : Option Addr) (c : Nat) (w : World) (D : Nat → Prop) (ht : TmIn D w t A c) (hsz : szT t ≤ 1000000000) :
    Calls Tryz.prog 69 #[tmVal t A c] w fun e w' => e = .returned (.agg (cntV (szT t) (dpT t) (!okT t))) ∧ Ext w w' := by
  have hd := dpT_le t
  have hdp := dpT_pos t
  have H := Lib.hid ht.lt
  have HC := fun W g hb hT hD => Lib.hid (countOf_any (szT t) t (Nat.le_refl _) A c W g (fun k => k < w.heap.size) 0 0 1 false hb hT hD (by omega) (by omega) (by omega) (by omega))
  unfold tmVal at HC ⊢
  generalize t.k = k at HC ⊢
  generalize t.n = n at HC ⊢
  generalize t.s = s at HC ⊢
  generalize t.l.length = m at HC ⊢
  clear ht
  go_enter Tryz.func69, Tryz.ntmps69
  go_upto_region 2 with fail
  refine wp_abs (fun V => Hid (Blk V (w.heap.size + 1 + 1) 112 (cntV 0 0 false)) ∧ Hid (Blk V (w.heap.size + 1) 112 (cntV 0 0 false)) ∧ Hid (Blk V w.heap.size 32 #[.int .i64 k, .int .i64 n, .string s, .slice A m c]) ∧ Hid (Ext w V)) ⟨?_, ?_, ((Blk.new w _ _).alloc _).alloc _, (((Ext.refl w).alloc _).alloc _).alloc _⟩ ?_
  · have := Blk.new ((w.alloc (.cells #[.int .i64 k, .int .i64 n, .string s, .slice A m c] 32)).alloc (.cells (cntV 0 0 false) 112)) 112 (cntV 0 0 false)
    rw [World.size_alloc, World.size_alloc] at this
    exact this
  · have := (Blk.new (w.alloc (.cells #[.int .i64 k, .int .i64 n, .string s, .slice A m c] 32)) 112 (cntV 0 0 false)).alloc (.cells (cntV 0 0 false) 112)
    rw [World.size_alloc] at this
    exact this
  rintro V ⟨HG, HZ, HX, HE⟩
  have x0 : V.cell? ⟨w.heap.size, 0, none⟩ = some (.int .i64 k) := HX.out.cell 0
  have x1 : V.cell? ⟨w.heap.size, 1, none⟩ = some (.int .i64 n) := HX.out.cell 1
  have x2 : V.cell? ⟨w.heap.size, 2, none⟩ = some (.string s) := HX.out.cell 2
  have x3 : V.cell? ⟨w.heap.size, 3, none⟩ = some (.slice A m c) := HX.out.cell 3
  go_upto_region 3 with (go_at_call 105; refine (HC V _ HG.out (H.out.ext HE.out) (fun k hk => by omega)).out.mono ?_; rintro e W3 ⟨rfl, h1, h2⟩; have HB := Lib.hid h1; have HM := Lib.hid h2; have HZ3 := Lib.hid (HZ.out.mods h2 (by simp)); clear h1 h2)
  generalize hP : (0 : Int) + (szT t : Int) = P0 at HB
  generalize hQ : max (0 : Int) (1 + (dpT t : Int) - 1) = Q0 at HB
  generalize hR : (false || !okT t) = R0 at HB
  have g0 : W3.cell? ⟨w.heap.size + 1 + 1, 0, none⟩ = some (.int .i64 P0) := HB.out.cell 0
  have g1 : W3.cell? ⟨w.heap.size + 1 + 1, 1, none⟩ = some (.int .i64 Q0) := HB.out.cell 1
  have g2 : W3.cell? ⟨w.heap.size + 1 + 1, 2, none⟩ = some (.bool R0) := HB.out.cell 2
  have z0 : W3.cell? ⟨w.heap.size + 1, 0, none⟩ = some (.int .i64 0) := HZ3.out.cell 0
  have z1 : W3.cell? ⟨w.heap.size + 1, 1, none⟩ = some (.int .i64 0) := HZ3.out.cell 1
  have z2 : W3.cell? ⟨w.heap.size + 1, 2, none⟩ = some (.bool false) := HZ3.out.cell 2
  have f0 := HZ3.out.frozen 0
  have f1 := HZ3.out.frozen 1
  have f2 := HZ3.out.frozen 2
  have hP2 : P0 = (szT t : Int) := by omega
  have hQ2 : Q0 = (dpT t : Int) := by omega
  have hR2 : R0 = !okT t := by rw [← hR]; rfl
  clear hP hQ hR
  have hbf := ((HZ3.out.set_ 0 (.int .i64 (szT t : Int))).set_ 1 (.int .i64 (dpT t : Int))).set_ 2 (.bool (!okT t))
  have hlt := HB.out.lt
  have hE3 : Ext w W3 := ext_mods HE.out HM.out (fun k hk => by simp at hk; omega)
  have hEF : Ext w (((W3.setCell ⟨w.heap.size + 1, 0, none⟩ (.int .i64 (szT t : Int))).setCell ⟨w.heap.size + 1, 1, none⟩ (.int .i64 (dpT t : Int))).setCell ⟨w.heap.size + 1, 2, none⟩ (.bool (!okT t))) := ((hE3.setCell (p := ⟨w.heap.size + 1, 0, none⟩) (by simp) _).setCell (p := ⟨w.heap.size + 1, 1, none⟩) (by simp) _).setCell (p := ⟨w.heap.size + 1, 2, none⟩) (by simp) _
  have HF := Lib.hid hEF
  have HBF := Lib.hid hbf
  clear hbf hE3 hEF hlt
  go_wp2_with fail
  generalize ((W3.setCell ⟨w.heap.size + 1, 0, none⟩ (.int .i64 (szT t : Int))).setCell ⟨w.heap.size + 1, 1, none⟩ (.int .i64 (dpT t : Int))).setCell ⟨w.heap.size + 1, 2, none⟩ (.bool (!okT t)) = V5 at HF HBF ⊢
  have r0 : V5.cell? ⟨w.heap.size + 1, 0, none⟩ = some (.int .i64 (szT t : Int)) := HBF.out.cell 0
  have r1 : V5.cell? ⟨w.heap.size + 1, 1, none⟩ = some (.int .i64 (dpT t : Int)) := HBF.out.cell 1
  have r2 : V5.cell? ⟨w.heap.size + 1, 2, none⟩ = some (.bool (!okT t)) := HBF.out.cell 2
  refine bodyPost_ret (v := .agg (cntV (szT t) (dpT t) (!okT t))) (by simp [results, Tryz.results69, go_sem, r0, r1, r2, cntV]) rfl ⟨rfl, HF.out⟩

set_option maxRecDepth 100000 in
set_option maxHeartbeats 2000000 in
theorem check_any (t : Tm) (A : Option Addr) (c : Nat) (w : World) (D : Nat → Prop) (ht : TmIn D w t A c) (hsz : szT t ≤ 1000000000) :
    Calls Tryz.prog 43 #[tmVal t A c] w fun e w' => e = .returned (.int .i64 (chkT t)) ∧ Ext w w' := by
  have HM := Lib.hid (measure_any t A c _ D (ht.ext (ext_box w (.cells #[.int .i64 t.k, .int .i64 t.n, .string t.s, .slice A t.l.length c] 32))) hsz)
  have HN := Lib.hid (show chkT t = (if okT t = false then 60 else if 200 < dpT t then 61 else if 4096 < szT t then 62 else 0) from rfl)
  generalize chkT t = r at HN ⊢
  unfold tmVal cntV at HM
  unfold tmVal
  generalize t.k = k at HM ⊢
  generalize t.n = n at HM ⊢
  generalize t.s = s at HM ⊢
  generalize t.l.length = m at HM ⊢
  generalize hok : okT t = ok at HM HN
  clear ht hok
  cases ok
  · rw [if_pos rfl] at HN
    simp only [Bool.not_false] at HM
    go_enter Tryz.func43, Tryz.ntmps43
    go_wp2_with (go_at_call 69; refine HM.out.mono ?_; rintro e W1 ⟨rfl, hx⟩; have HX := Lib.hid ((ext_box w _).trans hx); clear hx)
    go_ret
    exact ⟨by rw [HN.out]; rfl, HX.out.trans (ext_box _ _)⟩
  · rw [if_neg (by decide)] at HN
    simp only [Bool.not_true] at HM
    by_cases h1 : 200 < dpT t
    · rw [if_pos h1] at HN
      have q1 : 200 < (dpT t : Int) := by omega
      go_enter Tryz.func43, Tryz.ntmps43
      go_wp2_with (go_at_call 69; refine HM.out.mono ?_; rintro e W1 ⟨rfl, hx⟩; have HX := Lib.hid ((ext_box w _).trans hx); clear hx)
      go_ret
      exact ⟨by rw [HN.out]; rfl, HX.out.trans (ext_box _ _)⟩
    · rw [if_neg h1] at HN
      have q1 : ¬ 200 < (dpT t : Int) := by omega
      by_cases h2 : 4096 < szT t
      · rw [if_pos h2] at HN
        have q2 : 4096 < (szT t : Int) := by omega
        go_enter Tryz.func43, Tryz.ntmps43
        go_wp2_with (go_at_call 69; refine HM.out.mono ?_; rintro e W1 ⟨rfl, hx⟩; have HX := Lib.hid ((ext_box w _).trans hx); clear hx)
        go_ret
        exact ⟨by rw [HN.out]; rfl, HX.out.trans (ext_box _ _)⟩
      · rw [if_neg h2] at HN
        have q2 : ¬ 4096 < (szT t : Int) := by omega
        go_enter Tryz.func43, Tryz.ntmps43
        go_wp2_with (go_at_call 69; refine HM.out.mono ?_; rintro e W1 ⟨rfl, hx⟩; have HX := Lib.hid ((ext_box w _).trans hx); clear hx)
        go_ret
        exact ⟨by rw [HN.out]; rfl, HX.out.trans (ext_box _ _)⟩

end Go.Proofs.YtgcdhffeacdegaaGreatDoor

/- Rows of terms that a call gathers. -/
namespace Go.El
open Go.RowKit

/-- A term and where its arguments lie. -/
abbrev TmP := Tm × Option Addr × Nat
def tmC (p : TmP) : List Value := [.int .i64 p.1.k, .int .i64 p.1.n, .string p.1.s, .slice p.2.1 p.1.l.length p.2.2]
theorem tmC_len (p : TmP) : (tmC p).length = 4 := rfl
theorem tmC_one (p : TmP) : ∀ u ∈ tmC p, u.oneCell' = true := by
  intro u hu
  simp only [tmC, List.mem_cons, List.not_mem_nil, or_false] at hu
  rcases hu with rfl | rfl | rfl | rfl <;> rfl

end Go.El

/- Layer 6, the program: the walks of Var, build (of Var), Clone. -/
namespace Go.Proofs.YtgcdhffeacdegaaGreatDoor
open Go.RowKit Go.El

set_option maxRecDepth 100000 in
theorem var_any (n : Int) (w : World) :
    Calls Tryz.prog 124 #[.int .i64 n] w fun e w' => e = .returned (.agg #[.int .i64 1, .int .i64 n, .string ⟨#[]⟩, .slice none 0 0]) ∧ Ext w w' := by
  go_enter Tryz.func124, Tryz.ntmps124
  go_wp2_with fail
  have hE := (Ext.refl w).alloc (.cells #[.int .i64 1, .int .i64 n, .string ⟨#[]⟩, .slice none 0 0] 32)
  have hB := Blk.new w 32 #[.int .i64 1, .int .i64 n, .string ⟨#[]⟩, .slice none 0 0]
  generalize w.alloc (.cells #[.int .i64 1, .int .i64 n, .string ⟨#[]⟩, .slice none 0 0] 32) = V at hE hB ⊢
  have r0 : V.cell? ⟨w.heap.size, 0, none⟩ = some (.int .i64 1) := hB.cell 0
  have r1 : V.cell? ⟨w.heap.size, 1, none⟩ = some (.int .i64 n) := hB.cell 1
  have r2 : V.cell? ⟨w.heap.size, 2, none⟩ = some (.string ⟨#[]⟩) := hB.cell 2
  have r3 : V.cell? ⟨w.heap.size, 3, none⟩ = some (.slice none 0 0) := hB.cell 3
  refine bodyPost_ret (v := .agg #[.int .i64 1, .int .i64 n, .string ⟨#[]⟩, .slice none 0 0]) (by simp [results, Tryz.results124, go_sem, r0, r1, r2, r3]) rfl ⟨rfl, hE⟩

theorem tmInfo4 : (Tryz.prog.info? 32).map (fun i => (i.zero, i.size, i.bytes)) = some (some (.agg #[.int .i64 0, .int .i64 0, .string ⟨#[]⟩, .slice none 0 0]), 4, 56) := by kernel_rfl

end Go.Proofs.YtgcdhffeacdegaaGreatDoor

/- Layer 10, the program: the walks of name, begins, fail, variable. -/
namespace Go.Proofs.YtgcdhffeacdegaaGreatDoor
open Go.RowKit Go.El

set_option maxRecDepth 100000 in
set_option maxHeartbeats 4000000 in
theorem paName {f : PF} {w : World} {r : List TokV} {nv : Value} {ns : List ByteArray} {bad : Bool} (h : PaAt f w r nv ns bad) {t : TokV} {q : List TokV} (e : r = t :: q) (hk : t.kind = 1) :
    Calls Tryz.prog 170 #[.pointer (some ⟨f.pb, 0, none⟩)] w fun e w' => e = .returned (.bool (!(findO t.s f.I).isSome || (findO t.s f.Q).isSome || opensB q)) ∧ PaAt f w' r nv ns bad ∧ PStep f.S nv w nv w' := by
  have HN := fun W (x : Ext w W) => Lib.hid (paNext (h.ext x) e)
  have HF := fun W (x : Ext w W) => Lib.hid ((h.ext x).inf t.s)
  have HP := fun W (x : Ext w W) => Lib.hid ((h.ext x).pre t.s)
  have H := Lib.hid h
  have hp : f.pb < w.heap.size := h.blk.lt
  have F1 := tokF1 t.kind t.n t.at_ t.s t.lay
  have c2 := h.cells.c2
  unfold tokA at HN
  unfold opR opA at HF HP
  obtain ⟨u, p, hq⟩ := h.toks.more h.suf e (by omega)
  have hsq := suf_tail h.suf e
  have hpl := plI_tail h.suf e
  have hkL := plI_lt h.suf h.nil
  have hLL := h.toks.len
  have HL : Hid (ns.length + q.length ≤ f.L.length) := Lib.hid (by have := h.nl; rw [e] at this; simp at this; omega)
  have HL2 := Lib.hid h.nl
  have HT := Lib.hid hpl
  have HR := Lib.hid e
  have hqn : q ≠ [] := by rw [hq]; simp
  have hrn := h.nil
  have hsr := h.suf
  generalize (findO t.s f.I).getD zeroO = o1 at *
  generalize (findO t.s f.Q).getD zeroO = o2 at *
  clear h e hpl hq hk
  cases hin : (findO t.s f.I).isSome
  · rw [hin] at HF
    generalize (findO t.s f.Q).isSome = b2 at *
    clear hin
    go_enter Tryz.func170, Tryz.ntmps170
    go_upto_region 2 with (go_at_call 42; refine (HN _ (Ext.refl _)).out.mono ?_; rintro e W1 ⟨rfl, hx⟩; have X1 := Lib.hid hx; have d2 := hx.cell c2; clear hx)
    go_upto_region 3 with (go_at_call 101; refine (HF _ X1.out).out.mono ?_; rintro e W2 ⟨rfl, hx⟩; have X2 := Lib.hid ((X1.out.trans hx).alloc (.cells #[.int .i64 o1.p, .int .i64 o1.t, .string o1.s] 70)); have e2 := (hx.alloc (.cells #[.int .i64 o1.p, .int .i64 o1.t, .string o1.s] 70)).cell d2; clear hx)
    generalize W2.alloc (.cells #[.int .i64 o1.p, .int .i64 o1.t, .string o1.s] 70) = W3 at *
    go_wp2_with (go_at_call 144; refine (HP _ X2.out).out.mono ?_; rintro e W4 ⟨rfl, hx⟩; have X4 := Lib.hid ((X2.out.trans hx).alloc (.cells #[.int .i64 o2.p, .int .i64 o2.t, .string o2.s] 70)); clear hx)
    go_ret
    exact ⟨rfl, H.out.ext X4.out, PStep.ext X4.out⟩
  · rw [hin] at HF
    cases hpr : (findO t.s f.Q).isSome
    · rw [hpr] at HP
      have hbe : (!true || false || opensB q) = opensB q := by simp
      rw [hbe]
      obtain ⟨ob, hob⟩ : ∃ ob, opensB q = ob := ⟨_, rfl⟩
      rw [hob]
      have HOB := Lib.hid hob
      clear hin hpr hbe hob
      go_enter Tryz.func170, Tryz.ntmps170
      go_upto_region 2 with (go_at_call 42; refine (HN _ (Ext.refl _)).out.mono ?_; rintro e W1 ⟨rfl, hx⟩; have X1 := Lib.hid hx; have d2 := hx.cell c2; clear hx)
      go_upto_region 3 with (go_at_call 101; refine (HF _ X1.out).out.mono ?_; rintro e W2 ⟨rfl, hx⟩; have X2 := Lib.hid ((X1.out.trans hx).alloc (.cells #[.int .i64 o1.p, .int .i64 o1.t, .string o1.s] 70)); have e2 := (hx.alloc (.cells #[.int .i64 o1.p, .int .i64 o1.t, .string o1.s] 70)).cell d2; clear hx)
      generalize W2.alloc (.cells #[.int .i64 o1.p, .int .i64 o1.t, .string o1.s] 70) = W3 at *
      go_upto_region 6 with (go_at_call 144; refine (HP _ X2.out).out.mono ?_; rintro e W4 ⟨rfl, hx⟩; have X4 := Lib.hid ((X2.out.trans hx).alloc (.cells #[.int .i64 o2.p, .int .i64 o2.t, .string o2.s] 70)); clear hx)
      generalize W4.alloc (.cells #[.int .i64 o2.p, .int .i64 o2.t, .string o2.s] 70) = W5 at *
      have H5 := Lib.hid (H.out.ext X4.out)
      have s1 := H5.out.setI hsq hqn HL.out ((plI f.L r : Int) + 1) (by rw [HT.out]; omega)
      have H6 := Lib.hid s1.1
      have S6 := Lib.hid ((PStep.ext X4.out).trans s1.2)
      have c1 := H5.out.cells.c1
      have f1 := H5.out.blk.frozen 1
      generalize hkk : plI f.L r = k at *
      have HKK := Lib.hid hkk
      clear s1 hkk
      go_upto_region 7 with fail
      generalize W5.setCell ⟨f.pb, 1, none⟩ (.int .i64 ((k : Int) + 1)) = W6 at *
      have hO := paOpens H6.out
      rw [HOB.out] at hO
      have HO := Lib.hid hO
      clear c1 f1 c2 H5 HN HF HP hO
      go_upto_region 8 with (go_at_call 140; refine HO.out.mono ?_; rintro e W7 ⟨rfl, hx⟩; have H7 := Lib.hid (H6.out.ext hx); have S7 := Lib.hid (S6.out.trans (PStep.ext hx)); clear hx)
      have c1 : W7.cell? ⟨f.pb, 1, none⟩ = some (.int .i64 ((k : Int) + 1)) := by rw [H7.out.cells.c1, HT.out]; simp
      have f1 := H7.out.blk.frozen 1
      go_wp2_with fail
      go_ret
      have s8 := H7.out.setI hsr hrn HL2.out (k : Int) (by rw [HKK.out])
      exact ⟨rfl, s8.1, S7.out.trans s8.2⟩
    · rw [hpr] at HP
      clear hin hpr
      go_enter Tryz.func170, Tryz.ntmps170
      go_upto_region 2 with (go_at_call 42; refine (HN _ (Ext.refl _)).out.mono ?_; rintro e W1 ⟨rfl, hx⟩; have X1 := Lib.hid hx; have d2 := hx.cell c2; clear hx)
      go_upto_region 3 with (go_at_call 101; refine (HF _ X1.out).out.mono ?_; rintro e W2 ⟨rfl, hx⟩; have X2 := Lib.hid ((X1.out.trans hx).alloc (.cells #[.int .i64 o1.p, .int .i64 o1.t, .string o1.s] 70)); have e2 := (hx.alloc (.cells #[.int .i64 o1.p, .int .i64 o1.t, .string o1.s] 70)).cell d2; clear hx)
      generalize W2.alloc (.cells #[.int .i64 o1.p, .int .i64 o1.t, .string o1.s] 70) = W3 at *
      go_wp2_with (go_at_call 144; refine (HP _ X2.out).out.mono ?_; rintro e W4 ⟨rfl, hx⟩; have X4 := Lib.hid ((X2.out.trans hx).alloc (.cells #[.int .i64 o2.p, .int .i64 o2.t, .string o2.s] 70)); clear hx)
      go_ret
      exact ⟨rfl, H.out.ext X4.out, PStep.ext X4.out⟩
end Go.Proofs.YtgcdhffeacdegaaGreatDoor

/- Layer 10, the program: the walks of begins, fail. -/
namespace Go.Proofs.YtgcdhffeacdegaaGreatDoor
open Go.RowKit Go.El

theorem tok_kind {t : TokV} (h : tokOk t = true) : t.kind = 1 ∨ t.kind = 2 ∨ t.kind = 3 ∨ t.kind = 4 ∨ t.kind = 5 ∨ t.kind = 6 := by
  unfold tokOk at h
  simp only [Bool.and_eq_true, Bool.or_eq_true, decide_eq_true_eq] at h
  have := h.1.1.1
  rcases this with ((((h | h) | h) | h) | h) | h
  · exact .inl h
  · exact .inr (.inl h)
  · exact .inr (.inr (.inl h))
  · exact .inr (.inr (.inr (.inl h)))
  · exact .inr (.inr (.inr (.inr (.inl h.1))))
  · exact .inr (.inr (.inr (.inr (.inr h))))
/-- What begins answers. -/
def BegPost (f : PF) (w : World) (r : List TokV) (nv : Value) (ns : List ByteArray) (bad : Bool) (b : Bool) (e : Ending) (w' : World) : Prop := e = .returned (.bool b) ∧ PaAt f w' r nv ns bad ∧ PStep f.S nv w nv w'

set_option maxRecDepth 100000 in
set_option maxHeartbeats 4000000 in
theorem paBegins {f : PF} {w : World} {r : List TokV} {nv : Value} {ns : List ByteArray} {bad : Bool} (h : PaAt f w r nv ns bad) :
    Calls Tryz.prog 145 #[.pointer (some ⟨f.pb, 0, none⟩)] w (BegPost f w r nv ns bad (beginsB f.O r)) := by
  obtain ⟨t, q, e⟩ := ToksOk.ne h.suf h.nil
  have hk := tok_kind (h.toks.head h.suf e)
  have HN := fun W (x : Ext w W) => Lib.hid (paNext (h.ext x) e)
  have F0 := tokF0 t.kind t.n t.at_ t.s t.lay
  unfold tokA at HN
  have H := Lib.hid h
  obtain ⟨bb, hbb⟩ : ∃ bb, beginsB f.O r = bb := ⟨_, rfl⟩
  rw [hbb]
  have hbd := hbb
  rw [e] at hbd
  simp only [beginsB] at hbd
  by_cases hk1 : t.kind = 2 ∨ t.kind = 3 ∨ t.kind = 4
  · rw [if_pos hk1] at hbd
    subst hbd
    rcases hk1 with k | k | k
    all_goals
      rw [k] at HN F0
      clear h e hk k hbb
      go_enter Tryz.func145, Tryz.ntmps145
      go_wp2_with (go_at_call 42; refine (HN _ (Ext.refl _)).out.mono ?_; rintro e W1 ⟨rfl, hx⟩; have X1 := Lib.hid hx; clear hx)
      go_ret
      exact ⟨rfl, H.out.ext X1.out, PStep.ext X1.out⟩
  · rw [if_neg hk1] at hbd
    by_cases hk5 : t.kind = 5
    · rw [if_pos hk5] at hbd
      have HI40 := fun W (x : Ext w W) => Lib.hid (paIs ⟨#[40]⟩ (h.ext x))
      have HI91 := fun W (x : Ext w W) => Lib.hid (paIs ⟨#[91]⟩ (h.ext x))
      have HI123 := fun W (x : Ext w W) => Lib.hid (paIs ⟨#[123]⟩ (h.ext x))
      simp only [isPs_lit] at HI40 HI91 HI123
      rw [← e] at hbd
      rw [hk5] at HN F0
      clear h e hk hk1 hk5 hbb
      cases h40 : isPu r 40
      · rw [h40] at HI40 hbd
        cases h91 : isPu r 91
        · rw [h91] at HI91 hbd
          simp only [Bool.false_or] at hbd
          rw [hbd] at HI123
          clear h40 h91 hbd
          go_enter Tryz.func145, Tryz.ntmps145
          go_wp2_with (first | (go_at_call 42; refine (HN _ (Ext.refl _)).out.mono ?_; rintro e W1 ⟨rfl, hx⟩; have X1 := Lib.hid hx; clear hx) | (go_at_call 100; (with_reducible refine (HI40 _ X1.out).out.mono ?_); rintro e W2 ⟨rfl, hx⟩; have X2 := Lib.hid (X1.out.trans hx); clear hx) | (go_at_call 100; (with_reducible refine (HI91 _ X2.out).out.mono ?_); rintro e W3 ⟨rfl, hx⟩; have X3 := Lib.hid (X2.out.trans hx); clear hx) | (go_at_call 100; (with_reducible refine (HI123 _ X3.out).out.mono ?_); rintro e W4 ⟨rfl, hx⟩; have X4 := Lib.hid (X3.out.trans hx); clear hx))
          go_ret
          exact ⟨rfl, H.out.ext X4.out, PStep.ext X4.out⟩
        · rw [h91] at HI91 hbd
          simp only [Bool.false_or, Bool.true_or] at hbd
          subst hbd
          clear h40 h91 HI123
          go_enter Tryz.func145, Tryz.ntmps145
          go_wp2_with (first | (go_at_call 42; refine (HN _ (Ext.refl _)).out.mono ?_; rintro e W1 ⟨rfl, hx⟩; have X1 := Lib.hid hx; clear hx) | (go_at_call 100; (with_reducible refine (HI40 _ X1.out).out.mono ?_); rintro e W2 ⟨rfl, hx⟩; have X2 := Lib.hid (X1.out.trans hx); clear hx) | (go_at_call 100; (with_reducible refine (HI91 _ X2.out).out.mono ?_); rintro e W3 ⟨rfl, hx⟩; have X3 := Lib.hid (X2.out.trans hx); clear hx))
          go_ret
          exact ⟨rfl, H.out.ext X3.out, PStep.ext X3.out⟩
      · rw [h40] at HI40 hbd
        simp only [Bool.true_or] at hbd
        subst hbd
        clear h40 HI91 HI123
        go_enter Tryz.func145, Tryz.ntmps145
        go_wp2_with (first | (go_at_call 42; refine (HN _ (Ext.refl _)).out.mono ?_; rintro e W1 ⟨rfl, hx⟩; have X1 := Lib.hid hx; clear hx) | (go_at_call 100; (with_reducible refine (HI40 _ X1.out).out.mono ?_); rintro e W2 ⟨rfl, hx⟩; have X2 := Lib.hid (X1.out.trans hx); clear hx))
        go_ret
        exact ⟨rfl, H.out.ext X2.out, PStep.ext X2.out⟩
    · rw [if_neg hk5] at hbd
      by_cases hk6 : t.kind = 1
      · rw [if_pos hk6] at hbd
        have hbe : (!(findO t.s f.I).isSome || (findO t.s f.Q).isSome || opensB q) = bb := hbd
        have HM := fun W (x : Ext w W) => Lib.hid (paName (h.ext x) e hk6)
        rw [hbe] at HM
        rw [hk6] at HN F0
        clear h e hk hk1 hk5 hbb hbd hbe hk6
        go_enter Tryz.func145, Tryz.ntmps145
        go_wp2_with (first | (go_at_call 42; refine (HN _ (Ext.refl _)).out.mono ?_; rintro e W1 ⟨rfl, hx⟩; have X1 := Lib.hid hx; clear hx) | (go_at_call 170; refine (HM _ X1.out).out.mono ?_; rintro e W2 ⟨rfl, h2, s2⟩; have H2 := Lib.hid h2; have S2 := Lib.hid ((PStep.ext X1.out).trans s2); clear h2 s2))
        go_ret
        exact ⟨rfl, H2.out, S2.out⟩
      · rw [if_neg hk6] at hbd
        subst hbd
        have k6 : t.kind = 6 := by omega
        rw [k6] at HN F0
        clear h e hk hk1 hk5 hbb hk6 k6
        go_enter Tryz.func145, Tryz.ntmps145
        go_wp2_with (go_at_call 42; refine (HN _ (Ext.refl _)).out.mono ?_; rintro e W1 ⟨rfl, hx⟩; have X1 := Lib.hid hx; clear hx)
        go_ret
        exact ⟨rfl, H.out.ext X1.out, PStep.ext X1.out⟩

/-- The blocks of a parser lie below B. -/
def PF.old (f : PF) (B : Nat) : Prop := f.pb < B ∧ f.mb < B ∧ f.tb < B ∧ 0 < B ∧ ∀ a, f.A = some a → a.block < B
theorem PaAt.old {f : PF} {w : World} {r : List TokV} {nv : Value} {ns : List ByteArray} {bad : Bool} (h : PaAt f w r nv ns bad) : f.old w.heap.size := by
  obtain ⟨m1, m2, _, c1, _⟩ := h.ops
  obtain ⟨ps, hm, _⟩ := h.map
  exact ⟨h.blk.lt, hm.lt, c1.2.2, h.typc.2.2, fun a ha => (h.ca a ha).2.2⟩
theorem PF.old.mono {f : PF} {B C : Nat} (h : f.old B) (hc : B ≤ C) : f.old C := by
  obtain ⟨h1, h2, h3, h4, h5⟩ := h
  exact ⟨by omega, by omega, by omega, by omega, fun a ha => by have := h5 a ha; omega⟩
/-- A block of the call's own is written. -/
theorem PaAt.far {f : PF} {B : Nat} {W : World} {r : List TokV} {nv : Value} {ns : List ByteArray} {bad : Bool} (h : PaAt f W r nv ns bad) (ho : f.old B) {z : Nat} (hz : B ≤ z) {T : TypeId} {cs : Array Value} (hb : Blk W z T cs) (hT : T ≠ 9) (i : Nat) (u : Value) :
    PaAt f (W.setCell ⟨z, i, none⟩ u) r nv ns bad := by
  obtain ⟨h1, h2, h3, h4, h5⟩ := ho
  obtain ⟨m1, m2, ht, c1, c2, c3⟩ := h.ops
  have hm := (Mods.refl [z] W).setCell (p := ⟨z, i, none⟩) (.inl (by simp)) u
  have hnz : nv.ownBlock ≠ some z := fun e => own_heap h.own hb (.inl hT) (by simp [ownL, e])
  have hsz : ∀ k, Clr2 f.S nv W k → Clr2 f.S nv (W.setCell ⟨z, i, none⟩ u) k := fun k hk => ⟨hk.1, hk.2.1, by have := hk.2.2; simpa using this⟩
  obtain ⟨es1, k1, hm1, _⟩ := id ht.mi
  obtain ⟨es2, k2, hm2, _⟩ := id ht.mq
  have hm1z : m1 ≠ z := fun e => by
    rw [e, hb] at hm1
    cases hm1
  have hm2z : m2 ≠ z := fun e => by
    rw [e, hb] at hm2
    cases hm2
  exact ⟨h.blk.far (p := ⟨z, i, none⟩) (by simp; omega) u, ownsRow_setCell_other h.own hnz u, h.map.imp fun _ k => ⟨map_set k.1 _, k.2⟩,
    h.tok.mods hm (fun a ha => by have := h5 a ha; simp; omega), h.toks, h.suf, h.nil, ⟨m1, m2, ht.mods hm (by simp; omega) (by simp [hm1z]) (by simp [hm2z]), hsz _ c1, hsz _ c2, hsz _ c3⟩, h.bnd,
    h.typ.mods hm (by simp; omega), hsz _ h.typc, fun a ha => hsz _ (h.ca a ha), h.pm, h.np, h.nm, h.nl, h.cp⟩
theorem pstep_far {S : List Nat} {nv nv' : Value} {w W : World} (s : PStep S nv w nv' W) {z : Nat} (hz : w.heap.size ≤ z) (i : Nat) (u : Value) : PStep S nv w nv' (W.setCell ⟨z, i, none⟩ u) :=
  ⟨s.mods.setCell (p := ⟨z, i, none⟩) (.inr hz) u, s.own⟩
/-- The blocks of what was made since w. -/
def NewT (S : List Nat) (nv : Value) (w W : World) (k : Nat) : Prop := w.heap.size ≤ k ∧ Clr2 S nv W k
theorem NewT.step {S : List Nat} {nv nv' : Value} {w W W' : World} (s : PStep S nv W nv' W') {k : Nat} (h : NewT S nv w W k) : NewT S nv' w W' k := ⟨h.1, s.clr h.2⟩
theorem pstep_tmN {S : List Nat} {nv nv' : Value} {w W W' : World} (s : PStep S nv W nv' W') {t : Tm} {A : Option Addr} {c : Nat} (ht : TmIn (NewT S nv w W) W t A c) : TmIn (NewT S nv' w W') W' t A c :=
  TmIn.mods s.mods (fun _ hk => hk.2.no) (fun _ hk => hk.step s) ht
theorem tmN_far {S : List Nat} {nv : Value} {w W : World} {t : Tm} {A : Option Addr} {c : Nat} (ht : TmIn (NewT S nv w W) W t A c) {z : Nat} (hz : z < w.heap.size) (i : Nat) (u : Value) : TmIn (NewT S nv w (W.setCell ⟨z, i, none⟩ u)) (W.setCell ⟨z, i, none⟩ u) t A c :=
  TmIn.mods (S := [z]) ((Mods.refl [z] W).setCell (p := ⟨z, i, none⟩) (.inl (by simp)) u) (fun k hk => by have := hk.1; simp; omega) (fun k hk => ⟨hk.1, hk.2.1, hk.2.2.1, by have := hk.2.2.2; simpa using this⟩) ht
theorem tmN_wide {S : List Nat} {nv : Value} {w w1 W : World} {t : Tm} {A : Option Addr} {c : Nat} (ht : TmIn (NewT S nv w1 W) W t A c) (h : w.heap.size ≤ w1.heap.size) : TmIn (NewT S nv w W) W t A c := ht.mono (fun _ hk => ⟨Nat.le_trans h hk.1, hk.2⟩)

/-- The four cells of a result that is a term. -/
def set4 (W : World) (z : Nat) (a b c d : Value) : World := (((W.setCell ⟨z, 0, none⟩ a).setCell ⟨z, 1, none⟩ b).setCell ⟨z, 2, none⟩ c).setCell ⟨z, 3, none⟩ d
theorem set4_eq (W : World) (z : Nat) (a b c d : Value) : (((W.setCell ⟨z, 0, none⟩ a).setCell ⟨z, 1, none⟩ b).setCell ⟨z, 2, none⟩ c).setCell ⟨z, 3, none⟩ d = set4 W z a b c d := rfl
theorem PaAt.set4 {f : PF} {B : Nat} {W : World} {r : List TokV} {nv : Value} {ns : List ByteArray} {bad : Bool} (h : PaAt f W r nv ns bad) (ho : f.old B) {z : Nat} (hz : B ≤ z) {a' b' c' d' : Value} (hb : Blk W z 32 #[a', b', c', d']) (a b c d : Value) :
    PaAt f (Go.Proofs.YtgcdhffeacdegaaGreatDoor.set4 W z a b c d) r nv ns bad := by
  have hT : 32 ≠ 9 := by decide
  have h0 := h.far ho hz hb hT 0 a
  have b0 := hb.set_ 0 a
  have h1 := h0.far ho hz b0 hT 1 b
  have b1 := b0.set_ 1 b
  have h2 := h1.far ho hz b1 hT 2 c
  have b2 := b1.set_ 2 c
  exact h2.far ho hz b2 hT 3 d
theorem pstep_set4 {S : List Nat} {nv nv' : Value} {w W : World} (s : PStep S nv w nv' W) {z : Nat} (hz : w.heap.size ≤ z) (a b c d : Value) : PStep S nv w nv' (Go.Proofs.YtgcdhffeacdegaaGreatDoor.set4 W z a b c d) :=
  pstep_far (pstep_far (pstep_far (pstep_far s hz 0 a) hz 1 b) hz 2 c) hz 3 d
theorem tmN_set4 {S : List Nat} {nv : Value} {w W : World} {t : Tm} {A : Option Addr} {c0 : Nat} (ht : TmIn (NewT S nv w W) W t A c0) {z : Nat} (hz : z < w.heap.size) (a b c d : Value) : TmIn (NewT S nv w (set4 W z a b c d)) (set4 W z a b c d) t A c0 :=
  tmN_far (tmN_far (tmN_far (tmN_far ht hz 0 a) hz 1 b) hz 2 c) hz 3 d
theorem blk_s4 {W : World} {z : Nat} {T : TypeId} {a' b' c' d' : Value} (hb : Blk W z T #[a', b', c', d']) (a b c d : Value) : Blk (set4 W z a b c d) z T #[a, b, c, d] := blk_set4 hb a b c d

def tmZ : Value := .agg #[.int .i64 0, .int .i64 0, .string ⟨#[]⟩, .slice none 0 0]
set_option maxRecDepth 100000 in
set_option maxHeartbeats 4000000 in
theorem paFail {f : PF} {w : World} {r : List TokV} {nv : Value} {ns : List ByteArray} {bad : Bool} (h : PaAt f w r nv ns bad) :
    Calls Tryz.prog 94 #[.pointer (some ⟨f.pb, 0, none⟩)] w fun e w' => e = .returned (.tuple #[tmZ, .int .i64 0]) ∧ PaAt f w' r nv ns true ∧ PStep f.S nv w nv w' := by
  have hp : f.pb < w.heap.size := h.blk.lt
  have HO := Lib.hid h.old
  have s1 := h.setB true
  have hx := ext_box4 (w.setCell ⟨f.pb, 5, none⟩ (.bool true)) (.cells #[.int .i64 0, .int .i64 0, .string ⟨#[]⟩, .slice none 0 0] 32)
  have H1 := Lib.hid (s1.1.ext hx)
  have S1 := Lib.hid (s1.2.trans (PStep.ext hx))
  have hz := Blk.new (w.setCell ⟨f.pb, 5, none⟩ (.bool true)) 32 #[.int .i64 0, .int .i64 0, .string ⟨#[]⟩, .slice none 0 0]
  rw [World.size_setCell] at hz
  have HZ1 := Lib.hid hz
  have c5 := h.cells.c5
  have f5 := h.blk.frozen 5
  clear h hx s1 hz
  go_enter Tryz.func94, Tryz.ntmps94
  go_upto_region 2 with fail
  generalize (w.setCell ⟨f.pb, 5, none⟩ (.bool true)).alloc (.cells #[.int .i64 0, .int .i64 0, .string ⟨#[]⟩, .slice none 0 0] 32) = W1 at *
  clear c5 f5
  have zc := HZ1.out.cell
  have zf := HZ1.out.frozen
  go_wp2_with fail
  have kb := blk_set4 HZ1.out (.int .i64 0) (.int .i64 0) (.string ⟨#[]⟩) (.slice none 0 0)
  have kc := kb.cell
  have h4 := H1.out.set4 HO.out (Nat.le_refl _) HZ1.out (.int .i64 0) (.int .i64 0) (.string ⟨#[]⟩) (.slice none 0 0)
  have s4 := pstep_set4 S1.out (Nat.le_refl _) (.int .i64 0) (.int .i64 0) (.string ⟨#[]⟩) (.slice none 0 0)
  refine bodyPost_ret (v := .tuple #[tmZ, .int .i64 0]) ?_ rfl ⟨rfl, h4, s4⟩
  simp [results, Tryz.results94, go_sem, tmZ, kc]
end Go.Proofs.YtgcdhffeacdegaaGreatDoor
