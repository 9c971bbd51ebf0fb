/- Layer 15, the program: the walk of Of, whole. -/
import Derived.Test.YtmnnhdegoapfcaaGreatDoorP34
namespace Go.El
open Go.RowKit
theorem noteS_len (k n : Int) : ∀ L : List Spn, (noteS k n L).length ≤ L.length + 1
 | [] => by simp [noteS]
 | x :: L => by
  have := noteS_len k n L
  simp only [noteS]
  split
  ·simp
  ·simp only [List.length_cons]; omega
theorem notesS_len (k : Int) : ∀ (ns : List Int) (L : List Spn), (notesS k ns L).length ≤ L.length + ns.length
 | [], L => by simp [notesS]
 | n :: ns, L => by
  have h1 := notesS_len k ns (noteS k n L)
  have h2 := noteS_len k n L
  simp only [notesS, List.foldl_cons, List.length_cons] at h1 ⊢
  omega
theorem gath_len : ∀ (gs : List (Int × Tm)) (s : List Spn × Nat), (∀ g ∈ gs, mayT g.2 = true) → (gs.foldl gathG s).1.length ≤ s.1.length + gs.length * 4098
 | [], s, _ => by simp
 | g :: gs, s, h => by
  have h1 := gath_len gs (gathG s g) (fun x hx => h x (List.mem_cons_of_mem _ hx))
  have hm := (mayT_iff.1 (h g (by simp))).2.2
  have hv := (vsT_len g.2 []).1
  simp only [List.length_nil] at hv
  have h0 : (if g.1 = 3 ∨ (g.1 = 2 ∧ 0 < s.2) then noteS s.2 (-1) (noteS 0 (-1) s.1) else s.1).length ≤ s.1.length + 2 := by
   split
   ·have a := noteS_len s.2 (-1) (noteS 0 (-1) s.1)
    have b := noteS_len 0 (-1) s.1
    omega
   ·omega
  have h2 : (gathG s g).1.length ≤ s.1.length + 4098 := by
   unfold gathG
   simp only
   split
   ·exact Nat.le_trans h0 (by omega)
   ·refine Nat.le_trans (notesS_len _ _ _) ?_
    omega
  simp only [List.foldl_cons, List.length_cons]
  omega
theorem may_parts {c : Cls} (h : mayC c = 0) : mayT c.h = true ∧ (∀ g ∈ c.gs, mayT g.2 = true) ∧ c.gs.length ≤ 64 := by
 unfold mayC at h
 split at h
 ·next h1 => exact absurd h h1
 ·next h1 =>
  have h1 : fstNo (chkT c.h :: c.gs.map fun g => chkT g.2) = 0 := Decidable.byContradiction h1
  split at h
  ·cases h
  ·next h2 =>
   have key : ∀ {l : List Int}, fstNo l = 0 → ∀ e ∈ l, e = 0 := by
    intro l
    induction l with
    | nil => intro _ e he; cases he
    | cons a l ih =>
     intro hl e he
     simp only [fstNo] at hl
     split at hl
     ·next ha =>
      rcases List.mem_cons.1 he with he | he
      ·rw [he]; exact ha
      ·exact ih hl e he
     ·next ha => exact absurd hl ha
   have hk := key h1
   refine ⟨may_chk.2 (hk _ (by simp)), fun g hg => may_chk.2 (hk _ (List.mem_cons_of_mem _ (List.mem_map.2 ⟨g, hg, rfl⟩))), ?_⟩
   rcases Nat.lt_or_ge 64 c.gs.length with h3 | h3
   ·exact absurd (.inr (.inr h3)) h2
   ·exact h3
theorem gathF_len {c : Cls} (h : mayC c = 0) : (gathF c).1.length ≤ 1000000 ∧ (gathF c).2 ≤ 64 := by
 obtain ⟨h1, h2, h3⟩ := may_parts h
 have a := gath_len c.gs (notesS 0 (vsT c.h []) [], 0) h2
 have b := notesS_len 0 (vsT c.h []) []
 have d := (vsT_len c.h []).1
 have e := (mayT_iff.1 h1).2.2
 have f := gath_le c.gs (notesS 0 (vsT c.h []) [], 0)
 simp only [List.length_nil] at d b
 simp only at a f
 unfold gathF
 refine ⟨?_, ?_⟩ <;> omega
def envF (c : Cls) : Bool := decide (2 ≤ (gathF c).2) || decide (0 < levF (slotsF c)) || (decide ((gathF c).2 = 1) && ((c.gs.getLast?.map (·.1)) == some 2))
theorem env_plan (c : Cls) : (planF c).env = envF c := rfl
theorem slots_plan (c : Cls) : (planF c).slots = (slotsF c).map Spn.n := rfl
theorem lev_plan (c : Cls) : (planF c).level = levF (slotsF c) := rfl
theorem live_plan (c : Cls) : (planF c).live = livL (slotsF c) (gathF c).2 := rfl
end Go.El
namespace Go.Proofs.YtmnnhdegoapfcaaGreatDoor
open Go.RowKit Go.El
def PlOk (c : Cls) (w : World) (e : Ending) (w' : World) : Prop :=
 ∃ sA sc lA lc, e = .returned (.tuple #[.agg #[.bool (planF c).env, .slice sA (planF c).slots.length sc, .int .i64 (planF c).level, .slice lA (planF c).live.length lc], .int .i64 0]) ∧ El.Src w' sA (planF c).slots.length 1 ((planF c).slots.map (Value.int .i64)) ∧ El.Src w' lA (planF c).live.length 1 ((planF c).live.map (Value.int .i64)) ∧ (∀ a, sA = some a → w.heap.size ≤ a.block ∧ a.block < w'.heap.size) ∧ (∀ a, lA = some a → w.heap.size ≤ a.block ∧ a.block < w'.heap.size) ∧ Ext w w'
def PlBad (c : Cls) (w : World) (e : Ending) (w' : World) : Prop := e = .returned (.tuple #[.agg #[.bool false, .slice none 0 0, .int .i64 0, .slice none 0 0], .int .i64 (planE c)]) ∧ Ext w w'
def PlPost (c : Cls) (w : World) (e : Ending) (w' : World) : Prop := (planE c ≠ 0 ∧ PlBad c w e w') ∨ (planE c = 0 ∧ PlOk c w e w')
theorem plan_bad {c : Cls} (h : mayC c ≠ 0) : planE c = mayC c := if_pos h
theorem plan_many {c : Cls} (h : mayC c = 0) (h2 : 64 < (slotsF c).length) : planE c = 62 := by
 unfold planE
 rw [if_neg (by simp [h]), if_pos h2]
theorem plan_good {c : Cls} (h : mayC c = 0) (h2 : ¬ 64 < (slotsF c).length) : planE c = 0 := by
 unfold planE
 rw [if_neg (by simp [h]), if_neg h2]
theorem own_far {w : World} {e : TypeId} {A : Option Addr} {n c : Nat} {xs : List Value} {lo : Nat} (h : w.ownsRow 0 e 1 (.slice A n c) n xs) (hf : ∀ b, (Value.slice A n c).ownBlock = some b → lo ≤ b) : ∀ a, A = some a → lo ≤ a.block ∧ a.block < w.heap.size := by
 rintro a rfl
 have hb : (Value.slice (some a) n c).ownBlock = some a.block := by
  rcases h.2 with ⟨h1, _⟩ | ⟨g, cap, cur, hv, _⟩
  ·cases h1
  ·injection hv with h1 _ _
   injection h1 with h1
   rw [h1]
   rfl
 exact ⟨hf _ hb, own_lt h hb⟩
theorem OfAt.done {cs : Array Value} {w : World} {pb lo : Nat} {rA : Option Addr} {M : List Spn} {c : Cls} {wr : World} {sA lA : Option Addr} {sc lc : Nat} (h : OfAt cs w pb lo rA M wr (planF c).env (.slice sA (planF c).slots.length sc) (planF c).slots (planF c).level (.slice lA (planF c).live.length lc) (planF c).live) (hp : planE c = 0) (q0 q1 q2 q3 : Value) :
  PlPost c w (.returned (.tuple #[.agg #[.bool (planF c).env, .slice sA (planF c).slots.length sc, .int .i64 (planF c).level, .slice lA (planF c).live.length lc], .int .i64 0])) ((((wr.setCell ⟨w.heap.size + 1, 0, none⟩ q0).setCell ⟨w.heap.size + 1, 1, none⟩ q1).setCell ⟨w.heap.size + 1, 2, none⟩ q2).setCell ⟨w.heap.size + 1, 3, none⟩ q3) := by
 have h1 := h.l1
 have h2 := h.l2
 have hd : ∀ (W : World) (i : Nat) (q : Value), Mods [w.heap.size + 1] wr W → Mods [w.heap.size + 1] wr (W.setCell ⟨w.heap.size + 1, i, none⟩ q) := fun W i q h => h.setCell (p := ⟨w.heap.size + 1, i, none⟩) (.inl (by simp)) q
 have hd4 := hd _ 3 q3 (hd _ 2 q2 (hd _ 1 q1 (hd _ 0 q0 (Mods.refl _ wr))))
 have hs := hd4.size
 have fs := own_far h.so h.sf
 have fl := own_far h.vo h.vf
 refine .inr ⟨hp, sA, sc, lA, lc, rfl, (El.Src.of_own h.so).mods hd4 (fun a ha => by have := fs a ha; simp; omega), (El.Src.of_own h.vo).mods hd4 (fun a ha => by have := fl a ha; simp; omega), fun a ha => by have := fs a ha; omega, fun a ha => by have := fl a ha; omega, ?_⟩
 exact (((h.ext.setCell (p := ⟨w.heap.size + 1, 0, none⟩) (by simp) q0).setCell (p := ⟨w.heap.size + 1, 1, none⟩) (by simp) q1).setCell (p := ⟨w.heap.size + 1, 2, none⟩) (by simp) q2).setCell (p := ⟨w.heap.size + 1, 3, none⟩) (by simp) q3
theorem env_a {c : Cls} (h : 2 ≤ (gathF c).2) : (planF c).env = true := by rw [env_plan]; unfold envF; rw [decide_eq_true h]; rfl
theorem env_b {c : Cls} (h : 0 < levF (slotsF c)) : (planF c).env = true := by rw [env_plan]; unfold envF; rw [decide_eq_true h]; simp
theorem env_c {c : Cls} (h : ¬ 2 ≤ (gathF c).2) (h2 : ¬ 0 < levF (slotsF c)) (h3 : ¬ (gathF c).2 = 1) : (planF c).env = false := by rw [env_plan]; unfold envF; rw [decide_eq_false h, decide_eq_false h2, decide_eq_false h3]; rfl
theorem env_d {c : Cls} (h : ¬ 2 ≤ (gathF c).2) (h2 : ¬ 0 < levF (slotsF c)) (h3 : (gathF c).2 = 1) {k : Int} {t : Tm} (hg : c.gs[c.gs.length - 1]? = some (k, t)) : (planF c).env = (k == 2) := by
 rw [env_plan]
 unfold envF
 rw [decide_eq_false h, decide_eq_false h2, decide_eq_true h3, List.getLast?_eq_getElem?, hg]
 rfl
set_option maxRecDepth 100000 in
set_option maxHeartbeats 8000000 in
theorem pOf (c : Cls) (hA : Option Addr) (hc : Nat) (gA : Option Addr) (gc : Nat) (D : Nat → Prop) (w : World) (h : ClIn D w c hA hc gA gc) (hz : ClSz c) :
  Calls Tryz.prog 42 #[.agg (clC c hA hc gA gc)] w (PlPost c w) := by
 have H := Lib.hid h
 have HM := fun W (x : Ext w W) => Lib.hid (pMay c hA hc gA gc D W (h.ext x) hz)
 have HB0 := (Blk.new w 34 (clC c hA hc gA gc)).alloc (.cells #[.bool false, .slice none 0 0, .int .i64 0, .slice none 0 0] 83)
 have HB1 := Blk.new (w.alloc (.cells (clC c hA hc gA gc) 34)) 83 #[.bool false, .slice none 0 0, .int .i64 0, .slice none 0 0]
 rw [World.size_alloc] at HB1
 have HX0 := (ext_box w (.cells (clC c hA hc gA gc) 34)).alloc (.cells #[.bool false, .slice none 0 0, .int .i64 0, .slice none 0 0] 83)
 by_cases hm : mayC c = 0
 ·obtain ⟨p1, p2, p3⟩ := may_parts hm
  obtain ⟨b1, b2⟩ := gathF_len hm
  have HGA := fun W (x : Ext w W) => Lib.hid (pGather c hA hc gA gc D W (h.ext x) ⟨p1, fun j k t hj => p2 _ (List.mem_of_getElem? hj), by omega⟩)
  have HMA := Lib.hid hm
  rw [hm] at HM
  have hgl : c.gs.length ≤ 64 := p3
  clear h hz p1 p2 hm p3
  unfold clC at *
  generalize hkk : (gathF c).2 = kk at *
  have HKK := Lib.hid hkk
  clear hkk
  go_enter Tryz.func42, Tryz.ntmps42
  go_upto_region 1 with fail
  refine wp_abs (fun V => Hid (Blk V w.heap.size 34 #[.int .i64 c.h.k, .int .i64 c.h.n, .string c.h.s, .slice hA c.h.l.length hc, .slice gA c.gs.length gc, .int .i64 c.vars]) ∧ Hid (Blk V (w.heap.size + 1) 83 #[.bool false, .slice none 0 0, .int .i64 0, .slice none 0 0]) ∧ Hid (Ext w V)) ⟨HB0, HB1, HX0⟩ ?_
  clear HB0 HB1 HX0
  rintro V ⟨HB, HR, HX⟩
  have x9 := HB.out.cell
  have HM1 := HM V HX.out
  clear HM
  go_upto_region 4 with (go_at_call 80; refine HM1.out.mono ?_; rintro e W1 ⟨rfl, x1⟩; have B1 := Lib.hid (HB.out.ext x1); have R1 := Lib.hid (HR.out.ext x1); have X1 := Lib.hid (HX.out.trans x1); clear x1)
  have y9 := B1.out.cell
  have HG1 := HGA W1 X1.out
  clear x9 HM1 HB HR HX HGA
  go_upto_region 5 with (go_at_call 81; refine HG1.out.mono ?_; rintro e W2 ⟨sm, rfl, m2, _, x2⟩; have B2 := Lib.hid (B1.out.ext x2); have R2 := Lib.hid (R1.out.ext x2); have X2 := Lib.hid (X1.out.trans x2); have M2 := Lib.hid m2; clear x2 m2)
  have HSL := Lib.hid (pSlots sm (gathF c).1 W2 M2.out b1)
  clear y9 HG1 B1 R1 X1
  go_upto_region 6 with (go_at_call 82; refine HSL.out.mono ?_; rintro e W3 ⟨v3, M, rfl, pm, srt, o3, f3, x3⟩; have hM := slots_one pm srt; subst hM; obtain ⟨rA, rc, rfl⟩ := own_value o3; have B3 := Lib.hid (B2.out.ext x3); have R3 := Lib.hid (R2.out.ext x3); have X3 := Lib.hid (X2.out.trans x3); have O3 := Lib.hid o3; clear x3 o3 f3 pm srt)
  clear HSL B2 R2 X2 M2
  by_cases hmany : 64 < (slotsF c).length
  ·have d6 : decide (((slotsF c).length : Int) > 64) = true := decide_eq_true (by omega)
   have HPE := Lib.hid (plan_many HMA.out hmany)
   have zc := R3.out.cell
   have zf := R3.out.frozen
   have HF := Lib.hid ((((R3.out.set_ 0 (.bool false)).set_ 1 (.slice none 0 0)).set_ 2 (.int .i64 0)).set_ 3 (.slice none 0 0))
   have HE := Lib.hid ((((X3.out.setCell (p := ⟨w.heap.size + 1, 0, none⟩) (by simp) (.bool false)).setCell (p := ⟨w.heap.size + 1, 1, none⟩) (by simp) (.slice none 0 0)).setCell (p := ⟨w.heap.size + 1, 2, none⟩) (by simp) (.int .i64 0)).setCell (p := ⟨w.heap.size + 1, 3, none⟩) (by simp) (.slice none 0 0))
   clear hmany
   go_wp2_with fail
   generalize (((W3.setCell ⟨w.heap.size + 1, 0, none⟩ (.bool false)).setCell ⟨w.heap.size + 1, 1, none⟩ (.slice none 0 0)).setCell ⟨w.heap.size + 1, 2, none⟩ (.int .i64 0)).setCell ⟨w.heap.size + 1, 3, none⟩ (.slice none 0 0) = VF at HF HE ⊢
   have r0 : VF.cell? ⟨w.heap.size + 1, 0, none⟩ = some (.bool false) := HF.out.cell 0
   have r1 : VF.cell? ⟨w.heap.size + 1, 1, none⟩ = some (.slice none 0 0) := HF.out.cell 1
   have r2 : VF.cell? ⟨w.heap.size + 1, 2, none⟩ = some (.int .i64 0) := HF.out.cell 2
   have r3 : VF.cell? ⟨w.heap.size + 1, 3, none⟩ = some (.slice none 0 0) := HF.out.cell 3
   refine bodyPost_ret (v := .tuple #[.agg #[.bool false, .slice none 0 0, .int .i64 0, .slice none 0 0], .int .i64 62]) (by simp [results, Tryz.results42, go_sem, r0, r1, r2, r3]) rfl (.inl ⟨by rw [HPE.out]; decide, by unfold PlBad; rw [HPE.out]; exact ⟨rfl, HE.out⟩⟩)
  ·have d6 : decide (((slotsF c).length : Int) > 64) = false := decide_eq_false (by omega)
   have HPG := Lib.hid (plan_good HMA.out hmany)
   have hsl : (slotsF c).length ≤ 64 := by omega
   have hnt : NoTwo (slotsF c) := by
    have h4 : NoTwo ((gathF c).1.filter perm) := List.Pairwise.filter _ (noTwo_gath c)
    have h1 : (slotsF c).Perm ((gathF c).1.filter perm) := by
     have := sort_perm ((gathF c).1.filter perm) []
     rw [List.nil_append] at this
     exact this
    exact (h1.symm.pairwise h4 (fun hab => hab.symm))
   have HNT := Lib.hid hnt
   have hlb := lev_bound (slotsF c)
   have HLB := Lib.hid hlb
   have HEA : Hid (2 ≤ kk → (planF c).env = true) := Lib.hid (by rw [← HKK.out]; exact env_a)
   have HEB : Hid (0 < levF (slotsF c) → (planF c).env = true) := Lib.hid env_b
   have HEC : Hid (¬ 2 ≤ kk → ¬ 0 < levF (slotsF c) → ¬ kk = 1 → (planF c).env = false) := Lib.hid (by rw [← HKK.out]; exact env_c)
   have HED : Hid (¬ 2 ≤ kk → ¬ 0 < levF (slotsF c) → kk = 1 → ∀ (k : Int) (t : Tm), c.gs[c.gs.length - 1]? = some (k, t) → (planF c).env = (k == 2)) := Lib.hid (by rw [← HKK.out]; exact fun a b d k t e => env_d a b d e)
   have HPS := Lib.hid (slots_plan c)
   have HPL := Lib.hid (lev_plan c)
   have HPV : Hid ((planF c).live = livL (slotsF c) kk) := Lib.hid (by rw [live_plan, HKK.out])
   have hS0 : Hid (OfAt #[.int .i64 c.h.k, .int .i64 c.h.n, .string c.h.s, .slice hA c.h.l.length hc, .slice gA c.gs.length gc, .int .i64 c.vars] w W3.heap.size (W3.heap.size + 1) rA (slotsF c) (W3.alloc (.cells #[.bool false, .slice none 0 0, .int .i64 0, .slice none 0 0] 83)) false (.slice none 0 0) [] 0 (.slice none 0 0) []) := Lib.hid (by
    have xa := ext_box W3 (.cells #[.bool false, .slice none 0 0, .int .i64 0, .slice none 0 0] 83)
    have hlt := R3.out.lt
    refine ⟨B3.out.ext xa, R3.out.ext xa, Blk.new _ _ _, (El.Src.of_own O3.out).ext xa, fun a ha => ?_, World.ownsRow_nil _ _ _ _, World.ownsRow_nil _ _ _ _, by simp [Value.ownBlock], by simp [Value.ownBlock], by simp [Value.ownBlock], X3.out.trans xa, hlt, by omega, by simp⟩
    subst ha
    rcases O3.out.2 with ⟨h1, _⟩ | ⟨g, cap, cur, hv, _, hb, _⟩
    ·cases h1
    ·injection hv with h1 _ _
     injection h1 with h1
     rw [h1]
     exact heap_lt hb)
   clear hmany hlb hnt B3 R3 X3 O3
   generalize slotsF c = M at *
   go_upto_region 9 with fail
   generalize W3.alloc (.cells #[.bool false, .slice none 0 0, .int .i64 0, .slice none 0 0] 83) = W4 at hS0 ⊢
   generalize W3.heap.size = pb at *
   go_upto_region 10 with fail
   obtain ⟨i1, hi1, hz0, hz1, hz2⟩ := infoP int1Info
   go_loopw [33] (fun iv wr => ∃ (j : Nat) (sv : Value), j ≤ M.length ∧ iv = .int .i64 j ∧ Hid (OfAt #[.int .i64 c.h.k, .int .i64 c.h.n, .string c.h.s, .slice hA c.h.l.length hc, .slice gA c.gs.length gc, .int .i64 c.vars] w pb (pb + 1) rA M wr false sv ((M.take j).map Spn.n) (levF (M.take j)) (.slice none 0 0) [])) (fun iv _ => M.length - (intOf iv).toNat)
   case atStart => exact ⟨0, _, Nat.zero_le _, rfl, hS0⟩
   case round =>
    clear hS0
    obtain ⟨j, sv, hj, rfl, HS⟩ := hrel
    have hsl2 := HS.out.l1
    obtain ⟨Sj, hSj⟩ : ∃ Sj, Sj = (M.take j).map Spn.n := ⟨_, rfl⟩
    obtain ⟨lj, hlj⟩ : ∃ lj, lj = levF (M.take j) := ⟨_, rfl⟩
    rw [← hSj, ← hlj] at HS
    have hSl : Sj.length ≤ 64 := by rw [hSj, List.length_map, List.length_take]; omega
    have HSJ := Lib.hid hSj
    have HLJ := Lib.hid hlj
    clear hSj hlj
    obtain ⟨As, ca, rfl⟩ := own_value HS.out.so
    by_cases hlt : j < M.length
    ·have ho : M[j]? = some M[j] := List.getElem?_eq_getElem hlt
     have hTK : (M.take (j + 1)).map Spn.n = (M.take j).map Spn.n ++ [M[j].n] := by rw [List.take_succ_eq_append_getElem hlt, List.map_append]; rfl
     generalize M[j] = x at ho hTK
     have hLT := lev_take HNT.out ho
     obtain ⟨sn, sa, sb⟩ := x
     obtain ⟨bb, off, rfl, q0, q1, q2⟩ := src_sp HS.out.row ho
     simp only at q0 q1 q2 hTK hLT
     rw [← HSJ.out] at hTK
     rw [← HLJ.out] at hLT
     have HTK := Lib.hid hTK
     have HLT := Lib.hid hLT
     clear ho hTK hLT
     go_upto_region 12 with fail
     refine wp_abs (fun W => Hid (Ext wr W) ∧ Hid (Blk W wr.heap.size 135 #[.int .i64 sn, .int .i64 sa, .int .i64 sb])) ⟨ext_box _ _, Blk.new _ _ _⟩ ?_
     rintro W ⟨HE, HU⟩
     have hbx := HS.out.l3
     have hso : ∀ b, (Value.slice As Sj.length ca).ownBlock = some b → b < wr.heap.size := fun b hb => own_lt HS.out.so hb
     have HSO := Lib.hid hso
     have SW := Lib.hid (HS.out.go HE.out)
     have y1 : W.cell? ⟨pb, 1, none⟩ = some (.slice As Sj.length ca) := SW.out.pl.cell 1
     have u0 : W.cell? ⟨wr.heap.size, 0, none⟩ = some (.int .i64 sn) := HU.out.cell 0
     have HN := fun (o : Obj) => Lib.hid (SW.out.go ((Ext.refl W).alloc o))
     have HUN := fun (o : Obj) => Lib.hid (HU.out.ext ((Ext.refl W).alloc o))
     have hne1 : ¬ (wr.heap.size = pb) := by omega
     clear q0 q1 q2 hso HS HE
     generalize wr.heap.size = bx at *
     go_upto_region 13 with (at_builtin; refine wpList_append_src (P := Tryz.prog) rfl (.tmp 39) (.tmp 42) 81 rfl 3 i1 _ 1 8 Tryz.underlying81 hi1 hz0 hz1 hz2 rfl (by omega) (.slice As Sj.length ca) rfl _ _ _ rfl Sj.length (Sj.map (Value.int .i64)) (HN _).out.so [Value.int .i64 sn] (El.Src.new _ #[.int .i64 sn] _ 1 1 rfl) (by intro u hu; simp at hu; subst hu; rfl) (by unfold maxLen; omega) (by omega) ?_; intro v5 w5 ho5 hm5 hb5; obtain ⟨A5, c5, rfl⟩ := own_value ho5; have hpl5 := (HN _).out.pl.mods hm5 (fun e => by have := SW.out.sf pb (mem_ownL2 e); omega); have yc5 : w5.cell? ⟨pb, 1, none⟩ = some (.slice As Sj.length ca) := hpl5.cell 1; have yf5 := hpl5.frozen 1; have S5 := Lib.hid ((HN _).out.slot ho5 hm5 hb5); have HU5 := Lib.hid (((HUN _).out.mods hm5 (fun e => by have := HSO.out bx (mem_ownL2 e); omega)).far (p := ⟨pb, 1, none⟩) hne1 (.slice A5 (Sj.length + 1) c5)); clear ho5 hm5 hb5 hpl5)
     generalize w5.setCell ⟨pb, 1, none⟩ (.slice A5 (Sj.length + 1) c5) = W6 at S5 HU5 ⊢
     have k0 : W6.cell? ⟨bx, 0, none⟩ = some (.int .i64 sn) := HU5.out.cell 0
     clear y1 u0 HN HUN SW HU yc5 yf5
     by_cases hx : sn = -1
     ·subst hx
      have z2 := S5.out.pl.cell 2
      have f2 := S5.out.pl.frozen 2
      have S7 := Lib.hid (S5.out.lev_ ((j : Int) + 1))
      go_wp2_with fail
      generalize W6.setCell ⟨pb, 2, none⟩ (.int .i64 ((j : Int) + 1)) = W7 at S7 ⊢
      go_roundw
      case rel => exact ⟨j + 1, _, hlt, by go_num, Lib.hid (by rw [HTK.out, HLT.out, if_pos rfl]; exact S7.out)⟩
      case measure => simp [intOf]; omega
     ·have qx : (sn == -1) = false := by simpa using hx
      have HX2 := Lib.hid hx
      clear hx
      go_wp2_with fail
      go_roundw
      case rel => exact ⟨j + 1, _, hlt, by go_num, Lib.hid (by rw [HTK.out, HLT.out, if_neg HX2.out]; exact S5.out)⟩
      case measure => simp [intOf]; omega
    ·obtain rfl : j = M.length := by omega
     rw [List.take_length] at HSJ HLJ
     have hlb1 : 0 ≤ lj := by rw [HLJ.out]; exact HLB.out.1
     have hlb2 : lj ≤ 64 := by have := HLB.out.2; rw [HLJ.out]; omega
     go_upto_region 17 with fail
     go_loopw [53] (fun iv wr => ∃ (k : Nat) (lv : Value), k ≤ kk ∧ iv = .int .i64 k ∧ Hid (OfAt #[.int .i64 c.h.k, .int .i64 c.h.n, .string c.h.s, .slice hA c.h.l.length hc, .slice gA c.gs.length gc, .int .i64 c.vars] w pb (pb + 1) rA M wr false (.slice As Sj.length ca) Sj lj lv (livL M k))) (fun iv _ => kk - (intOf iv).toNat)
     case atStart => exact ⟨0, _, Nat.zero_le _, rfl, HS⟩
     case round =>
      clear HS
      obtain ⟨k, lv, hk, rfl, HS⟩ := hrel
      obtain ⟨Vk, hVk⟩ : ∃ Vk, Vk = livL M k := ⟨_, rfl⟩
      rw [← hVk] at HS
      have hVl : Vk.length ≤ 64 := by rw [hVk, livL_len]; omega
      have HVK := Lib.hid hVk
      clear hVk
      obtain ⟨Al, cl, rfl⟩ := own_value HS.out.vo
      by_cases hlk : k < kk
      ·go_upto_region 19 with fail
       refine wp_abs (fun W => Hid (Ext wr W) ∧ Hid (Blk W wr.heap.size 3 #[.int .i64 k])) ⟨ext_box _ _, Blk.new _ _ _⟩ ?_
       rintro W ⟨HE, HU⟩
       have SW := Lib.hid (HS.out.go HE.out)
       have HI := Lib.hid (sIndexLiv M rA rc W k wr.heap.size (HU.out.cell 0) SW.out.row (by omega))
       have hil := idx_live M k
       obtain ⟨z, hz⟩ : ∃ z, z = idxS (fun (x : Spn) => decide (x.b ≤ (k : Int))) M := ⟨_, rfl⟩
       rw [← hz] at HI hil
       clear hz HS HE HU
       go_upto_region 20 with (go_at_call 83; refine HI.out.mono ?_; rintro e W5 ⟨rfl, x5⟩; have S5 := Lib.hid (SW.out.go x5); clear x5)
       have y3 : W5.cell? ⟨pb, 3, none⟩ = some (.slice Al Vk.length cl) := S5.out.pl.cell 3
       have HN := fun (o : Obj) => Lib.hid (S5.out.go ((Ext.refl W5).alloc o))
       clear SW HI
       rcases hil with ⟨hneg, hlv⟩ | ⟨hpos, hlv⟩
       ·have HLV := Lib.hid hlv
        clear hlv
        go_wp2_with (at_builtin; refine wpList_append_src (P := Tryz.prog) rfl (.tmp 64) (.tmp 66) 81 rfl 3 i1 _ 1 8 Tryz.underlying81 hi1 hz0 hz1 hz2 rfl (by omega) (.slice Al Vk.length cl) rfl _ _ _ rfl Vk.length (Vk.map (Value.int .i64)) (HN _).out.vo [Value.int .i64 (M.length : Int)] (El.Src.new _ #[.int .i64 (M.length : Int)] _ 1 1 rfl) (by intro u hu; simp at hu; subst hu; rfl) (by unfold maxLen; omega) (by omega) ?_; intro v6 w6 ho6 hm6 hb6; obtain ⟨A6, c6, rfl⟩ := own_value ho6; have hpl6 := (HN _).out.pl.mods hm6 (fun e => by have := S5.out.vf pb (mem_ownL2 e); omega); have yc6 : w6.cell? ⟨pb, 3, none⟩ = some (.slice Al Vk.length cl) := hpl6.cell 3; have yf6 := hpl6.frozen 3; have S6 := Lib.hid ((HN _).out.liv ho6 hm6 hb6); clear ho6 hm6 hb6 hpl6)
        generalize w6.setCell ⟨pb, 3, none⟩ (.slice A6 (Vk.length + 1) c6) = W7 at S6 ⊢
        go_roundw
        case rel => exact ⟨k + 1, _, hlk, by go_num, Lib.hid (by rw [livL_succ, ← HVK.out, HLV.out]; exact S6.out)⟩
        case measure => simp [intOf]; omega
       ·have HLV := Lib.hid hlv
        clear hlv
        go_wp2_with (at_builtin; refine wpList_append_src (P := Tryz.prog) rfl (.tmp 64) (.tmp 66) 81 rfl 3 i1 _ 1 8 Tryz.underlying81 hi1 hz0 hz1 hz2 rfl (by omega) (.slice Al Vk.length cl) rfl _ _ _ rfl Vk.length (Vk.map (Value.int .i64)) (HN _).out.vo [Value.int .i64 z] (El.Src.new _ #[.int .i64 z] _ 1 1 rfl) (by intro u hu; simp at hu; subst hu; rfl) (by unfold maxLen; omega) (by omega) ?_; intro v6 w6 ho6 hm6 hb6; obtain ⟨A6, c6, rfl⟩ := own_value ho6; have hpl6 := (HN _).out.pl.mods hm6 (fun e => by have := S5.out.vf pb (mem_ownL2 e); omega); have yc6 : w6.cell? ⟨pb, 3, none⟩ = some (.slice Al Vk.length cl) := hpl6.cell 3; have yf6 := hpl6.frozen 3; have S6 := Lib.hid ((HN _).out.liv ho6 hm6 hb6); clear ho6 hm6 hb6 hpl6)
        generalize w6.setCell ⟨pb, 3, none⟩ (.slice A6 (Vk.length + 1) c6) = W7 at S6 ⊢
        go_roundw
        case rel => exact ⟨k + 1, _, hlk, by go_num, Lib.hid (by rw [livL_succ, ← HVK.out, HLV.out]; exact S6.out)⟩
        case measure => simp [intOf]; omega
      ·obtain rfl : k = kk := by omega
       have HSK : Hid (∀ b, (planF c).env = b → ∀ W, OfAt #[.int .i64 c.h.k, .int .i64 c.h.n, .string c.h.s, .slice hA c.h.l.length hc, .slice gA c.gs.length gc, .int .i64 c.vars] w pb (pb + 1) rA M W b (.slice As Sj.length ca) Sj lj (.slice Al Vk.length cl) Vk → ∀ q0 q1 q2 q3, PlPost c w (.returned (.tuple #[.agg #[.bool b, .slice As Sj.length ca, .int .i64 lj, .slice Al Vk.length cl], .int .i64 0])) ((((W.setCell ⟨w.heap.size + 1, 0, none⟩ q0).setCell ⟨w.heap.size + 1, 1, none⟩ q1).setCell ⟨w.heap.size + 1, 2, none⟩ q2).setCell ⟨w.heap.size + 1, 3, none⟩ q3)) := Lib.hid (fun b hb W hW q0 q1 q2 q3 => by
        have e1 : Sj = (planF c).slots := by rw [HSJ.out, HPS.out]
        have e2 : lj = (planF c).level := by rw [HLJ.out, HPL.out]
        have e3 : Vk = (planF c).live := by rw [HVK.out, HPV.out]
        rw [← hb, e1, e2, e3] at hW ⊢
        exact hW.done HPG.out q0 q1 q2 q3)
       have z0 := HS.out.pl.cell 0
       have f0 := HS.out.pl.frozen 0
       have z2 : wr.cell? ⟨pb, 2, none⟩ = some (.int .i64 lj) := HS.out.pl.cell 2
       have hwr := HS.out.ext
       by_cases h2 : 2 ≤ k
       ·have d2 : decide ((k : Int) ≥ 2) = true := decide_eq_true (by omega)
        have HB := Lib.hid (HEA.out h2)
        clear h2
        have S6 := Lib.hid (HS.out.env_ true)
        clear HS
        go_upto_region 25 with fail
        generalize wr.setCell ⟨pb, 0, none⟩ (.bool true) = W6 at S6 ⊢
        have k0 := S6.out.pl.cell
        have zc := S6.out.rb.cell
        have zf := S6.out.rb.frozen
        have hpw : ¬ (pb = w.heap.size + 1) := by have := S6.out.l1; omega
        have HF := Lib.hid ((((S6.out.rb.set_ 0 (.bool true)).set_ 1 (.slice As Sj.length ca)).set_ 2 (.int .i64 lj)).set_ 3 (.slice Al Vk.length cl))
        have HE := Lib.hid (HSK.out true HB.out W6 S6.out (.bool true) (.slice As Sj.length ca) (.int .i64 lj) (.slice Al Vk.length cl))
        clear S6 HSK
        go_wp2_with fail
        generalize (((W6.setCell ⟨w.heap.size + 1, 0, none⟩ (.bool true)).setCell ⟨w.heap.size + 1, 1, none⟩ (.slice As Sj.length ca)).setCell ⟨w.heap.size + 1, 2, none⟩ (.int .i64 lj)).setCell ⟨w.heap.size + 1, 3, none⟩ (.slice Al Vk.length cl) = VF at HF HE ⊢
        have r0 : VF.cell? ⟨w.heap.size + 1, 0, none⟩ = some (.bool true) := HF.out.cell 0
        have r1 : VF.cell? ⟨w.heap.size + 1, 1, none⟩ = some (.slice As Sj.length ca) := HF.out.cell 1
        have r2 : VF.cell? ⟨w.heap.size + 1, 2, none⟩ = some (.int .i64 lj) := HF.out.cell 2
        have r3 : VF.cell? ⟨w.heap.size + 1, 3, none⟩ = some (.slice Al Vk.length cl) := HF.out.cell 3
        refine bodyPost_ret (v := .tuple #[.agg #[.bool true, .slice As Sj.length ca, .int .i64 lj, .slice Al Vk.length cl], .int .i64 0]) (by simp [results, Tryz.results42, go_sem, r0, r1, r2, r3]) rfl HE.out
       ·have d2 : decide ((k : Int) ≥ 2) = false := decide_eq_false (by omega)
        by_cases h0 : 0 < lj
        ·have d0 : decide (lj > 0) = true := decide_eq_true (by omega)
         have HB := Lib.hid (HEB.out (by rw [← HLJ.out]; exact h0))
         clear h2 h0
         have S6 := Lib.hid (HS.out.env_ true)
         clear HS
         go_upto_region 25 with fail
         generalize wr.setCell ⟨pb, 0, none⟩ (.bool true) = W6 at S6 ⊢
         have k0 := S6.out.pl.cell
         have zc := S6.out.rb.cell
         have zf := S6.out.rb.frozen
         have hpw : ¬ (pb = w.heap.size + 1) := by have := S6.out.l1; omega
         have HF := Lib.hid ((((S6.out.rb.set_ 0 (.bool true)).set_ 1 (.slice As Sj.length ca)).set_ 2 (.int .i64 lj)).set_ 3 (.slice Al Vk.length cl))
         have HE := Lib.hid (HSK.out true HB.out W6 S6.out (.bool true) (.slice As Sj.length ca) (.int .i64 lj) (.slice Al Vk.length cl))
         clear S6 HSK
         go_wp2_with fail
         generalize (((W6.setCell ⟨w.heap.size + 1, 0, none⟩ (.bool true)).setCell ⟨w.heap.size + 1, 1, none⟩ (.slice As Sj.length ca)).setCell ⟨w.heap.size + 1, 2, none⟩ (.int .i64 lj)).setCell ⟨w.heap.size + 1, 3, none⟩ (.slice Al Vk.length cl) = VF at HF HE ⊢
         have r0 : VF.cell? ⟨w.heap.size + 1, 0, none⟩ = some (.bool true) := HF.out.cell 0
         have r1 : VF.cell? ⟨w.heap.size + 1, 1, none⟩ = some (.slice As Sj.length ca) := HF.out.cell 1
         have r2 : VF.cell? ⟨w.heap.size + 1, 2, none⟩ = some (.int .i64 lj) := HF.out.cell 2
         have r3 : VF.cell? ⟨w.heap.size + 1, 3, none⟩ = some (.slice Al Vk.length cl) := HF.out.cell 3
         refine bodyPost_ret (v := .tuple #[.agg #[.bool true, .slice As Sj.length ca, .int .i64 lj, .slice Al Vk.length cl], .int .i64 0]) (by simp [results, Tryz.results42, go_sem, r0, r1, r2, r3]) rfl HE.out
        ·have d0 : decide (lj > 0) = false := decide_eq_false (by omega)
         by_cases h1 : k = 1
         ·have q1 : ((k : Int) == 1) = true := by rw [beq_iff_eq]; omega
          have hg1 : 0 < c.gs.length := by
           have := gath_le c.gs (notesS 0 (vsT c.h []) [], 0)
           have h5 := HKK.out
           unfold gathF at h5
           simp only at this
           omega
          have ho : c.gs[c.gs.length - 1]? = some c.gs[c.gs.length - 1] := List.getElem?_eq_getElem (by omega)
          generalize c.gs[c.gs.length - 1] = g at ho
          obtain ⟨kg, t⟩ := g
          have HB := Lib.hid (HED.out (by omega) (by have := HLJ.out; omega) h1 kg t ho)
          obtain ⟨gb, goff, A', c', rfl, _, _, g0, _⟩ := (H.out.gs.ext hwr).at_ (c.gs.length - 1) kg t ho
          have hgl3 : (1 : Int) ≤ (c.gs.length : Int) := by omega
          have k4 : wr.cell? ⟨w.heap.size, 4, none⟩ = some (.slice (some ⟨gb, goff, none⟩) c.gs.length gc) := HS.out.cb.cell 4
          clear ho h2 h0 h1 hg1
          have S6 := Lib.hid (HS.out.env_ (kg == 2))
          clear HS
          go_upto_region 25 with fail
          generalize wr.setCell ⟨pb, 0, none⟩ (.bool (kg == 2)) = W6 at S6 ⊢
          have k0 := S6.out.pl.cell
          have zc := S6.out.rb.cell
          have zf := S6.out.rb.frozen
          have hpw : ¬ (pb = w.heap.size + 1) := by have := S6.out.l1; omega
          have HF := Lib.hid ((((S6.out.rb.set_ 0 (.bool (kg == 2))).set_ 1 (.slice As Sj.length ca)).set_ 2 (.int .i64 lj)).set_ 3 (.slice Al Vk.length cl))
          have HE := Lib.hid (HSK.out (kg == 2) HB.out W6 S6.out (.bool (kg == 2)) (.slice As Sj.length ca) (.int .i64 lj) (.slice Al Vk.length cl))
          clear S6 HSK
          go_wp2_with fail
          generalize (((W6.setCell ⟨w.heap.size + 1, 0, none⟩ (.bool (kg == 2))).setCell ⟨w.heap.size + 1, 1, none⟩ (.slice As Sj.length ca)).setCell ⟨w.heap.size + 1, 2, none⟩ (.int .i64 lj)).setCell ⟨w.heap.size + 1, 3, none⟩ (.slice Al Vk.length cl) = VF at HF HE ⊢
          have r0 : VF.cell? ⟨w.heap.size + 1, 0, none⟩ = some (.bool (kg == 2)) := HF.out.cell 0
          have r1 : VF.cell? ⟨w.heap.size + 1, 1, none⟩ = some (.slice As Sj.length ca) := HF.out.cell 1
          have r2 : VF.cell? ⟨w.heap.size + 1, 2, none⟩ = some (.int .i64 lj) := HF.out.cell 2
          have r3 : VF.cell? ⟨w.heap.size + 1, 3, none⟩ = some (.slice Al Vk.length cl) := HF.out.cell 3
          refine bodyPost_ret (v := .tuple #[.agg #[.bool (kg == 2), .slice As Sj.length ca, .int .i64 lj, .slice Al Vk.length cl], .int .i64 0]) (by simp [results, Tryz.results42, go_sem, r0, r1, r2, r3]) rfl HE.out
         ·have q1 : ((k : Int) == 1) = false := by rw [beq_eq_false_iff_ne]; omega
          have HB := Lib.hid (HEC.out (by omega) (by have := HLJ.out; omega) h1)
          clear h2 h0 h1
          have S6 := Lib.hid (HS.out.env_ false)
          clear HS
          go_upto_region 25 with fail
          generalize wr.setCell ⟨pb, 0, none⟩ (.bool false) = W6 at S6 ⊢
          have k0 := S6.out.pl.cell
          have zc := S6.out.rb.cell
          have zf := S6.out.rb.frozen
          have hpw : ¬ (pb = w.heap.size + 1) := by have := S6.out.l1; omega
          have HF := Lib.hid ((((S6.out.rb.set_ 0 (.bool false)).set_ 1 (.slice As Sj.length ca)).set_ 2 (.int .i64 lj)).set_ 3 (.slice Al Vk.length cl))
          have HE := Lib.hid (HSK.out false HB.out W6 S6.out (.bool false) (.slice As Sj.length ca) (.int .i64 lj) (.slice Al Vk.length cl))
          clear S6 HSK
          go_wp2_with fail
          generalize (((W6.setCell ⟨w.heap.size + 1, 0, none⟩ (.bool false)).setCell ⟨w.heap.size + 1, 1, none⟩ (.slice As Sj.length ca)).setCell ⟨w.heap.size + 1, 2, none⟩ (.int .i64 lj)).setCell ⟨w.heap.size + 1, 3, none⟩ (.slice Al Vk.length cl) = VF at HF HE ⊢
          have r0 : VF.cell? ⟨w.heap.size + 1, 0, none⟩ = some (.bool false) := HF.out.cell 0
          have r1 : VF.cell? ⟨w.heap.size + 1, 1, none⟩ = some (.slice As Sj.length ca) := HF.out.cell 1
          have r2 : VF.cell? ⟨w.heap.size + 1, 2, none⟩ = some (.int .i64 lj) := HF.out.cell 2
          have r3 : VF.cell? ⟨w.heap.size + 1, 3, none⟩ = some (.slice Al Vk.length cl) := HF.out.cell 3
          refine bodyPost_ret (v := .tuple #[.agg #[.bool false, .slice As Sj.length ca, .int .i64 lj, .slice Al Vk.length cl], .int .i64 0]) (by simp [results, Tryz.results42, go_sem, r0, r1, r2, r3]) rfl HE.out
 ·have HPE := Lib.hid (plan_bad hm)
  have hm2 : (mayC c == 0) = false := by simpa using hm
  have hm3 := Lib.hid hm
  clear h hz hm
  unfold clC at *
  generalize mayC c = ec at *
  go_enter Tryz.func42, Tryz.ntmps42
  go_upto_region 1 with fail
  refine wp_abs (fun V => Hid (Blk V w.heap.size 34 #[.int .i64 c.h.k, .int .i64 c.h.n, .string c.h.s, .slice hA c.h.l.length hc, .slice gA c.gs.length gc, .int .i64 c.vars]) ∧ Hid (Blk V (w.heap.size + 1) 83 #[.bool false, .slice none 0 0, .int .i64 0, .slice none 0 0]) ∧ Hid (Ext w V)) ⟨HB0, HB1, HX0⟩ ?_
  clear HB0 HB1 HX0
  rintro V ⟨HB, HR, HX⟩
  have x9 := HB.out.cell
  have HM1 := HM V HX.out
  clear HM
  go_upto_region 3 with (go_at_call 80; refine HM1.out.mono ?_; rintro e W1 ⟨rfl, x1⟩; have R1 := Lib.hid (HR.out.ext x1); have X1 := Lib.hid (HX.out.trans x1); clear x1)
  have zc := R1.out.cell
  have zf := R1.out.frozen
  have HF := Lib.hid ((((R1.out.set_ 0 (.bool false)).set_ 1 (.slice none 0 0)).set_ 2 (.int .i64 0)).set_ 3 (.slice none 0 0))
  have HE := Lib.hid ((((X1.out.setCell (p := ⟨w.heap.size + 1, 0, none⟩) (by simp) (.bool false)).setCell (p := ⟨w.heap.size + 1, 1, none⟩) (by simp) (.slice none 0 0)).setCell (p := ⟨w.heap.size + 1, 2, none⟩) (by simp) (.int .i64 0)).setCell (p := ⟨w.heap.size + 1, 3, none⟩) (by simp) (.slice none 0 0))
  clear x9 HM1
  go_wp2_with fail
  generalize (((W1.setCell ⟨w.heap.size + 1, 0, none⟩ (.bool false)).setCell ⟨w.heap.size + 1, 1, none⟩ (.slice none 0 0)).setCell ⟨w.heap.size + 1, 2, none⟩ (.int .i64 0)).setCell ⟨w.heap.size + 1, 3, none⟩ (.slice none 0 0) = VF at HF HE ⊢
  have r0 : VF.cell? ⟨w.heap.size + 1, 0, none⟩ = some (.bool false) := HF.out.cell 0
  have r1 : VF.cell? ⟨w.heap.size + 1, 1, none⟩ = some (.slice none 0 0) := HF.out.cell 1
  have r2 : VF.cell? ⟨w.heap.size + 1, 2, none⟩ = some (.int .i64 0) := HF.out.cell 2
  have r3 : VF.cell? ⟨w.heap.size + 1, 3, none⟩ = some (.slice none 0 0) := HF.out.cell 3
  refine bodyPost_ret (v := .tuple #[.agg #[.bool false, .slice none 0 0, .int .i64 0, .slice none 0 0], .int .i64 ec]) (by simp [results, Tryz.results42, go_sem, r0, r1, r2, r3]) rfl (.inl ⟨by rw [HPE.out]; exact hm3.out, by unfold PlBad; rw [HPE.out]; exact ⟨rfl, HE.out⟩⟩)
end Go.Proofs.YtmnnhdegoapfcaaGreatDoor
