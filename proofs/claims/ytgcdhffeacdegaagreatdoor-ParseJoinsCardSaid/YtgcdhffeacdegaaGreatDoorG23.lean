/- Layer 10, the program: the walks of named, closed. -/
import Derived.Test.YtgcdhffeacdegaaGreatDoorG22
import Derived.RangeFuncNested
import Derived.RangeFuncBound
import Derived.RangeFuncCalls
import Derived.RangeFuncLeaves
import Derived.Shelf.Abstract
import Derived.Shelf.RegionOpen
import Derived.WalkKit
import Derived.OwnWalkIn
import Derived.TacticsInMore
import Derived.LoopNIn
import Derived.LoopIn
namespace Go.Proofs.YtgcdhffeacdegaaGreatDoor
open Go.RowKit Go.El

/-- A sign that must be behind what was read. -/
def wantM {α β : Type} (c : UInt8) (g : α → β) (x : PR α) : PR β := match x with
  | .bad q => .bad q
  | .ok a q ms => wantP c (g a) q ms
theorem want_res {α β : Type} {c : UInt8} {g : α → β} {x : PR α} {a : α} {r : List TokV} {ns : List ByteArray} {bad : Bool} (h : resIs x a r ns bad) :
    resIs (wantM c g x) (g a) (if (!bad && isPu r c) = true then r.tail else r) ns (bad || !isPu r c) := by
  cases x with
  | bad q =>
    obtain ⟨rfl, rfl⟩ := h
    exact ⟨rfl, rfl⟩
  | ok b q ms =>
    obtain ⟨rfl, rfl, rfl, rfl⟩ := h
    show resIs (wantP c (g b) q ms) _ _ _ _
    unfold wantP
    cases isPu q c
    · exact ⟨rfl, rfl⟩
    · exact ⟨rfl, rfl, rfl, rfl⟩
theorem namedN_eq (O : Ops) (n : Nat) (s : ByteArray) (r : List TokV) (ns : List ByteArray) : namedN O (n + 1) s r ns = if opensB r then wantM 41 (fun l => (compT s l, (0 : Int))) (rowN O n true [] r.tail ns) else .ok (atomT s, 0) r ns := by
  simp only [namedN]
  split
  · cases rowN O n true [] r.tail ns <;> rfl
  · rfl
/-- What a call that reads a term, and hands it on with precedence 0, leaves. -/
def NPost {α : Type} (g : Tm → α) (f : PF) (w : World) (nv : Value) (r0 : List TokV) (x : PR α) (e : Ending) (w' : World) : Prop :=
  ∃ t A c nv' r ns bad, e = .returned (.agg #[.int .i64 (Tm.k t), .int .i64 (Tm.n t), .string (Tm.s t), .slice A (Tm.l t).length c]) ∧ resIs x (g t) r ns bad ∧ PaAt f w' r nv' ns bad ∧ PStep f.S nv w nv' w' ∧ TmIn (NewT f.S nv' w w') w' t A c ∧ r.length ≤ r0.length
def g0 (t : Tm) : Tm × Int := (t, 0)
theorem tail_le (r : List TokV) (b : Bool) : (if b = true then r.tail else r).length ≤ r.length := by
  cases b
  · exact Nat.le_refl _
  · simp

set_option maxRecDepth 100000 in
set_option maxHeartbeats 8000000 in
theorem paNamed {f : PF} {N : Nat} (IH : PTermC f N) (s : ByteArray) {r : List TokV} (hN : r.length ≤ N + 1) {w : World} {nv : Value} {ns : List ByteArray} (h : PaAt f w r nv ns false) {n : Nat} (hn : 5 * r.length + 2 ≤ n) :
    Calls Tryz.prog 98 #[.pointer (some ⟨f.pb, 0, none⟩), .string s] w (NPost g0 f w nv r (namedN f.O n s r ns)) := by
  obtain ⟨m, rfl⟩ : ∃ m, n = m + 1 := ⟨n - 1, by omega⟩
  rw [namedN_eq]
  have hx := ext_box4 w (.cells #[.int .i64 0, .int .i64 0, .string ⟨#[]⟩, .slice none 0 0] 32)
  have HO := Lib.hid h.old
  have HOP := Lib.hid (paOpens (h.ext hx))
  have H := Lib.hid (h.ext hx)
  have HX := Lib.hid hx
  have HZ := Lib.hid (Blk.new w 32 #[.int .i64 0, .int .i64 0, .string ⟨#[]⟩, .slice none 0 0])
  have hp : f.pb < w.heap.size := h.blk.lt
  cases ho : opensB r
  · rw [ho] at HOP
    have hif : (if false = true then wantM 41 (fun l => (compT s l, (0 : Int))) (rowN f.O m true [] r.tail ns) else PR.ok (atomT s, 0) r ns) = PR.ok (atomT s, 0) r ns := rfl
    rw [hif]
    have HA := fun W => Lib.hid (pAtom_any s W)
    clear h hx ho hif hn hN
    go_enter Tryz.func98, Tryz.ntmps98
    go_wp2_with (first | (go_at_call 140; refine HOP.out.mono ?_; rintro e W1 ⟨rfl, x1⟩; have X1 := Lib.hid x1; clear x1) | (go_at_call 103; refine (HA _).out.mono ?_; rintro e W2 ⟨rfl, x2⟩; have X2 := Lib.hid (X1.out.trans x2); have Z2 := Lib.hid (HZ.out.ext X2.out); have zc := Z2.out.cell; have zf := Z2.out.frozen; clear x2))
    have kb := blk_set4 Z2.out (.int .i64 3) (.int .i64 0) (.string s) (.slice none 0 0)
    have kc := kb.cell
    have h4 := (H.out.ext X2.out).set4 HO.out (Nat.le_refl _) Z2.out (.int .i64 3) (.int .i64 0) (.string s) (.slice none 0 0)
    have s4 := pstep_set4 (PStep.ext (S := f.S) (nv := nv) (HX.out.trans X2.out)) (Nat.le_refl _) (.int .i64 3) (.int .i64 0) (.string s) (.slice none 0 0)
    refine bodyPost_ret (v := .agg #[.int .i64 3, .int .i64 0, .string s, .slice none 0 0]) ?_ rfl ⟨atomT s, none, 0, nv, r, ns, false, rfl, ⟨rfl, rfl, rfl, rfl⟩, h4, s4, TmsIn.term (TmsIn.nil _ _ _ _) 3 0 s, Nat.le_refl _⟩
    simp [results, Tryz.results98, go_sem, kc]
  · rw [ho] at HOP
    have hif : (if true = true then wantM 41 (fun l => (compT s l, (0 : Int))) (rowN f.O m true [] r.tail ns) else PR.ok (atomT s, 0) r ns) = wantM 41 (fun l => (compT s l, (0 : Int))) (rowN f.O m true [] r.tail ns) := rfl
    rw [hif]
    have hpu : isPs r ⟨#[40]⟩ = true := by
      rw [isPs_lit]
      unfold opensB at ho
      rw [Bool.and_eq_true] at ho
      exact ho.1
    obtain ⟨t1, t2, t3⟩ := isPs_tail h.toks h.suf hpu
    have htl : r.tail.length + 1 = r.length := by
      cases r with
      | nil => cases hpu
      | cons a b => rfl
    have hl := h.nl
    have hkL := plI_lt h.suf h.nil
    have hLL := h.toks.len
    have HT := Lib.hid t3
    have HL : Hid (ns.length + r.tail.length ≤ f.L.length) := Lib.hid (by omega)
    have HNN := Lib.hid hN
    have HM := Lib.hid hn
    have HTL := Lib.hid htl
    have HOW := Lib.hid (fun k (hk : nv.ownBlock = some k) => (own_lt h.own hk : k < w.heap.size))
    have HSZ := Lib.hid (World.size_alloc w (.cells #[.int .i64 0, .int .i64 0, .string ⟨#[]⟩, .slice none 0 0] 32))
    clear h hx ho hif hn hN hpu t3 hl htl
    go_enter Tryz.func98, Tryz.ntmps98
    go_upto_region 3 with (go_at_call 140; refine HOP.out.mono ?_; rintro e W1 ⟨rfl, x1⟩; have X1 := Lib.hid x1; clear x1)
    have H1 := Lib.hid (H.out.ext X1.out)
    have Z1 := Lib.hid (HZ.out.ext X1.out)
    have SZ1 : Hid (w.heap.size + 1 ≤ W1.heap.size) := Lib.hid (by have := HSZ.out; have := X1.out.size; omega)
    have s1 := H1.out.setI t1 t2 HL.out ((plI f.L r : Int) + 1) (by rw [HT.out]; omega)
    have H2 := Lib.hid s1.1
    have S2 := Lib.hid ((PStep.ext (S := f.S) (nv := nv) (HX.out.trans X1.out)).trans s1.2)
    have Z2 : Hid (Blk (W1.setCell ⟨f.pb, 1, none⟩ (.int .i64 ((plI f.L r : Int) + 1))) w.heap.size 32 #[.int .i64 0, .int .i64 0, .string ⟨#[]⟩, .slice none 0 0]) := Lib.hid (Z1.out.far (p := ⟨f.pb, 1, none⟩) (by simp; omega) _)
    have SZ2 : Hid (w.heap.size + 1 ≤ (W1.setCell ⟨f.pb, 1, none⟩ (.int .i64 ((plI f.L r : Int) + 1))).heap.size) := Lib.hid (by have := SZ1.out; simpa using this)
    have c1 := H1.out.cells.c1
    have f1 := H1.out.blk.frozen 1
    generalize plI f.L r = k at *
    clear s1 H HX HZ HOP X1 HT HSZ
    go_upto_region 4 with fail
    generalize W1.setCell ⟨f.pb, 1, none⟩ (.int .i64 ((k : Int) + 1)) = W2 at *
    clear c1 f1 H1 Z1 SZ1
    have HR := Lib.hid (paRow_lim IH (r := r.tail) (by have := HNN.out; have := HTL.out; omega) H2.out (n := m) (by have := HM.out; have := HTL.out; omega))
    go_upto_region 5 with (go_at_call 141; refine HR.out.mono ?_; rintro e W3 ⟨v3, M, nv3, r3, ns3, b3, rfl, hres, h3, s3, hr3, hne, hml, hl3⟩; obtain ⟨A3, c3, rfl⟩ := own_value hr3.own; have HRES := Lib.hid hres; have H3 := Lib.hid h3; have S3 := Lib.hid s3; have R3 := Lib.hid hr3; have HNE := Lib.hid hne; have HML := Lib.hid hml; have HL3 := Lib.hid hl3; clear hres h3 s3 hr3 hne hml hl3)
    have CZ := Lib.hid (clr2_new (S := f.S) (nv := nv) (w := w) (w' := W2) (fun q hq => by simp [PF.S] at hq; obtain ⟨o1, o2, _⟩ := HO.out; rcases hq with rfl | rfl <;> omega) HOW.out (Nat.le_refl _) Z2.out.lt)
    have Z3 : Hid (Blk W3 w.heap.size 32 #[.int .i64 0, .int .i64 0, .string ⟨#[]⟩, .slice none 0 0]) := Lib.hid (Z2.out.mods S3.out.mods CZ.out.no)
    have HW := Lib.hid (paWant ⟨#[41]⟩ H3.out)
    rw [isPs_lit] at HW
    go_upto_region 6 with (go_at_call 143; refine HW.out.mono ?_; rintro e W4 ⟨rfl, h4, s4⟩; have H4 := Lib.hid h4; have S4 := Lib.hid s4; clear h4 s4)
    have R4 := Lib.hid (R3.out.step S4.out)
    have Z4 : Hid (Blk W4 w.heap.size 32 #[.int .i64 0, .int .i64 0, .string ⟨#[]⟩, .slice none 0 0]) := Lib.hid (Z3.out.mods S4.out.mods (S3.out.clr CZ.out).no)
    have HC := Lib.hid (pComp_any s M A3 c3 W4 _ (Src.of_own R4.out.own) R4.out.kid HNE.out HML.out)
    go_wp2_with (go_at_call 67; refine HC.out.mono ?_; rintro e W5 ⟨A5, c5, rfl, ht5, hx5⟩; have T5 := Lib.hid ht5; have X5 := Lib.hid hx5; have Z5 := Lib.hid (Z4.out.ext hx5); have zc := (Z4.out.ext hx5).cell; have zf := (Z4.out.ext hx5).frozen; clear ht5 hx5)
    have kb := blk_set4 Z5.out (.int .i64 4) (.int .i64 0) (.string s) (.slice A5 M.length c5)
    have kc := kb.cell
    have h7 := (H4.out.ext X5.out).set4 HO.out (Nat.le_refl _) Z5.out (.int .i64 4) (.int .i64 0) (.string s) (.slice A5 M.length c5)
    have s7 := pstep_set4 (S2.out.trans (S3.out.trans (S4.out.trans (PStep.ext X5.out)))) (Nat.le_refl _) (.int .i64 4) (.int .i64 0) (.string s) (.slice A5 M.length c5)
    have hnew : TmIn (NewT f.S nv3 W2 W5) W5 (.mk 4 0 s (M.map (·.1))) A5 c5 := T5.out.mono (fun k hk => by
      rcases hk with ⟨hk, _⟩ | ⟨h1, h2⟩
      · exact hk.step (PStep.ext X5.out)
      · refine ⟨Nat.le_trans (Nat.le_trans S3.out.size S4.out.size) h1, clr2_new (w := W4) (fun q hq => ?_) (fun q hq => own_lt H4.out.own hq) h1 h2⟩
        simp [PF.S] at hq
        have := (Nat.le_trans S3.out.size S4.out.size)
        have := SZ2.out
        obtain ⟨o1, o2, _⟩ := HO.out
        rcases hq with rfl | rfl <;> omega)
    have t7 := tmN_wide (w := w) (tmN_set4 hnew (z := w.heap.size) (by have := SZ2.out; omega) (.int .i64 4) (.int .i64 0) (.string s) (.slice A5 M.length c5)) (by have := SZ2.out; omega)
    have hcomp : compT s (M.map (·.1)) = .mk 4 0 s (M.map (·.1)) := if_neg (by have := HNE.out; simpa using this)
    have hres := want_res (c := 41) (g := fun l => (compT s l, (0 : Int))) HRES.out
    refine bodyPost_ret (v := .agg #[.int .i64 4, .int .i64 0, .string s, .slice A5 M.length c5]) ?_ rfl ⟨.mk 4 0 s (M.map (fun (p : TmP) => p.1)), A5, c5, nv3, _, _, _, by simp [Tm.k, Tm.n, Tm.s, Tm.l], ?_, h7, s7, t7, Nat.le_trans (tail_le _ _) (Nat.le_trans HL3.out (by simp))⟩
    · simp [results, Tryz.results98, go_sem, kc]
    · unfold g0
      rw [← hcomp]
      exact hres
end Go.Proofs.YtgcdhffeacdegaaGreatDoor

/- Layer 10, the program: the walk of closed. -/
namespace Go.Proofs.YtgcdhffeacdegaaGreatDoor
open Go.RowKit Go.El

theorem clr_box {f : PF} {w : World} {r : List TokV} {nv : Value} {ns : List ByteArray} {bad : Bool} (h : PaAt f w r nv ns bad) {k : Nat} (h1 : w.heap.size ≤ k) {W : World} (h2 : k < W.heap.size) : Clr2 f.S nv W k :=
  clr2_new (w := w) (fun q hq => by simp [PF.S] at hq; obtain ⟨o1, o2, _⟩ := h.old; rcases hq with rfl | rfl <;> omega) (fun _ hk => own_lt h.own hk) h1 h2
theorem want_map {α β : Type} {c : UInt8} {x : PR α} {g : α → β} {a : α} {r : List TokV} {ns : List ByteArray} {bad : Bool} (h : resIs (wantM c id x) a r ns bad) : resIs (wantM c g x) (g a) r ns bad := by
  cases x with
  | bad q => exact h
  | ok b q ms =>
    have h2 : resIs (wantP c b q ms) a r ns bad := h
    show resIs (wantP c (g b) q ms) (g a) r ns bad
    unfold wantP at h2 ⊢
    cases hi : isPu q c
    · rw [hi] at h2
      exact h2
    · rw [hi] at h2
      obtain ⟨h3, h4, h5, h6⟩ := h2
      exact ⟨h3, by rw [h4], h5, h6⟩

set_option maxRecDepth 100000 in
set_option maxHeartbeats 8000000 in
theorem paClosed {f : PF} {N : Nat} (IH : PTermC f N) (c : UInt8) {r : List TokV} (hN : r.length ≤ N) {w : World} {nv : Value} {ns : List ByteArray} (h : PaAt f w r nv ns false) {n : Nat} (hn : 5 * r.length + 5 ≤ n) :
    Calls Tryz.prog 137 #[.pointer (some ⟨f.pb, 0, none⟩), .string ⟨#[c]⟩] w (TPost f w nv r (wantM c id (termN f.O n 1200 r ns))) := by
  have hx := ext_box4 w (.cells #[.int .i64 0, .int .i64 0, .string ⟨#[]⟩, .slice none 0 0] 32)
  have HO := Lib.hid h.old
  have HT := Lib.hid (IH r ns nv (w.alloc (.cells #[.int .i64 0, .int .i64 0, .string ⟨#[]⟩, .slice none 0 0] 32)) n 1200 hN (h.ext hx) hn)
  have HZ := Lib.hid (Blk.new w 32 #[.int .i64 0, .int .i64 0, .string ⟨#[]⟩, .slice none 0 0])
  have HC := Lib.hid (clr_box h (Nat.le_refl _) HZ.out.lt)
  have HX := Lib.hid hx
  have HSZ := Lib.hid (World.size_alloc w (.cells #[.int .i64 0, .int .i64 0, .string ⟨#[]⟩, .slice none 0 0] 32))
  have hp : f.pb < w.heap.size := h.blk.lt
  clear h hx hN hn
  go_enter Tryz.func137, Tryz.ntmps137
  go_upto_region 2 with (go_at_call 41; refine HT.out.mono ?_; rintro e W1 ⟨t, A, c1, nv1, r1, ns1, b1, rfl, hres, h1, s1, ht1, hl1⟩; have HRES := Lib.hid hres; have H1 := Lib.hid h1; have S1 := Lib.hid s1; have T1 := Lib.hid ht1; have L1 := Lib.hid hl1; clear hres h1 s1 ht1 hl1)
  have hx1 := ext_box4 W1 (.cells #[.int .i64 (Tm.k t), .int .i64 (Tm.n t), .string (Tm.s t), .slice A (Tm.l t).length c1] 32)
  have H2 := Lib.hid (H1.out.ext hx1)
  have S2 := Lib.hid (S1.out.trans (PStep.ext hx1))
  have T2 := Lib.hid (pstep_tmN (PStep.ext hx1) T1.out)
  have Z2 := Lib.hid ((HZ.out.mods S1.out.mods HC.out.no).ext hx1)
  have C2 := Lib.hid (S2.out.clr HC.out)
  have B2 := Lib.hid (Blk.new W1 32 #[.int .i64 (Tm.k t), .int .i64 (Tm.n t), .string (Tm.s t), .slice A (Tm.l t).length c1])
  have D2 := Lib.hid (clr_box H1.out (Nat.le_refl _) B2.out.lt)
  have hg : w.heap.size < W1.heap.size := by have := S1.out.size; have := HSZ.out; omega
  clear H1 S1 T1 HZ HC HT hx1
  generalize W1.alloc (.cells #[.int .i64 (Tm.k t), .int .i64 (Tm.n t), .string (Tm.s t), .slice A (Tm.l t).length c1] 32) = W2 at *
  have HW := Lib.hid (paWant ⟨#[c]⟩ H2.out)
  rw [isPs_lit] at HW
  go_upto_region 3 with (go_at_call 143; refine HW.out.mono ?_; rintro e W3 ⟨rfl, h3, s3⟩; have H3 := Lib.hid h3; have S3 := Lib.hid s3; clear h3 s3)
  have b3 := B2.out.mods S3.out.mods D2.out.no
  have z3 := Z2.out.mods S3.out.mods C2.out.no
  have k3 := b3.cell
  have zc := z3.cell
  have zf := z3.frozen
  have Z3 := Lib.hid z3
  clear z3 b3
  have S4 := Lib.hid (HX.out)
  go_wp2_with fail
  have kb := blk_set4 Z3.out (.int .i64 (Tm.k t)) (.int .i64 (Tm.n t)) (.string (Tm.s t)) (.slice A (Tm.l t).length c1)
  have kc := kb.cell
  have h7 := H3.out.set4 HO.out (Nat.le_refl _) Z3.out (.int .i64 (Tm.k t)) (.int .i64 (Tm.n t)) (.string (Tm.s t)) (.slice A (Tm.l t).length c1)
  have s7 := pstep_set4 ((PStep.ext (S := f.S) (nv := nv) HX.out).trans (S2.out.trans S3.out)) (Nat.le_refl _) (.int .i64 (Tm.k t)) (.int .i64 (Tm.n t)) (.string (Tm.s t)) (.slice A (Tm.l t).length c1)
  have t7 := tmN_wide (w := w) (tmN_set4 (pstep_tmN S3.out T2.out) (z := w.heap.size) (by rw [HSZ.out]; omega) (.int .i64 (Tm.k t)) (.int .i64 (Tm.n t)) (.string (Tm.s t)) (.slice A (Tm.l t).length c1)) HX.out.size
  refine bodyPost_ret (v := .agg #[.int .i64 (Tm.k t), .int .i64 (Tm.n t), .string (Tm.s t), .slice A (Tm.l t).length c1]) ?_ rfl ⟨t, A, c1, nv1, _, _, _, rfl, want_res (c := c) (g := id) HRES.out, h7, s7, t7, Nat.le_trans (tail_le _ _) L1.out⟩
  simp [results, Tryz.results137, go_sem, kc]
end Go.Proofs.YtgcdhffeacdegaaGreatDoor

/- Layer 10, the program: what slices.Backward hands back, as an iterator. -/
namespace Go.Proofs.YtgcdhffeacdegaaGreatDoor
open Go.RowKit Go.El Go.Shelf
attribute [local go_sem] Oper.semAt_some

theorem tm_cells4 {w : World} {A : Option Addr} {M : List TmP} (h : El.Src w A M.length 4 (flat tmC M)) {k : Nat} {p : TmP} (hk : M[k]? = some p) : ∃ b off, A = some ⟨b, off, none⟩ ∧ w.cell? ⟨b, off + k * 4, none⟩ = some (.int .i64 (Tm.k p.1)) ∧ w.cell? ⟨b, off + k * 4 + 1, none⟩ = some (.int .i64 (Tm.n p.1)) ∧ w.cell? ⟨b, off + k * 4 + 2, none⟩ = some (.string (Tm.s p.1)) ∧ w.cell? ⟨b, off + k * 4 + 3, none⟩ = some (.slice p.2.1 (Tm.l p.1).length p.2.2) := by
  have hlt : k < M.length := (List.getElem?_eq_some_iff.1 hk).1
  obtain ⟨b, off, rfl, hc⟩ := El.Src.form h (by omega) (by omega)
  refine ⟨b, off, rfl, ?_, ?_, ?_, ?_⟩
  · exact hc (k * 4) _ (flat_at tmC_len M k 0 p hk (by omega))
  · exact hc (k * 4 + 1) _ (flat_at tmC_len M k 1 p hk (by omega))
  · exact hc (k * 4 + 2) _ (flat_at tmC_len M k 2 p hk (by omega))
  · exact hc (k * 4 + 3) _ (flat_at tmC_len M k 3 p hk (by omega))
theorem bkTake {M : List TmP} {k i : Nat} (h : k + i + 1 = M.length) : ∃ p, M[i]? = some p ∧ p ∈ M ∧ M.reverse.take (k + 1) = M.reverse.take k ++ [p] := by
  have hi : i < M.length := by omega
  refine ⟨M[i], List.getElem?_eq_getElem hi, List.getElem_mem hi, ?_⟩
  rw [List.take_add_one, List.getElem?_reverse (by omega)]
  have : M.length - 1 - k = i := by omega
  rw [this, List.getElem?_eq_getElem hi]
  rfl
/-- What an iterator over terms hands over: a place and a term. -/
abbrev BkX (M : List TmP) := { x : Nat × TmP // x.2 ∈ M }
def bkE {M : List TmP} (x : BkX M) : Array Value := #[.int .i64 (x.1.1 : Int), .agg #[.int .i64 (Tm.k x.1.2.1), .int .i64 (Tm.n x.1.2.1), .string (Tm.s x.1.2.1), .slice x.1.2.2.1 (Tm.l x.1.2.1).length x.1.2.2.2]]
def bkP {M : List TmP} (x : BkX M) : TmP := x.1.2
/-- What a round keeps: what lay below n, and a cell. -/
def KeepB (n₀ Bn : Nat) (W W' : World) : Prop := Below n₀ W W' ∧ ∀ v, W.cell? ⟨Bn, 0, none⟩ = some v → W'.cell? ⟨Bn, 0, none⟩ = some v
theorem KeepB.trans {n₀ Bn : Nat} {A B C : World} (h : KeepB n₀ Bn A B) (k : KeepB n₀ Bn B C) : KeepB n₀ Bn A C := ⟨h.1.trans k.1, fun v hv => k.2 v (h.2 v hv)⟩
theorem KeepB.refl (n₀ Bn : Nat) (W : World) : KeepB n₀ Bn W W := ⟨Below.refl _ _, fun _ h => h⟩
theorem src_below {n₀ : Nat} {A : Option Addr} {m k : Nat} {xs : List Value} {w W : World} (h : El.Src w A m k xs) (hA : ∀ a, A = some a → a.block < n₀) (hb : Below n₀ w W) : El.Src W A m k xs :=
  ⟨h.1, fun hm => let ⟨a, ha, hc⟩ := h.2 hm; ⟨a, ha, fun j u hu => (hb.cell (p := a.add j) (by have := hA a ha; unfold Addr.add; split <;> exact this)).trans (hc j u hu)⟩⟩

set_option maxRecDepth 100000 in
set_option maxHeartbeats 4000000 in
theorem bk1_in (F : Fence) (n : Nat) (hf : F.fn 203) (hro : F.round = none) (hn : 1 ≤ n) (l Bn n₀ : Nat) (A : Option Addr) (c : Nat) (M : List TmP) (hl : M.length ≤ 70000) (J Jx : List (BkX M) → World → Prop)
    (hY : ∀ pre x W, J pre W → pre.length < M.length → YieldAt F (n - 1) Tryz.prog l (bkE x) W fun e W' =>
      (e = .returned (.bool true) ∧ J (pre ++ [x]) W' ∧ KeepB n₀ Bn W W') ∨ (e = .returned (.bool false) ∧ Jx (pre ++ [x]) W'))
    (W : World) (hBn : W.cell? ⟨Bn, 0, none⟩ = some (.slice A M.length c)) (hS : El.Src W A M.length 4 (flat tmC M)) (hA : ∀ a, A = some a → a.block < n₀) (h0 : J [] W) :
    CallsIn F n Tryz.prog 203 #[.func (.yield l) #[] #[], .pointer (some ⟨Bn, 0, none⟩)] W fun e W' => (∃ v, e = .returned v) ∧
      ((∃ ys, ys.map bkP = M.reverse ∧ J ys W') ∨ (∃ pre : List (BkX M), True ∧ Jx pre W')) := by
  refine callsIn_of_wp Tryz.func203 rfl hf ?_ hro
  simp only [Tryz.ntmps203, List.size_toArray, List.length_cons, List.length_nil, Nat.reduceAdd, Nat.reduceSub, Array.replicate_succ, Array.replicate_zero, List.push_toArray, List.append_toArray, List.nil_append, List.cons_append]
  gi_wp2
  gi_loopw [3] (fun i wr => ∃ (pre : List (BkX M)), i = .int .i64 ((M.length : Int) - 1 - pre.length) ∧ pre.length ≤ M.length ∧ pre.map bkP = M.reverse.take pre.length ∧ J pre wr ∧ KeepB n₀ Bn W wr)
    (fun i _ => (intOf i + 1).toNat)
  case atStart => exact ⟨[], by simp, by simp, by simp, h0, KeepB.refl _ _ _⟩
  case round =>
    obtain ⟨pre, rfl, hpl, hpm, hJs, hK⟩ := hrel
    by_cases hlt : pre.length < M.length
    · obtain ⟨i, hi⟩ : ∃ i, pre.length + i + 1 = M.length := ⟨M.length - 1 - pre.length, by omega⟩
      obtain ⟨p, hp, hpM, htk⟩ := bkTake hi
      have hii : ((M.length : Int) - 1 - pre.length) = (i : Int) := by omega
      rw [hii]
      obtain ⟨fn, tmps, assign, body, hy, hR⟩ := hY pre ⟨(i, p), hpM⟩ wr hJs hlt
      dsimp only [bkE] at hy
      have hB := hK.2 _ hBn
      obtain ⟨b, off, rfl, d0, d1, d2, d3⟩ := tm_cells4 (src_below hS hA hK.1) hp
      have hq1 : (i : Int) < (M.length : Int) := by omega
      have HK := Lib.hid hK
      have HPM := Lib.hid hpm
      have HTK := Lib.hid htk
      have HI := Lib.hid hi
      have HPL := Lib.hid hpl
      have HHI := Lib.hid hii
      clear hY hK hpm htk hi hpl hii hS hA hBn hp
      gi_wp2
      refine hR.mono ?_
      rintro e W3 (⟨rfl, hJ3, hk3⟩ | ⟨rfl, hJx3⟩)
      · gi_wp2
        go_roundw
        case rel => exact ⟨pre ++ [⟨(i, p), hpM⟩], by have := HI.out; simp; omega, by have := HI.out; simp; omega, by rw [List.map_append, HPM.out, List.length_append, List.length_singleton, HTK.out]; rfl, hJ3, HK.out.trans hk3⟩
        case measure => simp [intOf]
      · gi_wp2
        refine bodyPost_ret (results_none rfl _ _ _) rfl ?_
        exact ⟨⟨_, rfl⟩, .inr ⟨_, trivial, hJx3⟩⟩
    · have hpe : pre.length = M.length := by omega
      have hii : ((M.length : Int) - 1 - pre.length) = -1 := by omega
      rw [hii]
      gi_wp2
      go_end0
      refine ⟨⟨_, rfl⟩, .inl ⟨pre, ?_, hJs⟩⟩
      rw [hpm, hpe, ← List.length_reverse, List.take_length]

/-- What slices.Backward's value gives. -/
theorem bk_stops (F : Fence) (n : Nat) (hf : F.fn 203) (hro : F.round = none) (hn : 1 ≤ n) (Bn n₀ : Nat) (A : Option Addr) (c : Nat) (M : List TmP) (hl : M.length ≤ 70000) (w : World) (hBl : Bn < w.heap.size)
    (hBn : w.cell? ⟨Bn, 0, none⟩ = some (.slice A M.length c)) (hS : El.Src w A M.length 4 (flat tmC M)) (hA : ∀ a, A = some a → a.block < n₀) :
    SeqStopsK F n Tryz.prog 203 #[.pointer (some ⟨Bn, 0, none⟩)] (bkE (M := M)) (KeepB n₀ Bn) (fun ys => ys.map bkP = M.reverse) (fun _ => True) M.length w := fun l J Jx W hW _ _ hY h0 =>
  bk1_in F n hf hro hn l Bn n₀ A c M hl J Jx hY W ((hW.cell (p := ⟨Bn, 0, none⟩) hBl).trans hBn) (hS.ext hW) hA h0

set_option maxHeartbeats 1000000 in
theorem bk_in (F : Fence) (n : Nat) (hf : F.fn 187) (hro : F.round = none) (A : Option Addr) (len c : Nat) (w : World) :
    CallsIn F n Tryz.prog 187 #[.slice A len c] w fun e w' => e = .returned (.func (.func 203) #[] #[.pointer (some ⟨w.heap.size, 0, none⟩)]) ∧ w' = w.alloc (.cells #[.slice A len c] 30) := by
  refine callsIn_of_wp Tryz.func187 rfl hf ?_ hro
  simp only [Tryz.ntmps187, List.size_toArray, List.length_cons, List.length_nil, Nat.reduceAdd, Nat.reduceSub, Array.replicate_succ, Array.replicate_zero, List.push_toArray, List.append_toArray, List.nil_append, List.cons_append]
  gi_wp2
  go_ret
  exact ⟨rfl, rfl⟩
end Go.Proofs.YtgcdhffeacdegaaGreatDoor
