/- Layer 10, the reference: the walk of Clause. -/
import Derived.Test.YtgcdhffeacdegaaGreatDoorC50
import Derived.Test.YtgcdhffeacdegaaGreatDoorC36
namespace Go.Proofs.YtgcdhffeacdegaaGreatDoor
open Go.RowKit Go.El

def newRF (W : World) (A : Option Addr) (c : Nat) (L : List TokV) (I Q T : List OpV) (tb : Nat) (tv : Value) : RF := ⟨W.heap.size, A, c, L, I, Q, T, tb, tv⟩
def newRP (A : Option Addr) (c n tb : Nat) : Array Value := #[.slice A n c, .int .i64 0, .pointer (some ⟨tb, 0, none⟩), .slice none 0 0, .bool false]
def newRW (W : World) (A : Option Addr) (c n tb : Nat) : World := W.alloc (.cells (newRP A c n tb) 87)
theorem newRW_ext (W : World) (A : Option Addr) (c n tb : Nat) : Ext W (newRW W A c n tb) := (Ext.refl W).alloc _
theorem RaAt.start {X W : World} {A : Option Addr} {c : Nat} {L : List TokV} {I Q T : List OpV} {tb : Nat} {tv : Value} (hg : GathT X W (.slice A L.length c) L) (hL : ToksOk L) (hr : RefAt 70 W tb tv T) (hf : ∀ s, findR s false T = findO s I ∧ findR s true T = findO s Q) (hb : ∀ p : OpV, p ∈ I ∨ p ∈ Q → -1000000 ≤ p.p ∧ p.p ≤ 1000000) :
    RaAt (newRF W A c L I Q T tb tv) (newRW W A c L.length tb) L (.slice none 0 0) [] false := by
  have hx := newRW_ext W A c L.length tb
  have hsz : (newRW W A c L.length tb).heap.size = W.heap.size + 1 := by simp [newRW]
  have hclr : ∀ k, k < W.heap.size → Clr2 (newRF W A c L I Q T tb tv).S (.slice none 0 0) (newRW W A c L.length tb) k := fun k hk =>
    ⟨by simp [RF.S, newRF]; omega, by simp [Value.ownBlock], by rw [hsz]; omega⟩
  have hne : L ≠ [] := by
    obtain ⟨M, E, e, _⟩ := hL.fin
    simp [e]
  have hbk : Blk (newRW W A c L.length tb) W.heap.size 87 (newRP A c L.length tb) := Blk.new W 87 (newRP A c L.length tb)
  have hpl : plI L L = 0 := by simp [plI]
  have hA : ∀ a, A = some a → a.block < W.heap.size := fun a ha => own_lt hg.own (by rw [ha]; rfl)
  refine ⟨?_, World.ownsRow_nil _ _ _ _, (Src.of_own hg.own).ext hx, hL, List.suffix_rfl, hne, hr.ext hx, hclr _ (cell_lt hr.cell), fun b hb => hclr _ (own_lt hr.own hb), hf, hb, fun a ha => hclr _ (hA a ha), by simp [Value.ownBlock], by simp [newRF], own_cap hg.own⟩
  show Blk _ _ _ (raA (newRF W A c L I Q T tb tv) L (.slice none 0 0) false)
  unfold raA
  simp only [newRF, hpl]
  exact hbk
/-- What the tokens of a clause come to. -/
def clX (O : Ops) (x : Except (Nat × Int) (List TokV × Nat)) : ReadV × Int × Int := match x with
  | .error (e, x) => (zeroR, e, x)
  | .ok (l, e) => readT O l e
theorem clX_eq (O : Ops) (B : List UInt8) (i : Nat) : clauseS O B i = clX O (ctoks B i) := rfl
/-- Does a row of tokens end? -/
def lastEnd (l : List TokV) : Bool := match l.getLast? with
  | some t => decide (t.kind = 6)
  | none => false
theorem lastEnd_snoc {l : List TokV} {t : TokV} : lastEnd (l ++ [t]) = true ↔ t.kind = 6 := by simp [lastEnd]

set_option maxRecDepth 100000 in
set_option maxHeartbeats 16000000 in
theorem rClause_any {A : Option Addr} {cap : Nat} {B : List UInt8} {i tb : Nat} {w : World} (h : BytesAt w A B) (hi : i ≤ B.length) (hB : B.length ≤ 65536) (hcap : B.length ≤ cap) {I Q T : List OpV} {tv : Value} (hr : RefAt 70 w tb tv T) (hf : ∀ s, findR s false T = findO s I ∧ findR s true T = findO s Q) (hbd : ∀ p : OpV, p ∈ I ∨ p ∈ Q → -1000000 ≤ p.p ∧ p.p ≤ 1000000) :
    Calls Tryz.prog 15 #[.slice A B.length cap, .int .i64 (i : Int), .pointer (some ⟨tb, 0, none⟩)] w (ClPost w (clauseS ⟨fun s => findO s I, fun s => findO s Q⟩ B i)) := by
  obtain ⟨i1, hi1, hz0, hz1, hz2⟩ := infoP tokInfo
  rw [clX_eq]
  obtain ⟨P, hP⟩ : ∃ P, (⟨fun s => findO s I, fun s => findO s Q⟩ : Ops) = P := ⟨_, rfl⟩
  have HP := Lib.hid hP
  rw [hP]
  obtain ⟨X, hX⟩ : ∃ X, ctoks B i = X := ⟨_, rfl⟩
  rw [hX]
  have HXX := Lib.hid hX
  have hxx := ext_box4 w (.cells #[.int .i64 0, .int .i64 0, .string ⟨#[]⟩, .slice none 0 0, .slice none 0 0, .int .i64 0] 35)
  have H := Lib.hid (h.ext hxx)
  have HX := Lib.hid hxx
  have HRF := Lib.hid (hr.ext hxx)
  have HFN := Lib.hid hf
  have HBD := Lib.hid hbd
  have HZ := Lib.hid (Blk.new w 35 #[.int .i64 0, .int .i64 0, .string ⟨#[]⟩, .slice none 0 0, .slice none 0 0, .int .i64 0])
  have HSZ := Lib.hid (World.size_alloc w (.cells #[.int .i64 0, .int .i64 0, .string ⟨#[]⟩, .slice none 0 0, .slice none 0 0, .int .i64 0] 35))
  have HCT : Hid (ctoksN (B.length + 1 - i) B i [] = X) := Lib.hid hX
  have hzr := zeroRead
  clear h hxx hr hf hbd hX hP
  go_enter Tryz.func15, Tryz.ntmps15
  go_upto_region 1 with fail
  generalize w.alloc (.cells #[.int .i64 0, .int .i64 0, .string ⟨#[]⟩, .slice none 0 0, .slice none 0 0, .int .i64 0] 35) = W0 at *
  go_wp2_with fail
  go_loopw [1, 9] (fun i v wr => ∃ k : Nat, ∃ acc : List TokV, k ≤ B.length ∧ acc.length ≤ k ∧ i = .int .i64 k ∧ Hid (GathT W0 wr v acc) ∧ Hid ((lastEnd acc = true → X = .ok (acc, k)) ∧ (lastEnd acc = false → ctoksN (B.length + 1 - k) B k acc = X))) (fun i _ _ => B.length - (intOf i).toNat)
  case atStart => exact ⟨i, [], hi, Nat.zero_le _, rfl, Lib.hid (GathT.start W0), Lib.hid ⟨fun e => by (cases e), fun _ => HCT.out⟩⟩
  case round =>
    obtain ⟨k, acc, hk, hak, rfl, HG, HS⟩ := hrel
    obtain ⟨A1, c1, rfl⟩ := own_value HG.out.own
    by_cases hac : acc = []
    · have HAP := Lib.hid hac
      have e0 : ((acc.length : Int) == 0) = true := by rw [hac]; rfl
      have e1 : ¬ ((0 : Int) < (acc.length : Int)) := by rw [hac]; simp
      have HSS := Lib.hid (HS.out.2 (by rw [hac]; rfl))
      clear HS hac
      have HS := HSS
      clear HSS
      have h5 := scanS_err5 B k
      have hst := scanS_step (B := B) (i := k)
      have hle := scanS_le hk
      obtain ⟨t, e, x, hsc⟩ : ∃ t e x, scanS B k = (t, e, x) := ⟨_, _, _, rfl⟩
      have HC := Lib.hid (rScan_at hsc A cap wr (H.out.ext HG.out.ext) hk hB hcap)
      have HXS := Lib.hid (ctoks_step hk HS.out hsc)
      rw [hsc] at h5 hst hle
      simp only at h5 hst hle
      clear hsc
      rcases h5 with rfl | rfl | rfl | rfl | rfl
      · obtain ⟨he1, he2⟩ := hst rfl
        clear hst
        have hX2 : X = if t.kind = 6 then .ok (acc ++ [t], e) else ctoksN (B.length + 1 - e) B e (acc ++ [t]) := HXS.out.trans ((if_neg (fun h => absurd h.1 (by decide))).trans (if_neg (by decide)))
        have HX2 := Lib.hid hX2
        clear hX2
        go_wp2_with (first | (go_at_call 44; refine HC.out.mono ?_; rintro e1 w' ⟨rfl, hx⟩; have kx := Lib.hid hx; clear hx) | (at_builtin; refine wpList_append_src (P := Tryz.prog) rfl _ _ 51 rfl 55 i1 _ 5 48 Tryz.underlying51 hi1 hz0 hz1 hz2 rfl (by omega) _ rfl _ _ _ rfl acc.length (flat tokCells acc) (own_ext HG.out.own ((kx.out.alloc _).alloc _)) (tokCells t) (src_new2 _ _ t) (tokCells_one t) (by unfold maxLen; omega) (by omega) ?_; intro v3 w3 ho3 hm3 hb3; have hG3 := Lib.hid (GathT.step HG.out ((kx.out.alloc _).alloc _) ho3 hm3 hb3); obtain ⟨A3, c3, rfl⟩ := own_value ho3; clear ho3 hm3 hb3))
        go_roundw
        case rel => exact ⟨e, acc ++ [t], he2, by simp; omega, rfl, by have := hG3.out; simpa using Lib.hid this, Lib.hid ⟨fun hl => by have := HX2.out; rw [if_pos (lastEnd_snoc.1 hl)] at this; exact this, fun hl => by have := HX2.out; rw [if_neg (fun h => by rw [lastEnd_snoc.2 h] at hl; cases hl)] at this; exact this.symm⟩⟩
        case measure => simp [intOf]; omega
      · have hX2 : X = .error (e, 3) := HXS.out.trans ((if_neg (fun h => absurd h.1 (by decide))).trans (if_pos (by decide)))
        clear hst HXS HS HAP
        have hXe : clX P X = (zeroR, (e : Int), 3) := by rw [hX2]; rfl
        go_wp2_with (go_at_call 44; refine HC.out.mono ?_; rintro e1 w' ⟨rfl, hx⟩; have XT := Lib.hid ((HG.out.ext.trans hx).alloc (.cells #[.int .i64 t.kind, .string t.s, .int .i64 t.n, .int .i64 t.at_, .bool t.lay] 55)); have Z9 := Lib.hid (HZ.out.ext XT.out); have zc := Z9.out.cell; have zf := Z9.out.frozen; have X9 := Lib.hid (HX.out.trans XT.out); clear hx)
        have kb := blk_set6 Z9.out (.int .i64 0) (.int .i64 0) (.string ⟨#[]⟩) (.slice none 0 0) (.slice none 0 0) (.int .i64 0)
        have kc := kb.cell
        refine bodyPost_ret (v := .tuple #[.agg #[.int .i64 0, .int .i64 0, .string ⟨#[]⟩, .slice none 0 0, .slice none 0 0, .int .i64 0], .int .i64 (e : Int), .int .i64 3]) ?_ rfl ⟨_, by rw [hXe], by rw [hXe]; exact ReadAt.zero _ _, (ext_set6 X9.out (Nat.le_refl _) _ _ _ _ _ _)⟩
        simp [results, Tryz.results15, go_sem, kc]
      · have hX2 : X = .error (e, 4) := HXS.out.trans ((if_neg (fun h => h.2 HAP.out)).trans (if_pos (by decide)))
        clear hst HXS HS HAP
        have hXe : clX P X = (zeroR, (e : Int), 4) := by rw [hX2]; rfl
        go_wp2_with (go_at_call 44; refine HC.out.mono ?_; rintro e1 w' ⟨rfl, hx⟩; have XT := Lib.hid ((HG.out.ext.trans hx).alloc (.cells #[.int .i64 t.kind, .string t.s, .int .i64 t.n, .int .i64 t.at_, .bool t.lay] 55)); have Z9 := Lib.hid (HZ.out.ext XT.out); have zc := Z9.out.cell; have zf := Z9.out.frozen; have X9 := Lib.hid (HX.out.trans XT.out); clear hx)
        have kb := blk_set6 Z9.out (.int .i64 0) (.int .i64 0) (.string ⟨#[]⟩) (.slice none 0 0) (.slice none 0 0) (.int .i64 0)
        have kc := kb.cell
        refine bodyPost_ret (v := .tuple #[.agg #[.int .i64 0, .int .i64 0, .string ⟨#[]⟩, .slice none 0 0, .slice none 0 0, .int .i64 0], .int .i64 (e : Int), .int .i64 4]) ?_ rfl ⟨_, by rw [hXe], by rw [hXe]; exact ReadAt.zero _ _, (ext_set6 X9.out (Nat.le_refl _) _ _ _ _ _ _)⟩
        simp [results, Tryz.results15, go_sem, kc]
      · have hX2 : X = .error (e, 80) := HXS.out.trans ((if_neg (fun h => absurd h.1 (by decide))).trans (if_pos (by decide)))
        clear hst HXS HS HAP
        have hXe : clX P X = (zeroR, (e : Int), 80) := by rw [hX2]; rfl
        go_wp2_with (go_at_call 44; refine HC.out.mono ?_; rintro e1 w' ⟨rfl, hx⟩; have XT := Lib.hid ((HG.out.ext.trans hx).alloc (.cells #[.int .i64 t.kind, .string t.s, .int .i64 t.n, .int .i64 t.at_, .bool t.lay] 55)); have Z9 := Lib.hid (HZ.out.ext XT.out); have zc := Z9.out.cell; have zf := Z9.out.frozen; have X9 := Lib.hid (HX.out.trans XT.out); clear hx)
        have kb := blk_set6 Z9.out (.int .i64 0) (.int .i64 0) (.string ⟨#[]⟩) (.slice none 0 0) (.slice none 0 0) (.int .i64 0)
        have kc := kb.cell
        refine bodyPost_ret (v := .tuple #[.agg #[.int .i64 0, .int .i64 0, .string ⟨#[]⟩, .slice none 0 0, .slice none 0 0, .int .i64 0], .int .i64 (e : Int), .int .i64 80]) ?_ rfl ⟨_, by rw [hXe], by rw [hXe]; exact ReadAt.zero _ _, (ext_set6 X9.out (Nat.le_refl _) _ _ _ _ _ _)⟩
        simp [results, Tryz.results15, go_sem, kc]
      · have hX2 : X = .error (e, 81) := HXS.out.trans ((if_neg (fun h => absurd h.1 (by decide))).trans (if_pos (by decide)))
        clear hst HXS HS HAP
        have hXe : clX P X = (zeroR, (e : Int), 81) := by rw [hX2]; rfl
        go_wp2_with (go_at_call 44; refine HC.out.mono ?_; rintro e1 w' ⟨rfl, hx⟩; have XT := Lib.hid ((HG.out.ext.trans hx).alloc (.cells #[.int .i64 t.kind, .string t.s, .int .i64 t.n, .int .i64 t.at_, .bool t.lay] 55)); have Z9 := Lib.hid (HZ.out.ext XT.out); have zc := Z9.out.cell; have zf := Z9.out.frozen; have X9 := Lib.hid (HX.out.trans XT.out); clear hx)
        have kb := blk_set6 Z9.out (.int .i64 0) (.int .i64 0) (.string ⟨#[]⟩) (.slice none 0 0) (.slice none 0 0) (.int .i64 0)
        have kc := kb.cell
        refine bodyPost_ret (v := .tuple #[.agg #[.int .i64 0, .int .i64 0, .string ⟨#[]⟩, .slice none 0 0, .slice none 0 0, .int .i64 0], .int .i64 (e : Int), .int .i64 81]) ?_ rfl ⟨_, by rw [hXe], by rw [hXe]; exact ReadAt.zero _ _, (ext_set6 X9.out (Nat.le_refl _) _ _ _ _ _ _)⟩
        simp [results, Tryz.results15, go_sem, kc]
    · have HAP := Lib.hid hac
      have hap : 0 < acc.length := List.length_pos_iff.2 hac
      obtain ⟨tl, htl⟩ : ∃ tl, acc.getLast? = some tl := ⟨acc.getLast hac, List.getLast?_eq_some_getLast hac⟩
      have hgl : acc[acc.length - 1]? = some tl := by rw [← List.getLast?_eq_getElem?]; exact htl
      have hle : lastEnd acc = decide (tl.kind = 6) := by unfold lastEnd; rw [htl]
      obtain ⟨b0, off0, rfl, d0, _, _, _, _⟩ := tok_cells (Src.of_own HG.out.own) hgl
      have e0 : ((acc.length : Int) == 0) = false := by rw [beq_eq_false_iff_ne]; omega
      have e1 : (0 : Int) < (acc.length : Int) := by omega
      have q0 : (0 : Int) ≤ (acc.length : Int) - 1 := by omega
      have q1 : (acc.length : Int) - 1 < (acc.length : Int) := by omega
      have q2 : ((acc.length : Int) - 1).toNat = acc.length - 1 := by omega
      have q3 : IntKind.i64.wrap ((acc.length : Int) - 1) = (acc.length : Int) - 1 := IntWalk.i64_in _ (by omega)
      clear hac htl hgl
      by_cases h6 : tl.kind = 6
      · rw [h6] at d0
        have hle6 : lastEnd acc = true := by rw [hle]; exact decide_eq_true h6
        have hap2 := hap
        clear h6 hle e1
        go_upto_region 10 with fail
        clear d0 q0 q1 q2 q3 e0
        obtain ⟨A1, hA1e⟩ : ∃ A1 : Option Addr, A1 = some ⟨b0, off0, none⟩ := ⟨_, rfl⟩
        rw [← hA1e] at HG ⊢
        clear hA1e
        have hX2 : X = .ok (acc, k) := HS.out.1 hle6
        have HXK := Lib.hid hX2
        obtain ⟨hL, hkB, _⟩ := ctoks_ok hi hB (HXX.out.trans hX2)
        have HLK := Lib.hid hL
        have HRX := Lib.hid (show readT P acc k = clX P X from by rw [hX2]; rfl)
        clear hX2 hL hle6
        obtain ⟨W1, rfl⟩ : ∃ W1 : World, W1 = wr := ⟨_, rfl⟩
        obtain ⟨l, rfl⟩ : ∃ l, l = acc := ⟨_, rfl⟩
        have G1 := HG
        have X1 := Lib.hid (HX.out.trans G1.out.ext)
        have hra := RaAt.start G1.out HLK.out (HRF.out.ext G1.out.ext) HFN.out HBD.out
        have H2 := Lib.hid hra
        have HT2 := Lib.hid (show Calls Tryz.prog 45 #[.pointer (some ⟨W1.heap.size, 0, none⟩), .int .i64 1200] (W1.alloc (.cells #[.slice A1 l.length c1, .int .i64 0, .pointer (some ⟨tb, 0, none⟩), .slice none 0 0, .bool false] 87)) (RTPost (newRF W1 A1 c1 l I Q T tb tv) (newRW W1 A1 c1 l.length tb) (.slice none 0 0) l (termN P (5 * l.length + 5) 1200 l [])) from by
          rw [← HP.out]
          exact raTerm l.length l [] (.slice none 0 0) _ (5 * l.length + 5) 1200 (Nat.le_refl _) hra (Nat.le_refl _))
        clear hra
        go_upto_region 11 with fail
        go_upto_region 12 with (go_at_call 45; refine HT2.out.mono ?_; rintro e W3 ⟨t, A3, c3, nv3, q, ns, b3, rfl, hres, h3, s3, ht3, hl3⟩; have HRES := Lib.hid hres; have H3 := Lib.hid h3; have S3 := Lib.hid s3; have T3 := Lib.hid ht3; clear hres h3 s3 ht3 hl3)
        have hx4 := ext_box4 W3 (.cells #[.int .i64 (Tm.k t), .int .i64 (Tm.n t), .string (Tm.s t), .slice A3 (Tm.l t).length c3] 32)
        have H4 := Lib.hid (H3.out.ext hx4)
        have hwl : w.heap.size < W1.heap.size := by have := G1.out.ext.size; rw [HSZ.out] at this; omega
        have hw2 : (newRW W1 A1 c1 l.length tb).heap.size = W1.heap.size + 1 := by simp [newRW]
        have X3 : Hid (Ext w W3) := Lib.hid (ext_mods (X1.out.trans (newRW_ext W1 A1 c1 l.length tb)) S3.out.mods (fun k hk => by simp [RF.S, newRF, ownL, Value.ownBlock] at hk; omega))
        have X4 := Lib.hid (X3.out.trans hx4)
        have Z4 := Lib.hid ((((HZ.out.ext G1.out.ext).ext (newRW_ext W1 A1 c1 l.length tb)).mods S3.out.mods (by simp [RF.S, newRF, ownL, Value.ownBlock]; omega)).ext hx4)
        have BT := Lib.hid (Blk.new W3 32 #[.int .i64 (Tm.k t), .int .i64 (Tm.n t), .string (Tm.s t), .slice A3 (Tm.l t).length c3])
        have T4 := Lib.hid (T3.out.ext hx4)
        have hs3 := S3.out.size
        have G4 : Hid (W3.heap.size < (W3.alloc (.cells #[.int .i64 (Tm.k t), .int .i64 (Tm.n t), .string (Tm.s t), .slice A3 (Tm.l t).length c3] 32)).heap.size) := Lib.hid BT.out.lt
        have hwl2 : W1.heap.size < W3.heap.size := by omega
        generalize W3.alloc (.cells #[.int .i64 (Tm.k t), .int .i64 (Tm.n t), .string (Tm.s t), .slice A3 (Tm.l t).length c3] 32) = W4 at *
        obtain ⟨t0, q2, hq⟩ := ToksOk.ne H4.out.suf H4.out.nil
        obtain ⟨b, off, hA1, d0, _, _, d3, _⟩ := ra_here H4.out hq
        have hA1' : A1 = some ⟨b, off, none⟩ := hA1
        subst hA1'
        have hlt : plI l q < l.length := plI_lt H4.out.suf H4.out.nil
        have hLL : l.length ≤ 65537 := HLK.out.len
        have p0 : W4.cell? ⟨W1.heap.size, 0, none⟩ = some (.slice (some ⟨b, off, none⟩) l.length c1) := H4.out.cells.c0
        have p1 : W4.cell? ⟨W1.heap.size, 1, none⟩ = some (.int .i64 (plI l q : Int)) := H4.out.cells.c1
        have p4 : W4.cell? ⟨W1.heap.size, 4, none⟩ = some (.bool b3) := H4.out.cells.c4
        have p3 : W4.cell? ⟨W1.heap.size, 3, none⟩ = some nv3 := H4.out.cells.c3
        have hha : headA q = t0.at_ := by rw [hq]; rfl
        have HQ := Lib.hid hq
        have hb1 : ¬ b = w.heap.size := by have := G1.out.far b rfl; rw [HSZ.out] at this; omega
        have hb2 : ¬ w.heap.size = b := fun e => hb1 e.symm
        have hb3 : ¬ W1.heap.size = w.heap.size := by omega
        have hb4 : ¬ w.heap.size = W1.heap.size := by omega
        have d0 : W4.cell? ⟨b, off + plI l q * 5, none⟩ = some (.int .i64 t0.kind) := d0
        have d3 : W4.cell? ⟨b, off + plI l q * 5 + 3, none⟩ = some (.int .i64 t0.at_) := d3
        generalize plI l q = pl at *
        have hq1 : (pl : Int) < (l.length : Int) := by omega
        clear hq hx4 hA1 HT2 H2
        cases b3 with
        | true =>
          have hXe : clX P X = (zeroR, t0.at_, 100) := by rw [← HRX.out, read_bad HRES.out, hha]
          clear hha
          go_quiet (fail)
          go_upto_region 13 with fail
          have hxd := (Ext.refl W4).drewN nq
          have Z5 := Lib.hid (Z4.out.ext hxd)
          have X5 := Lib.hid (X4.out.trans hxd)
          have r0 := hxd.cell p0
          have r1 := hxd.cell p1
          have r3 := hxd.cell d3
          clear p0 p1 p3 p4 d0 d3
          generalize W4.drewN nq = W5 at *
          have z5c := Z5.out.cell
          have z5f := Z5.out.frozen
          clear hxd
          go_region
          all_goals
            go_wp2_with fail
            have kb := blk_set6 Z5.out (.int .i64 0) (.int .i64 0) (.string ⟨#[]⟩) (.slice none 0 0) (.slice none 0 0) (.int .i64 0)
            have kc := (kb.ext (Ext.refl _).drew).cell
            refine bodyPost_ret (v := .tuple #[.agg #[.int .i64 0, .int .i64 0, .string ⟨#[]⟩, .slice none 0 0, .slice none 0 0, .int .i64 0], .int .i64 t0.at_, .int .i64 100]) ?_ rfl ⟨_, by rw [hXe], by rw [hXe]; exact ReadAt.zero _ _, (ext_set6 X5.out (Nat.le_refl _) _ _ _ _ _ _).drew⟩
            simp [results, Tryz.results15, go_sem, kc]
        | false =>
          have hXf := HRX.out.symm.trans (read_fine HRES.out)
          have hsz := read_sz HRES.out
          have hhd : (q.map TokV.kind).head? = some t0.kind := by rw [HQ.out]; rfl
          rw [hhd, hha] at hXf
          have HCK := fun V (x : Ext W4 V) => Lib.hid (refCheck_any t A3 c3 V _ (T4.out.ext x) (by have := HLK.out.len; omega))
          unfold tmVal at HCK
          clear hha hhd
          by_cases hk6 : t0.kind = 6
          · rw [if_pos (by rw [hk6])] at hXf
            rw [hk6] at d0
            obtain ⟨E0, l2, hl0⟩ : ∃ E0 l2, l = E0 :: l2 := by
              obtain ⟨M, E, e, _⟩ := HLK.out.fin
              cases l with
              | nil => simp at e
              | cons a b => exact ⟨a, b, rfl⟩
            have hla : headA l = E0.at_ := by rw [hl0]; rfl
            obtain ⟨b', off', hA2, _, _, _, g3, _⟩ := tok_cells H4.out.tok (k := 0) (t := E0) (by show l[0]? = some E0; rw [hl0]; rfl)
            have hA2' : (some ⟨b, off, none⟩ : Option Addr) = some ⟨b', off', none⟩ := hA2
            injection hA2' with hA2'
            injection hA2' with e1 e2
            subst e1 e2
            rw [Nat.zero_mul, Nat.add_zero] at g3
            have hll : 0 < l.length := by rw [hl0]; simp
            have hll2 : ¬ ((l.length : Int) ≤ 0) := by omega
            have hll3 : (0 : Int) < (l.length : Int) := by omega
            have HK6 := Lib.hid hk6
            clear hl0 hk6 hA2
            by_cases hck : chkT t = 0
            · rw [if_pos hck] at hXf
              have HXF := Lib.hid hXf
              clear hXf
              rw [hck] at HCK
              obtain ⟨n3, k3, hnv⟩ := own_value H4.out.own
              subst hnv
              have HRD := fun (V : World) (x47 : Ext W4 V) => Lib.hid (ReadAt.put (w := w) (nx := (k : Int)) (T4.out.ext x47) (fun b hb => by have h1 := hb.1; have h2 := hb.2.2.2; have h3 := G4.out; have h4 := x47.size; omega) ((Src.of_own H4.out.own).ext x47) (own_cap H4.out.own) (fun a ha => by
                have h0 : (Value.slice n3 ns.length k3).ownBlock = some a.block := by rw [ha]; rfl
                have h1 := own_lt H4.out.own h0
                have h4 := x47.size
                rcases S3.out.own a.block h0 with h2 | h2
                · simp [Value.ownBlock] at h2
                · omega) (.int .i64 (Tm.k t)) (.int .i64 (Tm.n t)) (.string (Tm.s t)) (.slice A3 (Tm.l t).length c3) (.slice n3 ns.length k3) (.int .i64 (k : Int)))
              go_quiet (fail)
              have bt4 := BT.out.cell
              have hxd := (Ext.refl W4).drewN
              go_upto_region 17 with (go_at_call 27; refine (HCK _ (hxd nq)).out.mono ?_; rintro e W6 ⟨rfl, x6⟩; have X6 := Lib.hid ((hxd nq).trans x6); have bt6 := (BT.out.ext X6.out).cell; have c36 := X6.out.cell p3; have Z6 := Lib.hid (Z4.out.ext X6.out); have z6c := Z6.out.cell; have z6f := Z6.out.frozen; clear x6)
              clear bt4 p0 p1 p4 p3 d0 d3 g3
              go_region
              all_goals
                go_wp2_with fail
                have kb := blk_set6 Z6.out (.int .i64 (Tm.k t)) (.int .i64 (Tm.n t)) (.string (Tm.s t)) (.slice A3 (Tm.l t).length c3) (.slice n3 ns.length k3) (.int .i64 (k : Int))
                have kc := (kb.ext (Ext.refl _).drew).cell
                have x47 := X6.out
                have hrd := (HRD _ x47).out
                refine bodyPost_ret (v := .tuple #[rdV t A3 c3 n3 ns.length k3 (k : Int), .int .i64 (k : Int), .int .i64 0]) ?_ rfl (clpost_ok HXF.out (hrd.ext (Ext.refl _).drew) (ext_set6 (X4.out.trans x47) (Nat.le_refl _) _ _ _ _ _ _).drew)
                simp [results, Tryz.results15, go_sem, kc, rdV]
            · rw [if_neg hck, hla] at hXf
              have HXF := Lib.hid hXf
              have ec : (chkT t != 0) = true := by simpa using hck
              clear hXf hck hla
              generalize chkT t = ct at *
              go_quiet (fail)
              have bt4 := BT.out.cell
              have hxd := (Ext.refl W4).drewN
              go_upto_region 16 with (go_at_call 27; refine (HCK _ (hxd nq)).out.mono ?_; rintro e W6 ⟨rfl, x6⟩; have X6 := Lib.hid ((hxd nq).trans x6); have d36 := X6.out.cell g3; have Z6 := Lib.hid (Z4.out.ext X6.out); have z6c := Z6.out.cell; have z6f := Z6.out.frozen; clear x6)
              clear bt4 p0 p1 p4 p3 d0 d3 g3
              go_region
              all_goals
                go_wp2_with fail
                have X66 := Lib.hid (X4.out.trans X6.out)
                have kb := blk_set6 Z6.out (.int .i64 0) (.int .i64 0) (.string ⟨#[]⟩) (.slice none 0 0) (.slice none 0 0) (.int .i64 0)
                have kc := (kb.ext (Ext.refl _).drew).cell
                refine bodyPost_ret (v := .tuple #[.agg #[.int .i64 0, .int .i64 0, .string ⟨#[]⟩, .slice none 0 0, .slice none 0 0, .int .i64 0], .int .i64 E0.at_, .int .i64 ct]) ?_ rfl ⟨_, by rw [HXF.out], by rw [HXF.out]; exact ReadAt.zero _ _, (ext_set6 X66.out (Nat.le_refl _) _ _ _ _ _ _).drew⟩
                simp [results, Tryz.results15, go_sem, kc]
          · rw [if_neg (by simpa using hk6)] at hXf
            have e6 : (t0.kind != 6) = true := by simpa using hk6
            have HXF := Lib.hid hXf
            clear hXf hk6
            generalize t0.kind = kd at *
            go_quiet (fail)
            go_upto_region 13 with fail
            have hxd := (Ext.refl W4).drewN nq
            have Z5 := Lib.hid (Z4.out.ext hxd)
            have X5 := Lib.hid (X4.out.trans hxd)
            have r0 := hxd.cell p0
            have r1 := hxd.cell p1
            have r3 := hxd.cell d3
            clear p0 p1 p3 p4 d0 d3
            generalize W4.drewN nq = W5 at *
            have z5c := Z5.out.cell
            have z5f := Z5.out.frozen
            clear hxd
            go_region
            all_goals
              go_wp2_with fail
              have kb := blk_set6 Z5.out (.int .i64 0) (.int .i64 0) (.string ⟨#[]⟩) (.slice none 0 0) (.slice none 0 0) (.int .i64 0)
              have kc := (kb.ext (Ext.refl _).drew).cell
              refine bodyPost_ret (v := .tuple #[.agg #[.int .i64 0, .int .i64 0, .string ⟨#[]⟩, .slice none 0 0, .slice none 0 0, .int .i64 0], .int .i64 t0.at_, .int .i64 100]) ?_ rfl ⟨_, by rw [HXF.out], by rw [HXF.out]; exact ReadAt.zero _ _, (ext_set6 X5.out (Nat.le_refl _) _ _ _ _ _ _).drew⟩
              simp [results, Tryz.results15, go_sem, kc]
      · have e6 : (tl.kind != 6) = true := by simpa using h6
        have hle6 : lastEnd acc = false := by rw [hle]; exact decide_eq_false h6
        have HSS := Lib.hid (HS.out.2 hle6)
        clear HS h6 hle hle6
        have HS := HSS
        clear HSS
        generalize tl.kind = kl at *
        have h5 := scanS_err5 B k
        have hst := scanS_step (B := B) (i := k)
        have hle := scanS_le hk
        obtain ⟨t, e, x, hsc⟩ : ∃ t e x, scanS B k = (t, e, x) := ⟨_, _, _, rfl⟩
        have HC := Lib.hid (rScan_at hsc A cap wr (H.out.ext HG.out.ext) hk hB hcap)
        have HXS := Lib.hid (ctoks_step hk HS.out hsc)
        rw [hsc] at h5 hst hle
        simp only at h5 hst hle
        clear hsc
        rcases h5 with rfl | rfl | rfl | rfl | rfl
        · obtain ⟨he1, he2⟩ := hst rfl
          clear hst
          have hX2 : X = if t.kind = 6 then .ok (acc ++ [t], e) else ctoksN (B.length + 1 - e) B e (acc ++ [t]) := HXS.out.trans ((if_neg (fun h => absurd h.1 (by decide))).trans (if_neg (by decide)))
          have HX2 := Lib.hid hX2
          clear hX2
          go_wp2_with (first | (go_at_call 44; refine HC.out.mono ?_; rintro e1 w' ⟨rfl, hx⟩; have kx := Lib.hid hx; clear hx) | (at_builtin; refine wpList_append_src (P := Tryz.prog) rfl _ _ 51 rfl 55 i1 _ 5 48 Tryz.underlying51 hi1 hz0 hz1 hz2 rfl (by omega) _ rfl _ _ _ rfl acc.length (flat tokCells acc) (own_ext HG.out.own ((kx.out.alloc _).alloc _)) (tokCells t) (src_new2 _ _ t) (tokCells_one t) (by unfold maxLen; omega) (by omega) ?_; intro v3 w3 ho3 hm3 hb3; have hG3 := Lib.hid (GathT.step HG.out ((kx.out.alloc _).alloc _) ho3 hm3 hb3); obtain ⟨A3, c3, rfl⟩ := own_value ho3; clear ho3 hm3 hb3))
          go_roundw
          case rel => exact ⟨e, acc ++ [t], he2, by simp; omega, rfl, by have := hG3.out; simpa using Lib.hid this, Lib.hid ⟨fun hl => by have := HX2.out; rw [if_pos (lastEnd_snoc.1 hl)] at this; exact this, fun hl => by have := HX2.out; rw [if_neg (fun h => by rw [lastEnd_snoc.2 h] at hl; cases hl)] at this; exact this.symm⟩⟩
          case measure => simp [intOf]; omega
        · have hX2 : X = .error (e, 3) := HXS.out.trans ((if_neg (fun h => absurd h.1 (by decide))).trans (if_pos (by decide)))
          clear hst HXS HS HAP
          have hXe : clX P X = (zeroR, (e : Int), 3) := by rw [hX2]; rfl
          go_wp2_with (go_at_call 44; refine HC.out.mono ?_; rintro e1 w' ⟨rfl, hx⟩; have XT := Lib.hid ((HG.out.ext.trans hx).alloc (.cells #[.int .i64 t.kind, .string t.s, .int .i64 t.n, .int .i64 t.at_, .bool t.lay] 55)); have Z9 := Lib.hid (HZ.out.ext XT.out); have zc := Z9.out.cell; have zf := Z9.out.frozen; have X9 := Lib.hid (HX.out.trans XT.out); clear hx)
          have kb := blk_set6 Z9.out (.int .i64 0) (.int .i64 0) (.string ⟨#[]⟩) (.slice none 0 0) (.slice none 0 0) (.int .i64 0)
          have kc := kb.cell
          refine bodyPost_ret (v := .tuple #[.agg #[.int .i64 0, .int .i64 0, .string ⟨#[]⟩, .slice none 0 0, .slice none 0 0, .int .i64 0], .int .i64 (e : Int), .int .i64 3]) ?_ rfl ⟨_, by rw [hXe], by rw [hXe]; exact ReadAt.zero _ _, (ext_set6 X9.out (Nat.le_refl _) _ _ _ _ _ _)⟩
          simp [results, Tryz.results15, go_sem, kc]
        · have hX2 : X = .error (e, 101) := HXS.out.trans (if_pos ⟨rfl, HAP.out⟩)
          clear hst HXS HS HAP
          have hXe : clX P X = (zeroR, (e : Int), 101) := by rw [hX2]; rfl
          go_wp2_with (go_at_call 44; refine HC.out.mono ?_; rintro e1 w' ⟨rfl, hx⟩; have XT := Lib.hid ((HG.out.ext.trans hx).alloc (.cells #[.int .i64 t.kind, .string t.s, .int .i64 t.n, .int .i64 t.at_, .bool t.lay] 55)); have Z9 := Lib.hid (HZ.out.ext XT.out); have zc := Z9.out.cell; have zf := Z9.out.frozen; have X9 := Lib.hid (HX.out.trans XT.out); clear hx)
          have kb := blk_set6 Z9.out (.int .i64 0) (.int .i64 0) (.string ⟨#[]⟩) (.slice none 0 0) (.slice none 0 0) (.int .i64 0)
          have kc := kb.cell
          refine bodyPost_ret (v := .tuple #[.agg #[.int .i64 0, .int .i64 0, .string ⟨#[]⟩, .slice none 0 0, .slice none 0 0, .int .i64 0], .int .i64 (e : Int), .int .i64 101]) ?_ rfl ⟨_, by rw [hXe], by rw [hXe]; exact ReadAt.zero _ _, (ext_set6 X9.out (Nat.le_refl _) _ _ _ _ _ _)⟩
          simp [results, Tryz.results15, go_sem, kc]
        · have hX2 : X = .error (e, 80) := HXS.out.trans ((if_neg (fun h => absurd h.1 (by decide))).trans (if_pos (by decide)))
          clear hst HXS HS HAP
          have hXe : clX P X = (zeroR, (e : Int), 80) := by rw [hX2]; rfl
          go_wp2_with (go_at_call 44; refine HC.out.mono ?_; rintro e1 w' ⟨rfl, hx⟩; have XT := Lib.hid ((HG.out.ext.trans hx).alloc (.cells #[.int .i64 t.kind, .string t.s, .int .i64 t.n, .int .i64 t.at_, .bool t.lay] 55)); have Z9 := Lib.hid (HZ.out.ext XT.out); have zc := Z9.out.cell; have zf := Z9.out.frozen; have X9 := Lib.hid (HX.out.trans XT.out); clear hx)
          have kb := blk_set6 Z9.out (.int .i64 0) (.int .i64 0) (.string ⟨#[]⟩) (.slice none 0 0) (.slice none 0 0) (.int .i64 0)
          have kc := kb.cell
          refine bodyPost_ret (v := .tuple #[.agg #[.int .i64 0, .int .i64 0, .string ⟨#[]⟩, .slice none 0 0, .slice none 0 0, .int .i64 0], .int .i64 (e : Int), .int .i64 80]) ?_ rfl ⟨_, by rw [hXe], by rw [hXe]; exact ReadAt.zero _ _, (ext_set6 X9.out (Nat.le_refl _) _ _ _ _ _ _)⟩
          simp [results, Tryz.results15, go_sem, kc]
        · have hX2 : X = .error (e, 81) := HXS.out.trans ((if_neg (fun h => absurd h.1 (by decide))).trans (if_pos (by decide)))
          clear hst HXS HS HAP
          have hXe : clX P X = (zeroR, (e : Int), 81) := by rw [hX2]; rfl
          go_wp2_with (go_at_call 44; refine HC.out.mono ?_; rintro e1 w' ⟨rfl, hx⟩; have XT := Lib.hid ((HG.out.ext.trans hx).alloc (.cells #[.int .i64 t.kind, .string t.s, .int .i64 t.n, .int .i64 t.at_, .bool t.lay] 55)); have Z9 := Lib.hid (HZ.out.ext XT.out); have zc := Z9.out.cell; have zf := Z9.out.frozen; have X9 := Lib.hid (HX.out.trans XT.out); clear hx)
          have kb := blk_set6 Z9.out (.int .i64 0) (.int .i64 0) (.string ⟨#[]⟩) (.slice none 0 0) (.slice none 0 0) (.int .i64 0)
          have kc := kb.cell
          refine bodyPost_ret (v := .tuple #[.agg #[.int .i64 0, .int .i64 0, .string ⟨#[]⟩, .slice none 0 0, .slice none 0 0, .int .i64 0], .int .i64 (e : Int), .int .i64 81]) ?_ rfl ⟨_, by rw [hXe], by rw [hXe]; exact ReadAt.zero _ _, (ext_set6 X9.out (Nat.le_refl _) _ _ _ _ _ _)⟩
          simp [results, Tryz.results15, go_sem, kc]
end Go.Proofs.YtgcdhffeacdegaaGreatDoor
