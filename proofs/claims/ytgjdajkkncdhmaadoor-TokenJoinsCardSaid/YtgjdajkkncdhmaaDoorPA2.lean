/- Layer 8: the walk of TokenLayout. -/
import Derived.Test.YtgjdajkkncdhmaaDoorPA1
import Derived.OwnWalk
import Derived.Laws.OwnMore
import Derived.Deep.AppendLies
namespace Go.El

/-- The blanks that are laid ahead. -/
def blankC (i : Nat) : UInt8 := if i % 4 = 0 then 32 else if i % 4 = 1 then 9 else if i % 4 = 2 then 10 else 13
def blanks (n : Nat) : List UInt8 := (List.range n).map blankC
theorem blanks_len (n : Nat) : (blanks n).length = n := by simp [blanks]
theorem blanks_succ (n : Nat) : blanks (n + 1) = blanks n ++ [blankC n] := by simp [blanks, List.range_succ]
theorem blanks_blank (n : Nat) : ∀ c ∈ blanks n, isBlank c = true := by
  intro c hc
  obtain ⟨i, _, rfl⟩ := List.mem_map.1 hc
  unfold blankC
  split
  · rfl
  · split
    · rfl
    · split <;> rfl

/-- The text while the blanks are laid. -/
def wideAt (k n : Nat) (B : List UInt8) : List UInt8 := blanks k ++ (List.replicate (n - k) 0 ++ B)
theorem wide_len {k n : Nat} (h : k ≤ n) (B : List UInt8) : (wideAt k n B).length = n + B.length := by simp [wideAt, blanks_len]; omega
theorem wide_set {k n : Nat} (h : k < n) (B : List UInt8) : (wideAt k n B).set k (blankC k) = wideAt (k + 1) n B := by
  unfold wideAt
  obtain ⟨m, hm⟩ : ∃ m, n - k = m + 1 := ⟨n - k - 1, by omega⟩
  have hm2 : n - (k + 1) = m := by omega
  rw [List.set_append_right _ _ (by rw [blanks_len]; omega), blanks_len, hm, hm2, Nat.sub_self, List.replicate_succ, blanks_succ]
  simp
theorem wide_done (n : Nat) (B : List UInt8) : wideAt n n B = blanks n ++ B := by simp [wideAt]
theorem wide_start (n : Nat) (B : List UInt8) : wideAt 0 n B = List.replicate n 0 ++ B := by simp [wideAt, blanks]

theorem tokN_in : ∀ (n : Nat) (B : List UInt8) (i : Nat), ∀ t ∈ (tokN n B i).1, 0 ≤ t.at_ ∧ t.at_ < (B.length : Int)
  | 0, B, i, t, h => by simp [tokN] at h
  | n + 1, B, i, t, h => by
    simp only [tokN] at h
    split at h
    · simp at h
    · split at h
      · simp at h
      · rename_i h4 h0
        have hb := scanS_bd (B := B) (i := i) (by simpa using h0)
        split at h
        · rcases List.mem_cons.1 h with rfl | h
          · omega
          · exact tokN_in n B _ t h
        · simp at h
theorem allS_at (B : List UInt8) : ∀ t ∈ (allS B).1, 0 ≤ t.at_ ∧ t.at_ < (B.length : Int) := by
  rw [allS_toks]
  unfold toks
  exact tokN_in _ B 0
theorem tokN_len : ∀ (n : Nat) (B : List UInt8) (i : Nat), (tokN n B i).1.length ≤ n
  | 0, B, i => by simp [tokN]
  | n + 1, B, i => by
    simp only [tokN]
    split
    · simp
    · split
      · simp
      · split
        · simp only [List.length_cons]
          have := tokN_len n B (scanS B i).2.1
          omega
        · simp
theorem allS_len (B : List UInt8) : (allS B).1.length ≤ B.length + 1 := by
  rw [allS_toks]
  unfold toks
  have := tokN_len (B.length + 1 - 0) B 0
  omega

theorem tokN_end : ∀ (n : Nat) (B : List UInt8) (i : Nat), i ≤ B.length → (tokN n B i).2.1 ≤ B.length
  | 0, B, i, h => by simpa [tokN] using h
  | n + 1, B, i, h => by
    have hl := scanS_le h
    simp only [tokN]
    split
    · exact hl
    · split
      · exact hl
      · have := tokN_end n B (scanS B i).2.1 hl
        split <;> exact this
theorem allS_end (B : List UInt8) : (allS B).2.1 ≤ B.length := by
  rw [allS_toks]
  exact tokN_end _ B 0 (Nat.zero_le _)

/-- A token that was moved, as the law reckons it. -/
def movT (n k : Nat) (t : TokV) : TokV := { t with at_ := t.at_ + n, lay := t.lay || decide (k = 0) }
theorem lay_at {L : List TokV} {n k : Nat} {t : TokV} (h : L[k]? = some t) : (layHead (L.map (shT n)))[k]? = some (movT n k t) := by
  cases L with
  | nil => simp at h
  | cons a r =>
    cases k with
    | zero =>
      simp at h
      subst h
      simp [layHead, shT, movT]
    | succ k =>
      simp at h
      simp [layHead, h, shT, movT]
theorem lay_len (L : List TokV) (n : Nat) : (layHead (L.map (shT n))).length = L.length := by
  cases L <;> simp [layHead]

end Go.El
namespace Go.Proofs.YtgjdajkkncdhmaaDoor
open Go.RowKit Go.El

theorem blank_lit (k : Nat) (h : k % 4 < (⟨#[32, 9, 10, 13]⟩ : ByteArray).size) : ((⟨#[32, 9, 10, 13]⟩ : ByteArray)[k % 4]'h).toNat = (blankC k).toNat := by
  have hr : k % 4 = 0 ∨ k % 4 = 1 ∨ k % 4 = 2 ∨ k % 4 = 3 := by omega
  unfold blankC
  revert h
  rcases hr with e | e | e | e <;> rw [e] <;> intro h <;> rfl

/-- The wide text in memory. -/
structure WideG (w wr : World) (g cap m k : Nat) (B : List UInt8) : Prop where
  own : wr.ownsRow 0 5 1 (.slice (some ⟨g, 0, none⟩) (m + B.length) cap) (m + B.length) ((wideAt k m B).map u8V)
  far : w.heap.size ≤ g
  ext : Ext w wr
theorem WideG.step {w wr : World} {g cap m k : Nat} {B : List UInt8} (h : WideG w wr g cap m k B) (hk : k < m) : WideG w (wr.setCell ⟨g, k, none⟩ (.int .u8 ((blankC k).toNat : Int))) g cap m (k + 1) B := by
  refine ⟨?_, h.far, h.ext.setCell h.far _⟩
  have := (h.own.stored k (u8V (blankC k))).1
  rw [← List.map_set, wide_set hk] at this
  exact this
theorem WideG.cell {w wr : World} {g cap m k : Nat} {B : List UInt8} (h : WideG w wr g cap m k B) (hk : k < m) : ∃ z, wr.cell? ⟨g, k, none⟩ = some z := by
  have hl := wide_len (Nat.le_of_lt hk) B
  refine ⟨_, (h.own.cellAt k (by omega)).trans (List.getElem?_eq_getElem (by simp; omega))⟩
theorem WideG.cap_ {w wr : World} {g cap m k : Nat} {B : List UInt8} (h : WideG w wr g cap m k B) : m + B.length ≤ cap := by
  rcases h.own.2 with ⟨h1, _⟩ | ⟨g', cap', cur, hv, _, _, hnc, _⟩
  · simp at h1
  · injection hv with _ _ hc
    subst hc
    exact hnc
theorem WideG.done {w wr : World} {g cap m : Nat} {B : List UInt8} (h : WideG w wr g cap m m B) : BytesAt wr (some ⟨g, 0, none⟩) (blanks m ++ B) := by
  have := El.Src.of_own h.own
  rw [wide_done] at this
  unfold BytesAt
  rw [List.length_append, blanks_len]
  exact this
/-- All tokens of the wide text. -/
theorem all_wide {w wr : World} {g cap m : Nat} {B : List UInt8} (h : WideG w wr g cap m m B) (hm1 : 1 ≤ m) (hm2 : m ≤ 50) (hB : B.length ≤ 3000) {V : World} (x : Ext wr V) (gl : Glob V) {L : List TokV} {n : Nat} {e : Int} (hr : allS B = (L, n, e)) :
    Calls Tryd.prog 8 #[.slice (some ⟨g, 0, none⟩) (m + B.length) cap] V fun r w' => ∃ A c, r = .returned (.tuple #[.slice A L.length c, .int .i64 ((n : Int) + (m : Int)), .int .i64 e]) ∧ El.Src w' A L.length 5 (flat tokCells (layHead (L.map (shT m)))) ∧ Ext V w' := by
  have hlen : (blanks m ++ B).length = m + B.length := by simp [blanks_len]
  have hp := pAll_any (some ⟨g, 0, none⟩) cap (blanks m ++ B) V (h.done.ext x) (by omega) (by rw [hlen]; exact h.cap_) gl
  have hal := all_layout (blanks m) B (by rw [blanks_len]; omega) (blanks_blank m)
  rw [hlen] at hp
  refine hp.mono ?_
  rintro r w' ⟨v, he, ⟨A, c, rfl, _, hs⟩, hx⟩
  rw [hal, blanks_len, hr] at he hs
  simp only [lay_len] at he hs
  refine ⟨A, c, ?_, hs, hx⟩
  have e1 : ((m + n : Nat) : Int) = (n : Int) + (m : Int) := by omega
  rw [he, e1]

/-- The cells of a moved token. -/
theorem mov_cells {w : World} {A : Option Addr} {L : List TokV} {m j : Nat} {t : TokV} (h : El.Src w A L.length 5 (flat tokCells (layHead (L.map (shT m))))) (hj : L[j]? = some t) : ∃ b off, A = some ⟨b, off, none⟩ ∧ w.cell? ⟨b, off + j * 5, none⟩ = some (.int .i64 t.kind) ∧ w.cell? ⟨b, off + j * 5 + 1, none⟩ = some (.string t.s) ∧ w.cell? ⟨b, off + j * 5 + 2, none⟩ = some (.int .i64 t.n) ∧ w.cell? ⟨b, off + j * 5 + 3, none⟩ = some (.int .i64 (t.at_ + (m : Int))) ∧ w.cell? ⟨b, off + j * 5 + 4, none⟩ = some (.bool (t.lay || decide (j = 0))) := by
  rw [← lay_len L m] at h
  exact tok_cells h (lay_at hj)

set_option maxRecDepth 100000 in
set_option maxHeartbeats 16000000 in
theorem tokenLayout_any (A : Option Addr) (cap : Nat) (B : List UInt8) (n : Int) (w : World) (h : BytesAt w A B) (hcap : B.length ≤ cap) (hB : B.length ≤ 9223372036854775807) (hn1 : -9223372036854775808 ≤ n) (hn2 : n ≤ 9223372036854775807) (g : Glob w) :
    Calls Tryd.prog 5 #[.slice A B.length cap, .int .i64 n] w fun e w' => e = .returned (.bool true) ∧ Ext w w' := by
  obtain ⟨i1, hi1, hz0, hz1, hz2⟩ := infoP u8Info
  have HG := Lib.hid g
  have H := Lib.hid h
  clear g h
  by_cases hbig : 3000 < B.length
  · go_enter Tryd.func5, Tryd.ntmps5
    go_wp2_with (go_at_call 7; refine (lives_any _ HG.out).mono ?_; rintro e W1 ⟨rfl, hx⟩; have HX := Lib.hid hx; clear hx)
    go_ret
    exact ⟨rfl, HX.out⟩
  · by_cases hlow : n < 1
    · go_enter Tryd.func5, Tryd.ntmps5
      go_wp2_with (go_at_call 7; refine (lives_any _ HG.out).mono ?_; rintro e W1 ⟨rfl, hx⟩; have HX := Lib.hid hx; clear hx)
      go_ret
      exact ⟨rfl, HX.out⟩
    · by_cases hhigh : 50 < n
      · go_enter Tryd.func5, Tryd.ntmps5
        go_wp2_with (go_at_call 7; refine (lives_any _ HG.out).mono ?_; rintro e W1 ⟨rfl, hx⟩; have HX := Lib.hid hx; clear hx)
        go_ret
        exact ⟨rfl, HX.out⟩
      · obtain ⟨m, rfl⟩ : ∃ m : Nat, n = (m : Int) := ⟨n.toNat, by omega⟩
        have hm1 : 1 ≤ m := by omega
        have hm2 : m ≤ 50 := by omega
        have hlen : B.length ≤ 3000 := by omega
        clear hn1 hn2
        go_enter Tryd.func5, Tryd.ntmps5
        go_upto_region 4 with (first | (at_builtin; refine wpList_append_src (P := Tryd.prog) rfl _ _ 22 rfl 5 i1 _ 1 1 Tryd.underlying22 hi1 hz0 hz1 hz2 rfl (by omega) (.slice (some ⟨w.heap.size, 0, none⟩) m m) rfl _ _ _ rfl m _ HO.out (B.map u8V) (H.out.ext HX0.out) (u8_one B) (by unfold maxLen; omega) (by omega) ?_; intro v3 w3 ho3 hm3 hb3; have HO3 := Lib.hid ho3; have HM3 := Lib.hid hm3; have HB3 := Lib.hid hb3; clear ho3 hm3 hb3) | (refine wpList_make_full (P := Tryd.prog) _ rfl _ _ 22 rfl 0 5 i1 _ 1 Tryd.underlying22 hi1 hz0 hz1 .i64 .i64 _ _ m rfl rfl rfl rfl (by rw [hz2]; omega) (by unfold maxLen; omega) (Nat.zero_le _) ?_; intro w0 ho0 hg0; have HO := Lib.hid ho0; have HX0 := Lib.hid ((Ext.refl w).grown hg0 (by simp)); clear ho0 hg0))
        have hx3 : Ext w w3 := ext_mods HX0.out HM3.out (fun k hk => by
          have e1 : w.heap.size = k := by simpa [Value.ownBlock] using mem_ownL hk
          omega)
        have hww : w.heap.size ≤ w0.heap.size := HX0.out.size
        obtain ⟨g, cap3, rfl, _, hg⟩ := World.ownsRow.form HO3.out (by omega)
        have hgw : w.heap.size ≤ g := by
          rcases HB3.out with h | h
          · simp [Value.ownBlock] at h
            omega
          · simp [Value.ownBlock] at h
            omega
        have hw0 : WideG w w3 g cap3 m 0 B := by
          refine ⟨?_, hgw, hx3⟩
          have := HO3.out
          rw [Nat.mul_one, show (Value.int .u8 0).cells = #[.int .u8 0] from rfl, toList_madeCells_one] at this
          rw [wide_start, List.map_append, List.map_replicate]
          exact this
        have HW := Lib.hid hw0
        clear hw0 hx3 hww hgw HO3 HM3 HB3 HO HX0 hg
        go_upto_region 5 with fail
        go_loopw [6] (fun i wr => ∃ k : Nat, k ≤ m ∧ i = .int .i64 k ∧ Hid (WideG w wr g cap3 m k B)) (fun i _ => m - (intOf i).toNat)
        case atStart => exact ⟨0, Nat.zero_le _, rfl, HW.out⟩
        case round =>
          obtain ⟨k, hk, rfl, HV⟩ := hrel
          by_cases hlt : k < m
          · obtain ⟨z, hz⟩ := HV.out.cell hlt
            have hf := HV.out.own.frozenAt k
            go_wp2_with fail
            go_roundw
            case rel =>
              refine ⟨k + 1, hlt, by go_num, ?_⟩
              rw [blank_lit]
              exact HV.out.step hlt
            case measure => simp [intOf]; omega
          · obtain rfl : k = m := by omega
            cases hr : allS B with
            | mk L q =>
              obtain ⟨n0, x⟩ := q
              have hat := allS_at B
              have hend := allS_end B
              have hal := allS_len B
              rw [hr] at hat hend hal
              simp only at hat hend hal
              have HAT := Lib.hid hat
              have HP := Lib.hid (pAll_any A cap B wr (H.out.ext HV.out.ext) (by omega) hcap (HG.out.ext HV.out.ext))
              rw [hr] at HP
              unfold AllOut at HP
              have HQ := fun V (x : Ext wr V) => Lib.hid (all_wide HV.out hm1 hm2 hlen x ((HG.out.ext HV.out.ext).ext x) hr)
              have hwr : IntKind.i64.wrap ((n0 : Int) + (k : Int)) = (n0 : Int) + (k : Int) := IntWalk.i64_in _ (by omega)
              clear hat hr
              go_upto_region 9 with (go_at_call 8; refine HP.out.mono ?_; rintro e W1 ⟨v, rfl, ht, hx⟩; obtain ⟨A1, c1, rfl, _, hs⟩ := ht; have HS := Lib.hid hs; have HX := Lib.hid hx; clear hs hx HP)
              go_upto_region 10 with (go_at_call 8; refine (HQ _ HX.out).out.mono ?_; rintro e W2 ⟨A2, c2, rfl, ht, hx⟩; have HS2 := Lib.hid (HS.out.ext hx); have HT2 := Lib.hid ht; have HX2 := Lib.hid (HX.out.trans hx); clear ht hx HQ)
              go_upto_region 12 with (go_at_call 7; refine (lives_any _ ((HG.out.ext HV.out.ext).ext HX2.out)).mono ?_; rintro e W3 ⟨rfl, hx⟩; have HS3 := Lib.hid (HS2.out.ext hx); have HT3 := Lib.hid (HT2.out.ext hx); have HX3 := Lib.hid (HX2.out.trans hx); clear hx)
              go_upto_region 13 with fail
              have hx0 : Ext w W3 := HV.out.ext.trans HX3.out
              have HX0 := Lib.hid hx0
              clear hx0 HX HX2 HX3 HS HS2 HT2 hend
              go_loopw [13] (fun i wv => ∃ j : Nat, j ≤ L.length ∧ i = .int .i64 j ∧ Hid (Ext W3 wv)) (fun i _ => L.length - (intOf i).toNat)
              case atStart => exact ⟨0, Nat.zero_le _, rfl, Ext.refl _⟩
              case round =>
                obtain ⟨j, hj, rfl, HY⟩ := hrel
                by_cases hlt : j < L.length
                · have ho : L[j]? = some L[j] := List.getElem?_eq_getElem hlt
                  have ha := HAT.out L[j] (List.getElem_mem hlt)
                  generalize L[j] = t at ho ha
                  obtain ⟨b, off, rfl, p1, p2, p3, p4, p5⟩ := tok_cells (HS3.out.ext HY.out) ho
                  obtain ⟨b2, off2, rfl, q1, q2, q3, q4, q5⟩ := mov_cells (HT3.out.ext HY.out) ho
                  have hwt : IntKind.i64.wrap (t.at_ + (k : Int)) = t.at_ + (k : Int) := IntWalk.i64_in _ (by omega)
                  clear ho
                  go_upto_region 16 with fail
                  refine wp_abs (fun V => Hid (Blk V wr.heap.size 30 #[.int .i64 t.kind, .string t.s, .int .i64 t.n, .int .i64 t.at_, .bool t.lay]) ∧ Hid (Ext wr V)) ⟨Blk.new wr _ _, (Ext.refl wr).alloc _⟩ ?_
                  rintro V ⟨KB, KX⟩
                  have k3 : V.cell? ⟨wr.heap.size, 3, none⟩ = some (.int .i64 t.at_) := KB.out.cell 3
                  have k4 : V.cell? ⟨wr.heap.size, 4, none⟩ = some (.bool t.lay) := KB.out.cell 4
                  have f3 := KB.out.frozen 3
                  have f4 := KB.out.frozen 4
                  clear p1 p2 p3 p4 p5
                  have hj0 : ((j : Int) == 0) = decide (j = 0) := by
                    rw [Bool.eq_iff_iff]
                    simp
                  cases hl : t.lay
                  · rw [hl] at k4
                    rw [hl, Bool.false_or] at q5
                    go_upto_region 18 with fail
                    refine wp_abs (fun V2 => Hid (Blk V2 wr.heap.size 30 #[.int .i64 t.kind, .string t.s, .int .i64 t.n, .int .i64 (t.at_ + (k : Int)), .bool (decide (j = 0))]) ∧ Hid (Ext wr V2)) ⟨(KB.out.set_ 3 _).set_ 4 _, (KX.out.setCell (p := ⟨wr.heap.size, 3, none⟩) (Nat.le_refl _) _).setCell (p := ⟨wr.heap.size, 4, none⟩) (Nat.le_refl _) _⟩ ?_
                    rintro V2 ⟨KC, KY⟩
                    clear KB KX k3 k4 f3 f4 hl hj0 hwt
                    have r1 := KY.out.cell q1
                    have r2 := KY.out.cell q2
                    have r3 := KY.out.cell q3
                    have r4 := KY.out.cell q4
                    have r5 := KY.out.cell q5
                    have c0 : V2.cell? ⟨wr.heap.size, 0, none⟩ = some (.int .i64 t.kind) := KC.out.cell 0
                    have c1 : V2.cell? ⟨wr.heap.size, 1, none⟩ = some (.string t.s) := KC.out.cell 1
                    have c2 : V2.cell? ⟨wr.heap.size, 2, none⟩ = some (.int .i64 t.n) := KC.out.cell 2
                    have c3 : V2.cell? ⟨wr.heap.size, 3, none⟩ = some (.int .i64 (t.at_ + (k : Int))) := KC.out.cell 3
                    have c4 : V2.cell? ⟨wr.heap.size, 4, none⟩ = some (.bool (decide (j = 0))) := KC.out.cell 4
                    have HZ := Lib.hid (HY.out.trans KY.out)
                    clear q1 q2 q3 q4 q5 KC KY HY
                    go_quiet (fail)
                    go_wp2_with fail
                    go_roundw
                    case rel => exact ⟨j + 1, hlt, by go_num, HZ.out.drewN _⟩
                    case measure => simp [intOf]; omega
                  · rw [hl] at k4
                    rw [hl, Bool.true_or] at q5
                    go_upto_region 18 with fail
                    refine wp_abs (fun V2 => Hid (Blk V2 wr.heap.size 30 #[.int .i64 t.kind, .string t.s, .int .i64 t.n, .int .i64 (t.at_ + (k : Int)), .bool (true)]) ∧ Hid (Ext wr V2)) ⟨(KB.out.set_ 3 _).set_ 4 _, (KX.out.setCell (p := ⟨wr.heap.size, 3, none⟩) (Nat.le_refl _) _).setCell (p := ⟨wr.heap.size, 4, none⟩) (Nat.le_refl _) _⟩ ?_
                    rintro V2 ⟨KC, KY⟩
                    clear KB KX k3 k4 f3 f4 hl hj0 hwt
                    have r1 := KY.out.cell q1
                    have r2 := KY.out.cell q2
                    have r3 := KY.out.cell q3
                    have r4 := KY.out.cell q4
                    have r5 := KY.out.cell q5
                    have c0 : V2.cell? ⟨wr.heap.size, 0, none⟩ = some (.int .i64 t.kind) := KC.out.cell 0
                    have c1 : V2.cell? ⟨wr.heap.size, 1, none⟩ = some (.string t.s) := KC.out.cell 1
                    have c2 : V2.cell? ⟨wr.heap.size, 2, none⟩ = some (.int .i64 t.n) := KC.out.cell 2
                    have c3 : V2.cell? ⟨wr.heap.size, 3, none⟩ = some (.int .i64 (t.at_ + (k : Int))) := KC.out.cell 3
                    have c4 : V2.cell? ⟨wr.heap.size, 4, none⟩ = some (.bool (true)) := KC.out.cell 4
                    have HZ := Lib.hid (HY.out.trans KY.out)
                    clear q1 q2 q3 q4 q5 KC KY HY
                    go_quiet (fail)
                    go_wp2_with fail
                    go_roundw
                    case rel => exact ⟨j + 1, hlt, by go_num, HZ.out.drewN _⟩
                    case measure => simp [intOf]; omega
                · obtain rfl : j = L.length := by omega
                  go_wp2_with fail
                  go_ret
                  exact ⟨rfl, HX0.out.trans HY.out⟩

end Go.Proofs.YtgjdajkkncdhmaaDoor
