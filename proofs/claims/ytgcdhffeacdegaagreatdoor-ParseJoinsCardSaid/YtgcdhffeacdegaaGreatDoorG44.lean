/- Layer 10, plain: a clause's names are no more than its tokens. -/
import Derived.Test.YtgcdhffeacdegaaGreatDoorG42
import Derived.Test.YtgcdhffeacdegaaGreatDoorG33
import Derived.Test.YtgcdhffeacdegaaGreatDoorG43
import Derived.Deep.QuietTactic
import Derived.BigQuiet
import Derived.Test.YtgcdhffeacdegaaGreatDoorG21
import Derived.Test.YtgcdhffeacdegaaGreatDoorG23
import Derived.Test.YtgcdhffeacdegaaGreatDoorG27
import Derived.Test.YtgcdhffeacdegaaGreatDoorG28
import Derived.Test.YtgcdhffeacdegaaGreatDoorG25
import Derived.Test.YtgcdhffeacdegaaGreatDoorG31
import Derived.Test.YtgcdhffeacdegaaGreatDoorG19
import Derived.Test.YtgcdhffeacdegaaGreatDoorG29
import Derived.Test.YtgcdhffeacdegaaGreatDoorG30
import Derived.Test.YtgcdhffeacdegaaGreatDoorG41
import Derived.Test.YtgcdhffeacdegaaGreatDoorCards
import Derived.Test.YtgcdhffeacdegaaGreatDoorTie
import Derived.Lay
import Derived.Lib.LaidTab
import Derived.Shelf.Vars
import Derived.MakeChecks
namespace Go.El

def PR.nfit {α : Type} (m : Nat) : PR α → Prop
  | .bad _ => True
  | .ok _ r ns => ns.length + r.length ≤ m
theorem nfit_le {α : Type} {x : PR α} {a b : Nat} (h : x.nfit a) (hab : a ≤ b) : x.nfit b := by
  cases x with
  | bad q => exact trivial
  | ok u q ms => exact Nat.le_trans h hab
theorem nfit_want {α : Type} {m : Nat} {c : UInt8} {a : α} {r : List TokV} {ns : List ByteArray} (h : ns.length + r.length ≤ m) : (wantP c a r ns).nfit m := by
  unfold wantP
  split
  · simp only [PR.nfit, List.length_tail]
    omega
  · exact trivial
theorem varN_len (s : ByteArray) (ns : List ByteArray) : (varN s ns).length ≤ ns.length + 1 := by
  unfold varN
  cases varI s ns <;> simp
structure NfN (O : Ops) (n : Nat) : Prop where
  term : ∀ most r ns, (termN O n most r ns).nfit (ns.length + r.length)
  loop : ∀ most t p r ns, (loopN O n most t p r ns).nfit (ns.length + r.length)
  oper : ∀ most r ns, (operN O n most r ns).nfit (ns.length + r.length)
  brac : ∀ t r ns, (bracN O n t r ns).nfit (ns.length + r.length)
  named : ∀ s r ns, (namedN O n s r ns).nfit (ns.length + r.length)
  row : ∀ lim acc r ns, (rowN O n lim acc r ns).nfit (ns.length + r.length)
  sign : ∀ s most r ns, (signN O n s most r ns).nfit (ns.length + r.length)
theorem nfit_all (O : Ops) : ∀ n, NfN O n
  | 0 => ⟨fun _ _ _ => trivial, fun _ _ _ _ _ => trivial, fun _ _ _ => trivial, fun _ _ _ => trivial, fun _ _ _ => trivial, fun _ _ _ _ => trivial, fun _ _ _ _ => trivial⟩
  | n + 1 => by
    have ih := nfit_all O n
    refine ⟨fun most r ns => ?_, fun most t p r ns => ?_, fun most r ns => ?_, fun t r ns => ?_, fun s r ns => ?_, fun lim acc r ns => ?_, fun s most r ns => ?_⟩
    · have h1 := ih.oper most r ns
      simp only [termN]
      cases ho : operN O n most r ns with
      | bad q => exact trivial
      | ok a q ms =>
        rw [ho] at h1
        exact nfit_le (ih.loop most a.1 a.2 q ms) h1
    · simp only [loopN]
      cases hi : infixF O r with
      | none => exact Nat.le_refl _
      | some o =>
        simp only
        split
        · exact Nat.le_refl _
        · have h1 := ih.term (rightI o.p o.t) r.tail ns
          cases ht : termN O n (rightI o.p o.t) r.tail ns with
          | bad q => exact trivial
          | ok u q ms =>
            rw [ht] at h1
            simp only [PR.nfit, List.length_tail] at h1
            exact nfit_le (ih.loop most (.mk 4 0 o.s [t, u]) o.p q ms) (by omega)
    · cases r with
      | nil => exact trivial
      | cons t r =>
        simp only [operN]
        split
        · exact nfit_le (ih.brac t r ns) (by simp)
        · split
          · exact trivial
          · split
            · simp only [PR.nfit, List.length_cons]
              omega
            · split
              · have := varN_len t.s ns
                simp only [PR.nfit, List.length_cons]
                omega
              · split
                · exact nfit_le (ih.named _ r ns) (by simp)
                · exact nfit_le (ih.sign _ _ r ns) (by simp)
    · simp only [bracN]
      split
      · have h1 := ih.term 1200 r ns
        cases ht : termN O n 1200 r ns with
        | bad q => exact trivial
        | ok u q ms => rw [ht] at h1; exact nfit_want h1
      · split
        · split
          · exact nfit_le (ih.named nilB r.tail ns) (by simp)
          · have h1 := ih.row false [] r ns
            cases ht : rowN O n false [] r ns with
            | bad q => exact trivial
            | ok l q ms =>
              rw [ht] at h1
              simp only
              split
              · have h2 := ih.term 999 q.tail ms
                cases hu : termN O n 999 q.tail ms with
                | bad q2 => exact trivial
                | ok u q2 m2 =>
                  rw [hu] at h2
                  simp only [PR.nfit, List.length_tail] at h1 h2
                  exact nfit_want (by omega)
              · exact nfit_want h1
        · split
          · split
            · exact nfit_le (ih.named curB r.tail ns) (by simp)
            · have h1 := ih.term 1200 r ns
              cases ht : termN O n 1200 r ns with
              | bad q => exact trivial
              | ok u q ms => rw [ht] at h1; exact nfit_want h1
          · exact trivial
    · simp only [namedN]
      split
      · have h1 := ih.row true [] r.tail ns
        cases ht : rowN O n true [] r.tail ns with
        | bad q => exact trivial
        | ok l q ms =>
          rw [ht] at h1
          simp only [PR.nfit, List.length_tail] at h1
          exact nfit_want (by omega)
      · exact Nat.le_refl _
    · have h1 := ih.term 999 r ns
      simp only [rowN]
      cases ht : termN O n 999 r ns with
      | bad q => exact trivial
      | ok u q ms =>
        rw [ht] at h1
        simp only [PR.nfit] at h1
        simp only
        split
        · split
          · exact trivial
          · exact nfit_le (ih.row lim (acc ++ [u]) q.tail ms) (by simp; omega)
        · exact h1
    · simp only [signN]
      split
      · exact ih.named s r ns
      · split
        · simp only [PR.nfit, List.length_tail]
          omega
        · cases hf : O.fp s with
          | none => exact Nat.le_refl _
          | some o =>
            simp only
            split
            · have h1 := ih.term (rightI o.p o.t) r ns
              cases ht : termN O n (rightI o.p o.t) r ns with
              | bad q => exact trivial
              | ok u q ms => rw [ht] at h1; exact h1
            · exact Nat.le_refl _
/-- A reading is of a size that can be looked at. -/
structure SmallR (r : ReadV) : Prop where
  ns : r.ns.length ≤ 65537
  sz : szT r.t ≤ 65537
theorem small_zero : SmallR zeroR := ⟨by decide, by decide⟩
theorem readT_small {O : Ops} {l : List TokV} {e : Nat} (hl : l.length ≤ 65537) : SmallR (readT O l e).1 := by
  unfold readT
  have h1 := (nfit_all O (5 * l.length + 5)).term 1200 l []
  have h2 := (fit_all O (5 * l.length + 5)).term 1200 l []
  cases ht : termN O (5 * l.length + 5) 1200 l [] with
  | bad q => exact small_zero
  | ok t q ns =>
    rw [ht] at h1 h2
    simp only [PR.nfit, PR.fit, List.length_nil] at h1 h2
    simp only
    split
    · split
      · exact ⟨by show ns.length ≤ _; omega, by show szT t ≤ _; omega⟩
      · exact small_zero
    · exact small_zero
theorem clauseS_small {O : Ops} {B : List UInt8} {i : Nat} (hi : i ≤ B.length) (hB : B.length ≤ 65536) : SmallR (clauseS O B i).1 := by
  unfold clauseS
  cases hx : ctoks B i with
  | error p => exact small_zero
  | ok p =>
    obtain ⟨l, k⟩ := p
    obtain ⟨hL, _, _⟩ := ctoks_ok hi hB hx
    exact readT_small hL.len
theorem allRN_small {O : Ops} {B : List UInt8} (hB : B.length ≤ 65536) : ∀ (n : Nat) {i : Nat} {acc : List ReadV}, i ≤ B.length → acc.length ≤ i → (∀ r ∈ acc, SmallR r) → (∀ r ∈ (allRN O n B i acc).1, SmallR r) ∧ (allRN O n B i acc).1.length ≤ B.length
  | 0, i, acc, hi, ha, h => ⟨h, by show acc.length ≤ _; omega⟩
  | n + 1, i, acc, hi, ha, h => by
    simp only [allRN]
    split
    · next h0 =>
      obtain ⟨k, hk, h1, h2⟩ := clauseS_ok hi hB h0
      rw [hk, Int.toNat_natCast]
      exact allRN_small hB n h2 (by simp; omega) (fun r hr => by
        rcases List.mem_append.1 hr with hr | hr
        · exact h r hr
        · simp at hr
          subst hr
          exact clauseS_small hi hB)
    · split
      · exact ⟨h, by show acc.length ≤ _; omega⟩
      · exact ⟨h, by show acc.length ≤ _; omega⟩
theorem allR_small {O : Ops} {B : List UInt8} (hB : B.length ≤ 65536) : (∀ r ∈ (allR O B).1, SmallR r) ∧ (allR O B).1.length ≤ B.length :=
  allRN_small hB _ (Nat.zero_le _) (Nat.zero_le _) (fun r hr => by simp at hr)
end Go.El

/- Law 10: large; two readings that are the same. -/
namespace Go.Proofs.YtgcdhffeacdegaaGreatDoor
open Go.RowKit Go.El

set_option maxRecDepth 100000 in
set_option maxHeartbeats 2000000 in
theorem ops10Large_any (A : Option Addr) (c : Nat) (L : List OpV) (w : World) (h1 : El.Src w A L.length 3 (flat opCells L)) (hL : L.length ≤ 9223372036854775807) (hg : ∀ o ∈ L, o.s.size ≤ 9223372036854775807) (b : Bool) (hb : b = true ↔ LgO L) :
    Calls Tryz.prog 11 #[.slice A L.length c] w fun e w' => e = .returned (.bool b) ∧ Ext w w' := by
  have H1 := Lib.hid h1
  have HG := Lib.hid hg
  have HB := Lib.hid hb
  clear h1 hg hb
  go_enter Tryz.func11, Tryz.ntmps11
  go_wp2_with fail
  go_loopw [3] (fun i wr => ∃ k : Nat, k ≤ L.length ∧ k ≤ 30 ∧ i = .int .i64 k ∧ Ext w wr ∧ Hid (∀ (j : Nat) (o : OpV), j < k → L[j]? = some o → ¬ 200 < o.s.size)) (fun i _ => 31 - (intOf i).toNat)
  case atStart => exact ⟨0, Nat.zero_le _, Nat.zero_le _, rfl, Ext.refl _, Lib.hid (fun j o h => by omega)⟩
  case round =>
    obtain ⟨k, hk, hk30, rfl, hx, HN⟩ := hrel
    by_cases hlt : k < L.length
    · by_cases hlt3 : k < 30
      · obtain ⟨b0, off, rfl, e0, e1, e2⟩ := src_op H1.out hlt
        have hs := HG.out L[k] (List.getElem_mem hlt)
        have d2 := hx.cell e2
        clear e0 e1 e2
        have hk' : L[k]? = some L[k] := List.getElem?_eq_getElem hlt
        have HK := Lib.hid hk'
        clear hk'
        generalize L[k] = x at *
        have HQ := Lib.hid (rfl : x.s = x.s)
        revert HQ
        generalize hxs : x.s = s at hs d2 ⊢
        have HXS := Lib.hid hxs
        clear hxs
        intro HQ
        clear HQ
        by_cases hz : 200 < s.size
        · go_wp2_with fail
          go_ret
          exact ⟨ret_boolP ⟨fun _ => HB.out.2 (.inl ⟨k, x, hlt3, HK.out, by rw [HXS.out]; exact hz⟩), fun _ => rfl⟩, hx⟩
        · go_wp2_with fail
          go_roundw
          case rel => exact ⟨k + 1, hlt, hlt3, by go_num, hx, Lib.hid (fun j o hj ho => by
            rcases Nat.lt_succ_iff_lt_or_eq.1 hj with h | rfl
            · exact HN.out j o h ho
            · obtain rfl := Option.some.inj (ho.symm.trans HK.out)
              rw [HXS.out]; exact hz)⟩
          case measure => simp [intOf]; omega
      · go_wp2_with fail
        go_ret
        exact ⟨ret_boolP (by
        rw [HB.out, decide_eq_true_iff]
        unfold LgO
        constructor
        · intro h; exact .inr (by omega)
        · rintro (⟨j, o, h1, h2, h3⟩ | h)
          · exact absurd h3 (HN.out j o (by have := (List.getElem?_eq_some_iff.1 h2).1; omega) h2)
          · omega), hx⟩
    · go_wp2_with fail
      go_ret
      exact ⟨ret_boolP (by
        rw [HB.out, decide_eq_true_iff]
        unfold LgO
        constructor
        · intro h; exact .inr (by omega)
        · rintro (⟨j, o, h1, h2, h3⟩ | h)
          · exact absurd h3 (HN.out j o (by have := (List.getElem?_eq_some_iff.1 h2).1; omega) h2)
          · omega), hx⟩

theorem name_at {w : World} {A : Option Addr} {ns : List ByteArray} (h : El.Src w A ns.length 1 (ns.map Value.string)) {k : Nat} {s : ByteArray} (hk : ns[k]? = some s) : ∃ b off, A = some ⟨b, off, none⟩ ∧ w.cell? ⟨b, off + k, none⟩ = some (.string s) := by
  have hlt : k < ns.length := (List.getElem?_eq_some_iff.1 hk).1
  obtain ⟨b, off, rfl, hc⟩ := El.Src.form h (by omega) (by omega)
  exact ⟨b, off, rfl, hc k _ (by rw [List.getElem?_map, hk]; rfl)⟩

set_option maxRecDepth 100000 in
set_option maxHeartbeats 4000000 in
theorem same_read (r : ReadV) (A A' n n' : Option Addr) (c c' m m' : Nat) (w : World) (D E : Nat → Prop) (h1 : RdIn D w (r, A, c, n, m)) (h2 : RdIn E w (r, A', c', n', m')) (hs : SmallR r) :
    Calls Tryz.prog 16 #[.agg #[.int .i64 (Tm.k r.t), .int .i64 (Tm.n r.t), .string (Tm.s r.t), .slice A (Tm.l r.t).length c, .slice n r.ns.length m, .int .i64 r.nx], .agg #[.int .i64 (Tm.k r.t), .int .i64 (Tm.n r.t), .string (Tm.s r.t), .slice A' (Tm.l r.t).length c', .slice n' r.ns.length m', .int .i64 r.nx]] w fun e w' => e = .returned (.bool true) ∧ Ext w w' := by
  have x0 := ((Ext.refl w).alloc (.cells #[.int .i64 (Tm.k r.t), .int .i64 (Tm.n r.t), .string (Tm.s r.t), .slice A (Tm.l r.t).length c, .slice n r.ns.length m, .int .i64 r.nx] 35)).alloc (.cells #[.int .i64 (Tm.k r.t), .int .i64 (Tm.n r.t), .string (Tm.s r.t), .slice A' (Tm.l r.t).length c', .slice n' r.ns.length m', .int .i64 r.nx] 35)
  have b1 := (Blk.new w 35 #[.int .i64 (Tm.k r.t), .int .i64 (Tm.n r.t), .string (Tm.s r.t), .slice A (Tm.l r.t).length c, .slice n r.ns.length m, .int .i64 r.nx]).ext (ext_box4 _ (.cells #[.int .i64 (Tm.k r.t), .int .i64 (Tm.n r.t), .string (Tm.s r.t), .slice A' (Tm.l r.t).length c', .slice n' r.ns.length m', .int .i64 r.nx] 35))
  have b2 := Blk.new (w.alloc (.cells #[.int .i64 (Tm.k r.t), .int .i64 (Tm.n r.t), .string (Tm.s r.t), .slice A (Tm.l r.t).length c, .slice n r.ns.length m, .int .i64 r.nx] 35)) 35 #[.int .i64 (Tm.k r.t), .int .i64 (Tm.n r.t), .string (Tm.s r.t), .slice A' (Tm.l r.t).length c', .slice n' r.ns.length m', .int .i64 r.nx]
  simp only [World.size_alloc] at b2
  have hexr := exT_refl r.t
  have HEX := Lib.hid (exact_any _ r.t r.t (Nat.le_refl _) (by have := hs.sz; omega) A A' c c' _ _ _ (h1.tm.ext x0) (h2.tm.ext x0))
  rw [hexr] at HEX
  unfold tmVal at HEX
  have HX := Lib.hid x0
  have HB1 := Lib.hid b1
  have HB2 := Lib.hid b2
  have HN1 := Lib.hid (h1.ns.ext x0)
  have HN2 := Lib.hid (h2.ns.ext x0)
  have hnl := hs.ns
  clear h1 h2 hs x0 b1 b2 hexr
  go_enter Tryz.func16, Tryz.ntmps16
  go_upto_region 1 with fail
  generalize (w.alloc (.cells #[.int .i64 (Tm.k r.t), .int .i64 (Tm.n r.t), .string (Tm.s r.t), .slice A (Tm.l r.t).length c, .slice n r.ns.length m, .int .i64 r.nx] 35)).alloc (.cells #[.int .i64 (Tm.k r.t), .int .i64 (Tm.n r.t), .string (Tm.s r.t), .slice A' (Tm.l r.t).length c', .slice n' r.ns.length m', .int .i64 r.nx] 35) = W0 at *
  have k1 := HB1.out.cell
  have k2 := HB2.out.cell
  go_upto_region 3 with (go_at_call 22; refine HEX.out.mono ?_; rintro e W1 ⟨rfl, x1⟩; have X1 := Lib.hid x1; clear x1)
  have X2 := Lib.hid (HX.out.trans X1.out)
  have HB3 := Lib.hid (HB1.out.ext X1.out)
  have HB4 := Lib.hid (HB2.out.ext X1.out)
  have HN3 := Lib.hid (HN1.out.ext X1.out)
  have HN4 := Lib.hid (HN2.out.ext X1.out)
  clear k1 k2 HB1 HB2 HN1 HN2 HEX HX X1
  go_wp2_with fail
  go_loopw [5] (fun i wr => ∃ k : Nat, k ≤ r.ns.length ∧ i = .int .i64 k ∧ Hid (Ext W1 wr)) (fun i _ => r.ns.length + 1 - (intOf i).toNat)
  case atStart => exact ⟨0, Nat.zero_le _, rfl, Lib.hid (Ext.refl _)⟩
  case round =>
    obtain ⟨k, hk, rfl, HR⟩ := hrel
    have k1 := (HB3.out.ext HR.out).cell
    have k2 := (HB4.out.ext HR.out).cell
    by_cases hlt : k < r.ns.length
    · obtain ⟨s, hsk⟩ : ∃ s, r.ns[k]? = some s := ⟨_, List.getElem?_eq_getElem hlt⟩
      obtain ⟨b, off, rfl, e1⟩ := name_at (HN3.out.ext HR.out) hsk
      obtain ⟨b', off', rfl, e2⟩ := name_at (HN4.out.ext HR.out) hsk
      have hq1 : (k : Int) < (r.ns.length : Int) := by omega
      have hss : (s.toList != s.toList) = false := by simp
      have hss2 : (s.toList == s.toList) = true := by simp
      clear hsk
      go_upto_region 6 with fail
      go_quiet (fail)
      go_wp2_with fail
      go_roundw
      case rel => exact ⟨k + 1, hlt, by go_num, Lib.hid (HR.out.drewN _)⟩
      case measure => simp [intOf]; omega
    · go_wp2_with fail
      go_ret
      exact ⟨rfl, X2.out.trans HR.out⟩
end Go.Proofs.YtgcdhffeacdegaaGreatDoor

/- Layer 10, the reference: the parser's state. -/
namespace Go.Proofs.YtgcdhffeacdegaaGreatDoor
open Go.RowKit Go.El

/-- What stays of the reference's parser: its block, the tokens, the operators. -/
structure RF where
  pb : Nat
  A : Option Addr
  cap : Nat
  L : List TokV
  I : List OpV
  Q : List OpV
  T : List OpV
  tb : Nat
  tv : Value
def RF.S (f : RF) : List Nat := [f.pb, f.pb]
def RF.O (f : RF) : Ops := ⟨fun s => findO s f.I, fun s => findO s f.Q⟩
/-- The blocks of a parser lie below B. -/
def RF.old (f : RF) (B : Nat) : Prop := f.pb < B ∧ f.tb < B ∧ (∀ b, f.tv.ownBlock = some b → b < B) ∧ ∀ a, f.A = some a → a.block < B
theorem RF.old.mono {f : RF} {B C : Nat} (h : f.old B) (hc : B ≤ C) : f.old C := by
  obtain ⟨h1, h2, h3, h4⟩ := h
  exact ⟨by omega, by omega, fun b hb => by have := h3 b hb; omega, fun a ha => by have := h4 a ha; omega⟩
end Go.Proofs.YtgcdhffeacdegaaGreatDoor

/- Law 10: the walks of ParseAll and ParseOne. -/
namespace Go.Proofs.YtgcdhffeacdegaaGreatDoor
open Go.RowKit Go.El

theorem rd_cells {w : World} {A : Option Addr} {M : List RdP} (h : El.Src w A M.length 6 (flat rdC M)) {k : Nat} {r : ReadV} {a n : Option Addr} {c m : Nat} (hk : M[k]? = some (r, a, c, n, m)) : ∃ b off, A = some ⟨b, off, none⟩ ∧ w.cell? ⟨b, off + k * 6, none⟩ = some (.int .i64 (Tm.k r.t)) ∧ w.cell? ⟨b, off + k * 6 + 1, none⟩ = some (.int .i64 (Tm.n r.t)) ∧ w.cell? ⟨b, off + k * 6 + 2, none⟩ = some (.string (Tm.s r.t)) ∧ w.cell? ⟨b, off + k * 6 + 3, none⟩ = some (.slice a (Tm.l r.t).length c) ∧ w.cell? ⟨b, off + k * 6 + 4, none⟩ = some (.slice n r.ns.length m) ∧ w.cell? ⟨b, off + k * 6 + 5, none⟩ = some (.int .i64 r.nx) := by
  have hlt : k < M.length := (List.getElem?_eq_some_iff.1 hk).1
  obtain ⟨b, off, rfl, hc⟩ := El.Src.form h (by omega) (by omega)
  exact ⟨b, off, rfl, hc (k * 6) _ (flat_at rdC_len M k 0 _ hk (by omega)), hc (k * 6 + 1) _ (flat_at rdC_len M k 1 _ hk (by omega)), hc (k * 6 + 2) _ (flat_at rdC_len M k 2 _ hk (by omega)), hc (k * 6 + 3) _ (flat_at rdC_len M k 3 _ hk (by omega)), hc (k * 6 + 4) _ (flat_at rdC_len M k 4 _ hk (by omega)), hc (k * 6 + 5) _ (flat_at rdC_len M k 5 _ hk (by omega))⟩
theorem RdIn.ext {D : Nat → Prop} {w w' : World} {p : RdP} (h : RdIn D w p) (x : Ext w w') : RdIn D w' p := RdIn.mods (Mods.ext (S := []) x) (fun _ _ => by simp) (fun _ hk => hk) h

theorem OnePost.two {w w' : World} {X : ReadV × Int} {e : Ending} (h : OnePost w X e w') : ∃ A c n q, e = .returned (.tuple #[.agg #[.int .i64 (Tm.k X.1.t), .int .i64 (Tm.n X.1.t), .string (Tm.s X.1.t), .slice A (Tm.l X.1.t).length c, .slice n X.1.ns.length q, .int .i64 X.1.nx], .int .i64 X.2]) ∧ RdIn (fun b => w.heap.size ≤ b ∧ b < w'.heap.size) w' (X.1, A, c, n, q) ∧ Ext w w' := by
  obtain ⟨v, rfl, ⟨A, c, n, q, rfl, ht, hs, hq, hn⟩, hx⟩ := h
  exact ⟨A, c, n, q, rfl, ⟨ht, hs, hq, hn⟩, hx⟩
theorem oneR_small {O : Ops} {B : List UInt8} (hB : B.length ≤ 65536) : SmallR (oneR O B).1 := by
  unfold oneR oneX
  split
  · exact small_zero
  · split
    · exact small_zero
    · cases hl : (allR O B).1 with
      | nil => exact small_zero
      | cons r l => exact (allR_small hB).1 r (by rw [hl]; simp)

end Go.Proofs.YtgcdhffeacdegaaGreatDoor

/- What the rows of this seat have in common: a slice of bytes that comes in; the listed variables; a start. -/
namespace Go.Proofs.YtgcdhffeacdegaaGreatDoor
open Go.RowKit Go.El Go.ChangeShapes Go.WideShapes Go.ChangeAt Go.Joins

theorem own : ownKnob Tryz.prog.godebug = none := by kernel_rfl
theorem laidOut : laidOutB Tryz.prog = true := by kernel_rfl

section
variable {H : Type} {enc : TypeId × Value → H} {W : World} {base : Nat} {spare : Nat → Bool} {held : Bool}
set_option maxRecDepth 100000 in
theorem open_bytes {r : Reach} {b0 : Nat} {v : Value} {d : DataW H} {ps : List MemPlace} (hv : Value.okWide Tryz.prog W r b0 23 v) (h : DataW.Trod enc Tryz.prog W base spare held 23 v d ps) :
    ∃ (A : Option Addr) (B : List UInt8) (c : Nat), v = .slice A B.length c ∧ BytesAt W A B ∧ B.length ≤ c ∧ c ≤ maxLen := by
  obtain ⟨a1, len, cap, rfl⟩ := okWide_slice Tryz.underlying23 hv
  obtain ⟨fuel, hf⟩ := h
  rcases open_ints Tryz.underlying23 Tryz.underlying5 (by kernel_rfl) hf with ⟨hcs, hx⟩ | ⟨a, len', cap', zs, hcs, _, hl, hm, hz, hx, hcell, hwz⟩
  · simp [Value.cells] at hcs
    obtain ⟨rfl, rfl, rfl⟩ := hcs
    exact ⟨none, [], 0, rfl, El.Src.none _ _ _, Nat.le_refl _, Nat.zero_le _⟩
  · simp [Value.cells] at hcs
    obtain ⟨rfl, rfl, rfl⟩ := hcs
    have hlz : len ≤ zs.length := by rw [hz]; split <;> omega
    have hlen : ((zs.take len).map fun n => UInt8.ofNat n.toNat).length = len := by simp; omega
    refine ⟨some a, (zs.take len).map fun n => UInt8.ofNat n.toNat, cap, by rw [hlen], ?_, by rw [hlen]; exact hl, hm⟩
    refine ⟨by simp, fun _ => ⟨a, rfl, fun j u hu => ?_⟩⟩
    have hj : j < len := by
      have := (List.getElem?_eq_some_iff.1 hu).1
      simp at this
      omega
    rw [hcell j (by omega)]
    rw [← hu]
    have hb := range_u8 hwz j
    have e : zs[j]? = some zs[j] := List.getElem?_eq_getElem (by omega)
    simp only [e, Option.getD_some] at hb
    simp only [List.getElem?_map, List.getElem?_take, hj, if_true, e, Option.map_some, u8V, List.getD_eq_getElem?_getD, Option.getD_some]
    congr 2
    simp only [UInt8.toNat_ofNat']
    omega
end

def laidL : List (String × DataW Unit) := Rows.parseAllRow.laid
def errName : String := (laidL.drop 3).head?.elim "" (·.1)
def tyName : String := (laidL.drop 5).head?.elim "" (·.1)
theorem err_list : laidL = (laidL.take 3) ++ (errName, Rows.laid_strconv_ErrRange) :: laidL.drop 4 := by rfl
theorem ty_list : laidL = (laidL.take 5) ++ (tyName, .agg (([[], [120, 102, 120], [120, 102, 121], [121, 102, 120], [102, 121], [102, 120]] : List (List UInt8)).map fun l => .lit (.string l))) :: laidL.drop 6 := by rfl

theorem laidVars_app {P : Program} {w : World} : ∀ {a b : List (String × DataW Unit)} {ps : List MemPlace}, DataW.LaidVars P w (a ++ b) ps → ∃ qs, DataW.LaidVars P w b qs
  | [], _, ps, h => ⟨ps, h⟩
  | (_, _) :: _, _, _, ⟨_, _, _, _, _, _, _, _, _, _, h, _⟩ => laidVars_app h

set_option maxRecDepth 100000 in
theorem glob_of_laid {W : World} (h : laidMetH Tryz.prog laidL W) (hs : W.ShapedOpen Tryz.prog) : Glob W := by
  rw [MakeChecks.laidMetH_plain _ _ _ (by kernel_rfl), err_list] at h
  obtain ⟨ps, h, _, _⟩ := h
  obtain ⟨qs, h⟩ := laidVars_app h
  obtain ⟨g', t', cs, fuel, p, q, hg', ht', hvar, hd, _, _⟩ := h
  have hg : Tryz.prog.globalNamed errName = some 4 := by kernel_rfl
  have hty : ((Tryz.prog.globals[4]?).map (·.type)) = some 127 := by kernel_rfl
  obtain rfl := Option.some.inj (hg.symm.trans hg')
  obtain rfl := Option.some.inj (hty.symm.trans ht')
  obtain ⟨_, u, v, hcs, _, _⟩ := iface_of_trod Tryz.underlying127 hd
  refine ⟨cell_of_shapedOpen_int (t := 3) (zero := #[.int .i64 0]) hs (by decide +kernel) (by kernel_rfl) rfl (by kernel_rfl) (by kernel_rfl) Tryz.underlying3, u, v, ?_⟩
  rw [World.var?_cell hg hvar 0, ← Array.getElem?_toList, hcs]
  rfl

set_option maxRecDepth 100000 in
theorem ty_of_laid {W : World} (h : laidMetH Tryz.prog laidL W) : TypesAt 0 W := by
  rw [MakeChecks.laidMetH_plain _ _ _ (by kernel_rfl), ty_list] at h
  obtain ⟨ps, h, _, _⟩ := h
  obtain ⟨qs, h⟩ := laidVars_app h
  obtain ⟨g', t', cs, fuel, p, q, hg', ht', hvar, hd, _, _⟩ := h
  have hg : Tryz.prog.globalNamed tyName = some 0 := by kernel_rfl
  have hty : ((Tryz.prog.globals[0]?).map (·.type)) = some 135 := by kernel_rfl
  obtain rfl := Option.some.inj (hg.symm.trans hg')
  obtain rfl := Option.some.inj (hty.symm.trans ht')
  have hcs := cells_of_strs Tryz.underlying135 Tryz.underlying9 (by kernel_rfl) (by kernel_rfl) hd
  have key : ∀ i, W.cell? ⟨0, i, none⟩ = ((([[], [120, 102, 120], [120, 102, 121], [121, 102, 120], [102, 121], [102, 120]] : List (List UInt8)).map fun l => Value.string ⟨l.toArray⟩))[i]? := fun i => by
    rw [World.var?_cell hg hvar i, ← Array.getElem?_toList, hcs]
  exact ⟨key 0, key 1, key 2, key 3, key 4, key 5⟩
/-- What the variables that are listed give. -/
structure EnvP (W : World) : Prop where
  g : Glob W
  t : TypesAt 0 W
theorem env_of_laid {W : World} (h : laidMetH Tryz.prog laidL W) (hs : W.ShapedOpen Tryz.prog) : EnvP W := ⟨glob_of_laid h hs, ty_of_laid h⟩

noncomputable def laidWorld (os : Os) : World := World.laidAll Tryz.prog os laidL
set_option maxRecDepth 100000 in
theorem laid_met (os : Os) (args : Array Value) : laidMetH Tryz.prog laidL ((laidWorld os).forCall (fun _ _ => 0) ⟨#[], args, []⟩).memory := by
  rw [MakeChecks.laidMetH_plain _ _ _ (by kernel_rfl)]
  exact laidMet_laidAll _ (by kernel_rfl) (by kernel_rfl)
/-- Operators that come in. -/
theorem opType : OpType Tryz.prog 70 3 9 := ⟨⟨_, _, _, Tryz.underlying70, rfl, rfl, rfl, rfl, rfl, rfl⟩, Tryz.underlying3, Tryz.underlying9, by kernel_rfl, by kernel_rfl, by kernel_rfl⟩

end Go.Proofs.YtgcdhffeacdegaaGreatDoor
