/- Law 10: large; two readings that are the same. -/
import Derived.Test.YtgcdhffeacdegaaGreatDoorC38
import Derived.Deep.QuietTactic
import Derived.BigQuiet
namespace Go.Proofs.YtgcdhffeacdegaaGreatDoor
open Go.RowKit Go.El

set_option maxRecDepth 100000 in
set_option maxHeartbeats 2000000 in
theorem ops10Large_any (A : Option Addr) (c : Nat) (L : List OpV) (w : World) (h1 : El.Src w A L.length 3 (flat opCells L)) (hL : L.length ≤ 9223372036854775807) (hg : ∀ o ∈ L, o.s.size ≤ 9223372036854775807) (b : Bool) (hb : b = true ↔ LgO L) :
    Calls Tryz.prog 11 #[.slice A L.length c] w fun e w' => e = .returned (.bool b) ∧ Ext w w' := by
  have H1 := Lib.hid h1
  have HG := Lib.hid hg
  have HB := Lib.hid hb
  clear h1 hg hb
  go_enter Tryz.func11, Tryz.ntmps11
  go_wp2_with fail
  go_loopw [3] (fun i wr => ∃ k : Nat, k ≤ L.length ∧ k ≤ 30 ∧ i = .int .i64 k ∧ Ext w wr ∧ Hid (∀ (j : Nat) (o : OpV), j < k → L[j]? = some o → ¬ 200 < o.s.size)) (fun i _ => 31 - (intOf i).toNat)
  case atStart => exact ⟨0, Nat.zero_le _, Nat.zero_le _, rfl, Ext.refl _, Lib.hid (fun j o h => by omega)⟩
  case round =>
    obtain ⟨k, hk, hk30, rfl, hx, HN⟩ := hrel
    by_cases hlt : k < L.length
    · by_cases hlt3 : k < 30
      · obtain ⟨b0, off, rfl, e0, e1, e2⟩ := src_op H1.out hlt
        have hs := HG.out L[k] (List.getElem_mem hlt)
        have d2 := hx.cell e2
        clear e0 e1 e2
        have hk' : L[k]? = some L[k] := List.getElem?_eq_getElem hlt
        have HK := Lib.hid hk'
        clear hk'
        generalize L[k] = x at *
        have HQ := Lib.hid (rfl : x.s = x.s)
        revert HQ
        generalize hxs : x.s = s at hs d2 ⊢
        have HXS := Lib.hid hxs
        clear hxs
        intro HQ
        clear HQ
        by_cases hz : 200 < s.size
        · go_wp2_with fail
          go_ret
          exact ⟨ret_boolP ⟨fun _ => HB.out.2 (.inl ⟨k, x, hlt3, HK.out, by rw [HXS.out]; exact hz⟩), fun _ => rfl⟩, hx⟩
        · go_wp2_with fail
          go_roundw
          case rel => exact ⟨k + 1, hlt, hlt3, by go_num, hx, Lib.hid (fun j o hj ho => by
            rcases Nat.lt_succ_iff_lt_or_eq.1 hj with h | rfl
            · exact HN.out j o h ho
            · obtain rfl := Option.some.inj (ho.symm.trans HK.out)
              rw [HXS.out]; exact hz)⟩
          case measure => simp [intOf]; omega
      · go_wp2_with fail
        go_ret
        exact ⟨ret_boolP (by
        rw [HB.out, decide_eq_true_iff]
        unfold LgO
        constructor
        · intro h; exact .inr (by omega)
        · rintro (⟨j, o, h1, h2, h3⟩ | h)
          · exact absurd h3 (HN.out j o (by have := (List.getElem?_eq_some_iff.1 h2).1; omega) h2)
          · omega), hx⟩
    · go_wp2_with fail
      go_ret
      exact ⟨ret_boolP (by
        rw [HB.out, decide_eq_true_iff]
        unfold LgO
        constructor
        · intro h; exact .inr (by omega)
        · rintro (⟨j, o, h1, h2, h3⟩ | h)
          · exact absurd h3 (HN.out j o (by have := (List.getElem?_eq_some_iff.1 h2).1; omega) h2)
          · omega), hx⟩

theorem name_at {w : World} {A : Option Addr} {ns : List ByteArray} (h : El.Src w A ns.length 1 (ns.map Value.string)) {k : Nat} {s : ByteArray} (hk : ns[k]? = some s) : ∃ b off, A = some ⟨b, off, none⟩ ∧ w.cell? ⟨b, off + k, none⟩ = some (.string s) := by
  have hlt : k < ns.length := (List.getElem?_eq_some_iff.1 hk).1
  obtain ⟨b, off, rfl, hc⟩ := El.Src.form h (by omega) (by omega)
  exact ⟨b, off, rfl, hc k _ (by rw [List.getElem?_map, hk]; rfl)⟩

set_option maxRecDepth 100000 in
set_option maxHeartbeats 4000000 in
theorem same_read (r : ReadV) (A A' n n' : Option Addr) (c c' m m' : Nat) (w : World) (D E : Nat → Prop) (h1 : RdIn D w (r, A, c, n, m)) (h2 : RdIn E w (r, A', c', n', m')) (hs : SmallR r) :
    Calls Tryz.prog 16 #[.agg #[.int .i64 (Tm.k r.t), .int .i64 (Tm.n r.t), .string (Tm.s r.t), .slice A (Tm.l r.t).length c, .slice n r.ns.length m, .int .i64 r.nx], .agg #[.int .i64 (Tm.k r.t), .int .i64 (Tm.n r.t), .string (Tm.s r.t), .slice A' (Tm.l r.t).length c', .slice n' r.ns.length m', .int .i64 r.nx]] w fun e w' => e = .returned (.bool true) ∧ Ext w w' := by
  have x0 := ((Ext.refl w).alloc (.cells #[.int .i64 (Tm.k r.t), .int .i64 (Tm.n r.t), .string (Tm.s r.t), .slice A (Tm.l r.t).length c, .slice n r.ns.length m, .int .i64 r.nx] 35)).alloc (.cells #[.int .i64 (Tm.k r.t), .int .i64 (Tm.n r.t), .string (Tm.s r.t), .slice A' (Tm.l r.t).length c', .slice n' r.ns.length m', .int .i64 r.nx] 35)
  have b1 := (Blk.new w 35 #[.int .i64 (Tm.k r.t), .int .i64 (Tm.n r.t), .string (Tm.s r.t), .slice A (Tm.l r.t).length c, .slice n r.ns.length m, .int .i64 r.nx]).ext (ext_box4 _ (.cells #[.int .i64 (Tm.k r.t), .int .i64 (Tm.n r.t), .string (Tm.s r.t), .slice A' (Tm.l r.t).length c', .slice n' r.ns.length m', .int .i64 r.nx] 35))
  have b2 := Blk.new (w.alloc (.cells #[.int .i64 (Tm.k r.t), .int .i64 (Tm.n r.t), .string (Tm.s r.t), .slice A (Tm.l r.t).length c, .slice n r.ns.length m, .int .i64 r.nx] 35)) 35 #[.int .i64 (Tm.k r.t), .int .i64 (Tm.n r.t), .string (Tm.s r.t), .slice A' (Tm.l r.t).length c', .slice n' r.ns.length m', .int .i64 r.nx]
  simp only [World.size_alloc] at b2
  have hexr := exT_refl r.t
  have HEX := Lib.hid (exact_any _ r.t r.t (Nat.le_refl _) (by have := hs.sz; omega) A A' c c' _ _ _ (h1.tm.ext x0) (h2.tm.ext x0))
  rw [hexr] at HEX
  unfold tmVal at HEX
  have HX := Lib.hid x0
  have HB1 := Lib.hid b1
  have HB2 := Lib.hid b2
  have HN1 := Lib.hid (h1.ns.ext x0)
  have HN2 := Lib.hid (h2.ns.ext x0)
  have hnl := hs.ns
  clear h1 h2 hs x0 b1 b2 hexr
  go_enter Tryz.func16, Tryz.ntmps16
  go_upto_region 1 with fail
  generalize (w.alloc (.cells #[.int .i64 (Tm.k r.t), .int .i64 (Tm.n r.t), .string (Tm.s r.t), .slice A (Tm.l r.t).length c, .slice n r.ns.length m, .int .i64 r.nx] 35)).alloc (.cells #[.int .i64 (Tm.k r.t), .int .i64 (Tm.n r.t), .string (Tm.s r.t), .slice A' (Tm.l r.t).length c', .slice n' r.ns.length m', .int .i64 r.nx] 35) = W0 at *
  have k1 := HB1.out.cell
  have k2 := HB2.out.cell
  go_upto_region 3 with (go_at_call 22; refine HEX.out.mono ?_; rintro e W1 ⟨rfl, x1⟩; have X1 := Lib.hid x1; clear x1)
  have X2 := Lib.hid (HX.out.trans X1.out)
  have HB3 := Lib.hid (HB1.out.ext X1.out)
  have HB4 := Lib.hid (HB2.out.ext X1.out)
  have HN3 := Lib.hid (HN1.out.ext X1.out)
  have HN4 := Lib.hid (HN2.out.ext X1.out)
  clear k1 k2 HB1 HB2 HN1 HN2 HEX HX X1
  go_wp2_with fail
  go_loopw [5] (fun i wr => ∃ k : Nat, k ≤ r.ns.length ∧ i = .int .i64 k ∧ Hid (Ext W1 wr)) (fun i _ => r.ns.length + 1 - (intOf i).toNat)
  case atStart => exact ⟨0, Nat.zero_le _, rfl, Lib.hid (Ext.refl _)⟩
  case round =>
    obtain ⟨k, hk, rfl, HR⟩ := hrel
    have k1 := (HB3.out.ext HR.out).cell
    have k2 := (HB4.out.ext HR.out).cell
    by_cases hlt : k < r.ns.length
    · obtain ⟨s, hsk⟩ : ∃ s, r.ns[k]? = some s := ⟨_, List.getElem?_eq_getElem hlt⟩
      obtain ⟨b, off, rfl, e1⟩ := name_at (HN3.out.ext HR.out) hsk
      obtain ⟨b', off', rfl, e2⟩ := name_at (HN4.out.ext HR.out) hsk
      have hq1 : (k : Int) < (r.ns.length : Int) := by omega
      have hss : (s.toList != s.toList) = false := by simp
      have hss2 : (s.toList == s.toList) = true := by simp
      clear hsk
      go_upto_region 6 with fail
      go_quiet (fail)
      go_wp2_with fail
      go_roundw
      case rel => exact ⟨k + 1, hlt, by go_num, Lib.hid (HR.out.drewN _)⟩
      case measure => simp [intOf]; omega
    · go_wp2_with fail
      go_ret
      exact ⟨rfl, X2.out.trans HR.out⟩
end Go.Proofs.YtgcdhffeacdegaaGreatDoor
