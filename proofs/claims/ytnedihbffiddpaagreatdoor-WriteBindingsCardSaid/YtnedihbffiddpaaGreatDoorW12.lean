/- Layer 11, the program: what a writer leans on; the contract of term; the walk of row. -/
import Derived.Test.YtnedihbffiddpaaGreatDoorW10
import Derived.Test.YtnedihbffiddpaaGreatDoorW11
import Derived.Test.YtnedihbffiddpaaGreatDoorLay
namespace Go.Proofs.YtnedihbffiddpaaGreatDoor
open Go.RowKit Go.El

noncomputable def pwName : String := (Tryz.prog.globals[1]?).elim "" (·.name)
theorem pwNamed : Tryz.prog.globalNamed pwName = some 1 := by kernel_rfl
/-- The package's tables, as the calls read them. -/
structure Env (w : World) : Prop where
  tz : TzAt w
  pw : Lib.TabIs Tryz.prog w pwName .u64 Lib.pow10Tab
  ty : TypesAt 0 w
theorem var_mods {S : List Nat} {w w' : World} {n : String} {g : Nat} (hg : Tryz.prog.globalNamed n = some g) (hm : Mods S w w') (hS : g ∉ S) {cs : Array Value} (h : w.var? Tryz.prog n = some cs) : w'.var? Tryz.prog n = some cs := by
  unfold World.var? at h ⊢
  simp only [hg, Option.bind_some] at h ⊢
  have hlt : g < w.heap.size := by
    rcases Nat.lt_or_ge g w.heap.size with h' | h'
    · exact h'
    · simp [Array.getElem?_eq_none h'] at h
  rw [hm.block g hlt hS]
  exact h
theorem types_mods {S : List Nat} {w w' : World} {g : Nat} (h : TypesAt g w) (hm : Mods S w w') (hS : g ∉ S) : TypesAt g w' := by
  obtain ⟨h0, h1, h2, h3, h4, h5⟩ := h
  exact ⟨hm.cell h0 hS, hm.cell h1 hS, hm.cell h2 hS, hm.cell h3 hS, hm.cell h4 hS, hm.cell h5 hS⟩
theorem Env.mods {S : List Nat} {w w' : World} (h : Env w) (hm : Mods S w w') (h1 : 4 ∉ S) (h2 : 1 ∉ S) (h3 : 0 ∉ S) : Env w' :=
  ⟨hm.cell h.tz h1, var_mods pwNamed hm h2 h.pw, types_mods h.ty hm h3⟩
theorem Env.ext {w w' : World} (h : Env w) (x : Ext w w') : Env w' := h.mods (Mods.ext (S := []) x) (by simp) (by simp) (by simp)
/-- .. beside a writer. -/
structure EnvIn (w : World) (b : Nat) (v : Value) : Prop where
  env : Env w
  c1 : Clr w b v 4
  c2 : Clr w b v 1
  c3 : Clr w b v 0
theorem EnvIn.step {w w' : World} {b : Nat} {v v' : Value} (h : EnvIn w b v) (s : WStep b v w v' w') : EnvIn w' b v' :=
  ⟨h.env.mods s.mods h.c1.no h.c2.no h.c3.no, s.clr h.c1, s.clr h.c2, s.clr h.c3⟩

/-- What term does at terms of at most so many parts. -/
def TermC (N : Nat) : Prop := ∀ t, szT t ≤ N → mayT t = true → ∀ (base : Nat) (w : World) (b : Nat) (v : Value) (F : List UInt8) (o : OpsV) (op : Value) (most : Int) (A : Option Addr) (c : Nat), WrSt base w b v F o op → EnvIn w b v → TmIn (Clr w b v) w t A c → F.length + 400 * szT t ≤ 800000000 → -9000000000000000000 ≤ most → most ≤ 9000000000000000000 →
  Calls Tryz.prog 26 #[.pointer (some ⟨b, 0, none⟩), tmVal t A c, .int .i64 most] w fun e w' => e = .returned (.tuple #[]) ∧ WrPost base w b v F (txT o t most) o op w'

/-- A new block is none of the writer's. -/
theorem box_clr {base : Nat} {wr : World} {obj : Obj} {b : Nat} {v : Value} {F : List UInt8} {o : OpsV} {op : Value} (h : WrSt base (wr.alloc obj) b v F o op) (hb : b < wr.heap.size) (hv : ∀ k, v.ownBlock = some k → k < wr.heap.size) : Clr (wr.alloc obj) b v wr.heap.size := by
  have := h.low
  exact ⟨by omega, fun e => by have := hv _ e; omega, by rw [World.size_alloc]; omega⟩

set_option maxRecDepth 100000 in
set_option maxHeartbeats 4000000 in
theorem row_any (N : Nat) (IH : TermC N) (l : List Tm) (hN : ∀ (j : Nat) (u : Tm), l[j]? = some u → szT u ≤ N ∧ mayT u = true) (base : Nat) (w : World) (b : Nat) (v : Value) (F : List UInt8) (o : OpsV) (op : Value) (A : Option Addr) (c : Nat) (h : WrSt base w b v F o op) (he : EnvIn w b v) (ht : TmsIn (Clr w b v) w l A c) (hl : F.length + 400 * szL l ≤ 800000000)
    (hlen : ∀ j, (rwT o (l.take j)).length + min j l.length ≤ 400 * szL (l.take j)) :
    Calls Tryz.prog 47 #[.pointer (some ⟨b, 0, none⟩), .slice A l.length c] w fun e w' => e = .returned (.tuple #[]) ∧ WrPost base w b v F (rwT o l) o op w' := by
  have H := Lib.hid h
  have HE := Lib.hid he
  have HT := Lib.hid ht
  have hll := len_szL l
  clear h he ht
  go_enter Tryz.func47, Tryz.ntmps47
  go_upto_region 1 with fail
  go_loopw [8] (fun i wr => ∃ (j : Nat) (v1 : Value), j ≤ l.length ∧ i = .int .i64 j ∧ Hid (WrSt base wr b v1 (F ++ rwT o (l.take j)) o op) ∧ Hid (WStep b v w v1 wr)) (fun i _ => l.length - (intOf i).toNat)
  case atStart => exact ⟨0, v, Nat.zero_le _, rfl, by simpa [rwT] using H, WStep.refl _ _ _⟩
  case round =>
    obtain ⟨j, v1, hj, rfl, HW, HS⟩ := hrel
    by_cases hlt : j < l.length
    · have ho : l[j]? = some l[j] := List.getElem?_eq_getElem hlt
      obtain ⟨hsu, hmu⟩ := hN j _ ho
      generalize l[j] = u at ho hsu hmu
      have hrt := Lib.hid (rwT_take o ho)
      have hst := szL_take ho
      have hs1 := szL_take_le l (j + 1)
      have hle := hlen j
      obtain ⟨bb, off, A', c', rfl, _, hu, q0, q1, q2, q3⟩ := (HS.out.tm HT.out).child ho
      have HU := Lib.hid (WStep.tm (WStep.ext (ext_box wr (.cells #[.int .i64 u.k, .int .i64 u.n, .string u.s, .slice A' u.l.length c'] 27))) hu)
      have HE1 := Lib.hid (HE.out.step HS.out)
      have HE2 := Lib.hid (HE1.out.step (WStep.ext (ext_box wr (.cells #[.int .i64 u.k, .int .i64 u.n, .string u.s, .slice A' u.l.length c'] 27))))
      have HW2 := Lib.hid (HW.out.go (ext_box wr (.cells #[.int .i64 u.k, .int .i64 u.n, .string u.s, .slice A' u.l.length c'] 27)))
      have HS2 := Lib.hid (HS.out.trans (WStep.ext (b := b) (v := v1) (ext_box wr (.cells #[.int .i64 u.k, .int .i64 u.n, .string u.s, .slice A' u.l.length c'] 27))))
      clear ho hu
      have hbl : b < wr.heap.size := (HW.out.bld.choose_spec).blk.lt
      have hvl : ∀ k, v1.ownBlock = some k → k < wr.heap.size := fun k e => ((HW.out.bld.choose_spec).own.lt k e).2
      clear HE1 HW HS
      by_cases hj0 : j = 0
      · have hjc : ¬ (0 : Int) < (j : Int) := by omega
        rw [if_pos hj0, List.append_nil] at hrt
        clear hj0
        go_upto_region 5 with fail
        go_wp2_with (go_at_call 26; refine (IH u hsu hmu base _ b v1 _ o op 999 A' c' HW2.out HE2.out HU.out (by simp only [List.length_append]; omega) (by omega) (by omega)).mono ?_; rintro e w3 ⟨rfl, v3, h3, s3⟩; have H3 := Lib.hid h3; have S3 := Lib.hid (HS2.out.trans s3); clear h3 s3)
        go_roundw
        case rel =>
          refine ⟨j + 1, v3, hlt, by go_num, ?_, S3.out⟩
          rw [hrt.out, ← List.append_assoc]
          exact H3.out
        case measure => simp [intOf]; omega
      · have hjc : (0 : Int) < (j : Int) := by omega
        rw [if_neg hj0] at hrt
        clear hj0
        go_upto_region 5 with (go_at_call 48; refine (wrByte HW2.out 44 (by simp only [List.length_append]; omega)).mono ?_; rintro e w2 ⟨rfl, v2, h2, s2⟩; have H2 := Lib.hid h2; have S2 := Lib.hid (HS2.out.trans s2); have HE3 := Lib.hid (HE2.out.step s2); have HU3 := Lib.hid (s2.tm HU.out); have xb := s2.mods.heap (k := wr.heap.size) (Blk.new wr 27 #[.int .i64 u.k, .int .i64 u.n, .string u.s, .slice A' u.l.length c']) (box_clr HW2.out hbl hvl).no; have HXB := Lib.hid (show Blk w2 wr.heap.size 27 #[.int .i64 u.k, .int .i64 u.n, .string u.s, .slice A' u.l.length c'] from xb); clear h2 s2 xb)
        have x0 : w2.cell? ⟨wr.heap.size, 0, none⟩ = some (.int .i64 u.k) := HXB.out.cell 0
        have x1 : w2.cell? ⟨wr.heap.size, 1, none⟩ = some (.int .i64 u.n) := HXB.out.cell 1
        have x2 : w2.cell? ⟨wr.heap.size, 2, none⟩ = some (.string u.s) := HXB.out.cell 2
        have x3 : w2.cell? ⟨wr.heap.size, 3, none⟩ = some (.slice A' u.l.length c') := HXB.out.cell 3
        go_wp2_with (go_at_call 26; refine (IH u hsu hmu base _ b v2 _ o op 999 A' c' H2.out HE3.out HU3.out (by simp only [List.length_append, List.length_cons, List.length_nil]; omega) (by omega) (by omega)).mono ?_; rintro e w3 ⟨rfl, v3, h3, s3⟩; have H3 := Lib.hid h3; have S3 := Lib.hid (S2.out.trans s3); clear h3 s3)
        go_roundw
        case rel =>
          refine ⟨j + 1, v3, hlt, by go_num, ?_, S3.out⟩
          rw [hrt.out, ← List.append_assoc, ← List.append_assoc]
          exact H3.out
        case measure => simp [intOf]; omega
    · obtain rfl : j = l.length := by omega
      rw [List.take_length] at HW
      go_wp2_with fail
      go_end0
      exact ⟨rfl, v1, HW.out, HS.out⟩

end Go.Proofs.YtnedihbffiddpaaGreatDoor
