/- Layer 8, the reference: the walks of All, SameAll. -/
import Derived.Test.YtgjdajkkncdhmaaDoorRT9
namespace Go.Proofs.YtgjdajkkncdhmaaDoor
open Go.RowKit Go.El

def tokCells (t : TokV) : List Value := [.int .i64 t.kind, .string t.s, .int .i64 t.n, .int .i64 t.at_, .bool t.lay]
theorem tokCells_len : ∀ t, (tokCells t).length = 5 := fun _ => rfl
theorem tokCells_one (t : TokV) : ∀ u ∈ tokCells t, u.oneCell' = true := by
  intro u hu
  simp only [tokCells, List.mem_cons, List.not_mem_nil, or_false] at hu
  rcases hu with rfl | rfl | rfl | rfl | rfl <;> rfl
theorem tokInfo : (Tryd.prog.info? 30).map (fun i => (i.zero, i.size, i.bytes)) = some (some (tokV zeroT), 5, 48) := by kernel_rfl

/-- Tokens that a call has gathered in a slice of its own. -/
structure GathT (X wr : World) (v : Value) (F : List TokV) : Prop where
  own : wr.ownsRow 0 30 5 v F.length (flat tokCells F)
  far : ∀ b, v.ownBlock = some b → X.heap.size ≤ b
  ext : Ext X wr
theorem GathT.start (X : World) : GathT X X (.slice none 0 0) [] := ⟨World.ownsRow_nil _ _ _ _, fun b hb => by simp [Value.ownBlock] at hb, Ext.refl _⟩
theorem GathT.nil {X w : World} (h : Ext X w) : GathT X w (.slice none 0 0) [] := ⟨World.ownsRow_nil _ _ _ _, fun b hb => by simp [Value.ownBlock] at hb, h⟩
theorem GathT.go {X wr w' : World} {v : Value} {F : List TokV} (h : GathT X wr v F) (x : Ext wr w') : GathT X w' v F := ⟨own_ext h.own x, h.far, h.ext.trans x⟩
theorem GathT.step {X wr V w' : World} {v v' : Value} {F : List TokV} {o : TokV} (h : GathT X wr v F) (x : Ext wr V) (ho : w'.ownsRow 0 30 5 v' (F.length + 1) (flat tokCells F ++ tokCells o)) (hm : Mods (ownL v) V w') (hb : v'.ownBlock = v.ownBlock ∨ v'.ownBlock = some V.heap.size) : GathT X w' v' (F ++ [o]) := by
  refine ⟨?_, fun b hb' => ?_, ext_mods (h.ext.trans x) hm (fun k hk => h.far k (mem_ownL hk))⟩
  · rw [flat_append, List.length_append]
    have e : flat tokCells [o] = tokCells o := by simp [flat]
    rw [e]
    exact ho
  · rcases hb with e | e
    · exact h.far b (e.symm.trans hb')
    · rw [e] at hb'
      injection hb' with hb'
      subst hb'
      exact Nat.le_trans h.ext.size x.size
/-- A slice that reads as these tokens. -/
def TokAt (w : World) (v : Value) (F : List TokV) : Prop := ∃ A c, v = .slice A F.length c ∧ F.length ≤ c ∧ El.Src w A F.length 5 (flat tokCells F)
theorem TokAt.ext {w w' : World} {v : Value} {F : List TokV} (h : TokAt w v F) (x : Ext w w') : TokAt w' v F := by
  obtain ⟨A, c, rfl, hc, hs⟩ := h
  exact ⟨A, c, rfl, hc, hs.ext x⟩
theorem GathT.slice {X wr : World} {v : Value} {F : List TokV} (h : GathT X wr v F) : TokAt wr v F := by
  obtain ⟨A, c, rfl⟩ := own_value h.own
  refine ⟨A, c, rfl, ?_, El.Src.of_own h.own⟩
  rcases h.own.2 with ⟨h1, h2⟩ | ⟨g, cap, cur, hv, _, _, hnc, _⟩
  · rw [h2]; omega
  · injection hv with _ _ hc
    subst hc
    exact hnc

theorem src_new2 (w : World) (o : Obj) (t : TokV) : El.Src ((w.alloc o).alloc (.cells #[.int .i64 t.kind, .string t.s, .int .i64 t.n, .int .i64 t.at_, .bool t.lay] 30)) (some ⟨w.heap.size + 1, 0, none⟩) 1 5 (tokCells t) := by
  have := El.Src.new (w.alloc o) #[.int .i64 t.kind, .string t.s, .int .i64 t.n, .int .i64 t.at_, .bool t.lay] 30 1 5 rfl
  rw [World.size_alloc] at this
  exact this

/-- What All hands back. -/
def AllOut (w : World) (x : List TokV × Nat × Int) (e : Ending) (w' : World) : Prop := ∃ v, e = .returned (.tuple #[v, .int .i64 (x.2.1 : Int), .int .i64 x.2.2]) ∧ TokAt w' v x.1 ∧ Ext w w'

theorem rScan_at {B : List UInt8} {i : Nat} {t : TokV} {k : Nat} {x : Int} (hs : scanS B i = (t, k, x)) (A : Option Addr) (cap : Nat) (w : World) (h : BytesAt w A B) (hi : i ≤ B.length) (hB : B.length ≤ 65536) (hcap : B.length ≤ cap) :
    Calls Tryd.prog 16 #[.slice A B.length cap, .int .i64 (i : Int)] w fun e w' => e = .returned (.tuple #[.agg #[.int .i64 t.kind, .string t.s, .int .i64 t.n, .int .i64 t.at_, .bool t.lay], .int .i64 (k : Int), .int .i64 x]) ∧ Ext w w' := by
  have := rScan_any A cap B i w h hi hB hcap
  rw [hs] at this
  exact this

set_option maxRecDepth 100000 in
set_option maxHeartbeats 4000000 in
theorem rAll_any (A : Option Addr) (cap : Nat) (B : List UInt8) (w : World) (h : BytesAt w A B) (hB : B.length ≤ 65536) (hcap : B.length ≤ cap) :
    Calls Tryd.prog 9 #[.slice A B.length cap] w (AllOut w (allS B)) := by
  obtain ⟨i1, hi1, hz0, hz1, hz2⟩ := infoP tokInfo
  have H := Lib.hid h
  clear h
  go_enter Tryd.func9, Tryd.ntmps9
  go_wp2_with fail
  go_loopw [5, 6] (fun v i wr => ∃ k : Nat, ∃ acc : List TokV, k ≤ B.length ∧ acc.length ≤ k ∧ i = .int .i64 k ∧ Hid (GathT w wr v acc) ∧ Hid (allS B = allT B k acc)) (fun _ i _ => B.length - (intOf i).toNat)
  case atStart => exact ⟨0, [], Nat.zero_le _, Nat.zero_le _, rfl, GathT.start w, rfl⟩
  case round =>
    obtain ⟨k, acc, hk, hak, rfl, HG, HS⟩ := hrel
    obtain ⟨A1, c1, rfl⟩ := own_value HG.out.own
    have HT := Lib.hid (allT_eq (acc := acc) hk)
    have h5 := scanS_err5 B k
    have hst := scanS_step (B := B) (i := k)
    have hle := scanS_le hk
    cases hsc : scanS B k with
    | mk t r =>
      obtain ⟨e, x⟩ := r
      have HC := Lib.hid (rScan_at hsc A cap wr (H.out.ext HG.out.ext) hk hB hcap)
      rw [hsc] at h5 hst hle
      have HSC := Lib.hid hsc
      simp only at h5 hst hle
      clear hsc
      rcases h5 with rfl | rfl | rfl | rfl | rfl
      · obtain ⟨he1, he2⟩ := hst rfl
        have HN := Lib.hid (HS.out.trans (HT.out.trans (show _ = allT B e (acc ++ [t]) from by rw [HSC.out]; rfl)))
        clear hst
        go_wp2_with (first | (go_at_call 16; refine HC.out.mono ?_; rintro e1 w' ⟨rfl, hx⟩; have kx := Lib.hid hx; clear hx) | (at_builtin; refine wpList_append_src (P := Tryd.prog) rfl _ _ 24 rfl 30 i1 _ 5 48 Tryd.underlying24 hi1 hz0 hz1 hz2 rfl (by omega) _ rfl _ _ _ rfl acc.length (flat tokCells acc) (own_ext HG.out.own ((kx.out.alloc _).alloc _)) (tokCells t) (src_new2 _ _ t) (tokCells_one t) (by unfold maxLen; omega) (by omega) ?_; intro v3 w3 ho3 hm3 hb3; have hG3 := Lib.hid (GathT.step HG.out ((kx.out.alloc _).alloc _) ho3 hm3 hb3); clear ho3 hm3 hb3))
        go_roundw
        case rel => exact ⟨e, acc ++ [t], he2, by simp; omega, rfl, hG3, HN.out⟩
        case measure => simp [intOf]; omega
      · have HN := Lib.hid (HS.out.trans (HT.out.trans (show _ = (([], e, 3) : List TokV × Nat × Int) from by rw [HSC.out]; rfl)))
        clear hst
        go_wp2_with (go_at_call 16; refine HC.out.mono ?_; rintro e1 w' ⟨rfl, hx⟩; have kx := Lib.hid hx; clear hx)
        go_ret3
        exact ⟨.slice none 0 0, by rw [HN.out] <;> rfl, by rw [HN.out]; exact (GathT.nil (Ext.refl _)).slice, (HG.out.ext.trans kx.out).alloc _⟩
      · have HN := Lib.hid (HS.out.trans (HT.out.trans (show _ = ((acc, e, 0) : List TokV × Nat × Int) from by rw [HSC.out]; rfl)))
        clear hst
        go_wp2_with (go_at_call 16; refine HC.out.mono ?_; rintro e1 w' ⟨rfl, hx⟩; have kx := Lib.hid hx; clear hx)
        go_ret3
        exact ⟨.slice A1 acc.length c1, by rw [HN.out] <;> rfl, by rw [HN.out]; exact HG.out.slice.ext (kx.out.alloc _), (HG.out.ext.trans kx.out).alloc _⟩
      · have HN := Lib.hid (HS.out.trans (HT.out.trans (show _ = (([], e, 80) : List TokV × Nat × Int) from by rw [HSC.out]; rfl)))
        clear hst
        go_wp2_with (go_at_call 16; refine HC.out.mono ?_; rintro e1 w' ⟨rfl, hx⟩; have kx := Lib.hid hx; clear hx)
        go_ret3
        exact ⟨.slice none 0 0, by rw [HN.out] <;> rfl, by rw [HN.out]; exact (GathT.nil (Ext.refl _)).slice, (HG.out.ext.trans kx.out).alloc _⟩
      · have HN := Lib.hid (HS.out.trans (HT.out.trans (show _ = (([], e, 81) : List TokV × Nat × Int) from by rw [HSC.out]; rfl)))
        clear hst
        go_wp2_with (go_at_call 16; refine HC.out.mono ?_; rintro e1 w' ⟨rfl, hx⟩; have kx := Lib.hid hx; clear hx)
        go_ret3
        exact ⟨.slice none 0 0, by rw [HN.out] <;> rfl, by rw [HN.out]; exact (GathT.nil (Ext.refl _)).slice, (HG.out.ext.trans kx.out).alloc _⟩

end Go.Proofs.YtgjdajkkncdhmaaDoor
