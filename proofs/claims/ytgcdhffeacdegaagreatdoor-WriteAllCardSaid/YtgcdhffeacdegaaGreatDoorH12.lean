/- strings.Builder at the head of a block: its writing methods, with what they turn. -/
import Derived.Test.YtgcdhffeacdegaaGreatDoorH06
import Derived.Lib.AppendStr
import Derived.Lib.OwnKind
import Derived.Lib.Builder
import Derived.Lib.UnsafeStr
import Derived.Shelf.RegionOpenPlain
import Derived.Test.YtgcdhffeacdegaaGreatDoorH11
import Derived.Deep.RegionHeld3
namespace Go.Proofs.YtgcdhffeacdegaaGreatDoor
open Go.RowKit Go.El
structure BldAt (T : TypeId) (xs : List Value) (base : Nat) (w : World) (b : Nat) (p v : Value) (F : List UInt8) : Prop where
 adr : p = .pointer none ∨ p = .pointer (some ⟨b, 0, none⟩)
 blk : Blk w b T (p :: v :: xs).toArray
 own : w.ownsRow 0 5 1 v F.length (F.map u8V)
 far : ∀ k, v.ownBlock = some k → base ≤ k
structure BldT (T : TypeId) (n : Nat) : Prop where
 ne : T ≠ 5
 lies : liesAt Tryz.prog Tryz.prog.depth T ((n + 2) / Tryz.prog.cellsOf T) 0 120 1 = true
theorem bldSize : (Tryz.prog.info? 120).map (·.size) = some 2 := by kernel_rfl
theorem bldT0 : BldT 120 0 := ⟨by decide, by kernel_rfl⟩
theorem bldT1 : BldT 122 1 := ⟨by decide, by kernel_rfl⟩
theorem BldAt.no {T : TypeId} {xs : List Value} {base : Nat} {w : World} {b : Nat} {p v : Value} {F : List UInt8} (h : BldAt T xs base w b p v F) (hT : T ≠ 5) : b ∉ ownL v := own_heap h.own h.blk (.inl hT)
theorem BldAt.ext {T : TypeId} {xs : List Value} {base : Nat} {w w' : World} {b : Nat} {p v : Value} {F : List UInt8} (h : BldAt T xs base w b p v F) (hx : Ext w w') : BldAt T xs base w' b p v F :=
 ⟨h.adr, h.blk.ext hx, own_ext h.own hx, h.far⟩
theorem BldAt.new (T : TypeId) (xs : List Value) (w : World) : BldAt T xs w.heap.size (w.alloc (.cells (.pointer none :: .slice none 0 0 :: xs).toArray T)) w.heap.size (.pointer none) (.slice none 0 0) [] :=
 ⟨.inl rfl, Blk.new w T _, World.ownsRow_nil _ _ _ _, fun k hk => by simp [Value.ownBlock] at hk⟩
set_option maxRecDepth 100000 in
set_option maxHeartbeats 1000000 in
theorem copyCheck_any (T : TypeId) (xs : List Value) (base b : Nat) (p v : Value) (F : List UInt8) (w : World) (hT : BldT T xs.length) (h : BldAt T xs base w b p v F) :
  Calls Tryz.prog 117 #[.pointer (some ⟨b, 0, none⟩)] w fun e w' => e = .returned (.tuple #[]) ∧ BldAt T xs base w' b (.pointer (some ⟨b, 0, none⟩)) v F ∧ Mods [b] w w' := by
 obtain ⟨j, hj, hjs⟩ := Option.map_eq_some_iff.1 bldSize
 have h0 : w.cell? ⟨b, 0, none⟩ = some p := by rw [h.blk.cell 0]; rfl
 have hfz := h.blk.frozen 0
 have hsh : w.shape? b = some (T, xs.length + 2) := by
  have := h.blk
  unfold Blk at this
  simp [World.shape?, this]
 have hu := Lib.run_to_unsafe (P := Tryz.prog) w ⟨b, 0, none⟩ Tryz.underlying118 Tryz.underlying176 hj (by rw [hjs]; decide) hsh (Nat.zero_lt_succ _)
 have hf := Lib.run_from_unsafe (P := Tryz.prog) w ⟨b, 0, none⟩ Tryz.underlying176 Tryz.underlying118 hj hsh hT.lies
 have hn := Lib.run_neq_ptr_same (P := Tryz.prog) (w := w) ⟨b, 0, none⟩ Tryz.underlying118 hj
 have hne : (callFunc 152 #[.pointer (some ⟨b, 0, none⟩)]).run Tryz.prog w = .ok (Next.value (.pointer (some ⟨b, 0, none⟩))) w := by
  rw [run_callFunc_extern Tryz.func152 (by kernel_rfl) (by kernel_rfl) (by kernel_rfl) (e := Extern.AbiNoEscape.same) (by kernel_rfl)]
  rw [Lib.run_noEscape]
  rfl
 rcases h.adr with rfl | rfl
 ·have H := Lib.hid h
  clear h
  go_enter Tryz.func117, Tryz.ntmps117
  go_wp2_with fail
  go_end0
  exact ⟨rfl, ⟨.inr rfl, H.out.blk.set_ 0 _, (ownsRow_setCell_other H.out.own (fun e => H.out.no hT.ne (by simp [ownL, e])) _), H.out.far⟩, (Mods.refl [b] w).setCell (p := ⟨b, 0, none⟩) (.inl (by simp)) _⟩
 ·have H := Lib.hid h
  clear h
  go_enter Tryz.func117, Tryz.ntmps117
  go_wp2_with fail
  go_end0
  exact ⟨rfl, H.out, Mods.refl _ _⟩
end Go.Proofs.YtgcdhffeacdegaaGreatDoor
namespace Go.El
open Go.RowKit Go.Lib
section
variable {P : Program}
theorem run_append_str2 (w : World) (base : Nat) (t u ty e : TypeId) (i : TypeInfo) (ht : P.underlying t = some (.slice e)) (hu : P.underlying u = some .string) (hi : P.info? e = some i) (hz : i.zero = some (.int .u8 0))
  (hsize : i.size = 1) (hby : i.bytes = 1)
  (v : Value) (n : Nat) (xs : List Value) (hown : w.ownsRow base e 1 v n xs) (s : ByteArray)
  (h63 : n + s.size ≤ maxLen) (hbytes : n + s.size ≤ 140737488355328) (hbase : base ≤ w.heap.size) :
  ∃ v' w', (Builtin.append_ #[t, u] ty #[v, .string s]).run P w = .ok v' w' ∧ w'.ownsRow base e 1 v' (n + s.size) (xs ++ strCells s) ∧ w.grownBy w' v.ownBlock ∧
   (v'.ownBlock = v.ownBlock ∨ v'.ownBlock = some w.heap.size) := by
 obtain ⟨v', w', hr, h2, h3, _⟩ := run_append_own_string (P := P) w base t u ty e i ht hu hi hz hsize hby v n xs hown s h63 hbytes hbase
 refine ⟨v', w', hr, h2, h3, ?_⟩
 have hxl : xs.length = n := by simpa using hown.1
 rcases hown.2 with ⟨rfl, rfl⟩ | ⟨g, cap, cur, rfl, hbg, hg, hnc, hcm, hcs, htake⟩
 ·by_cases hm : s.size = 0
  ·have hf := run_firstCells_string (P := P) w 1 s
   have hn : strCells s = [] := List.eq_nil_of_length_eq_zero (by rw [strCells_length]; exact hm)
   rw [hm, hn] at hf
   have hr2 : (Builtin.append_ #[t, u] ty #[.slice none 0 0, .string s]).run P w = .ok (.slice none 0 0) w := by
    simp [Builtin.append_, run_underlying ht, run_underlying hu, sizeOf, typeInfo, hi, hsize, Builtin.lenOf, hm, hf]
   rw [hr2] at hr
   injection hr with hr _
   subst hr
   exact .inl rfl
  ·have hr2 := run_append_nil_string (P := P) w t u ty e i (.int .u8 0) ht hu hi hz s (by omega) (by unfold maxLen at h63; omega) (by rw [hby]; omega)
   rw [hr2] at hr
   injection hr with hr _
   subst hr
   exact .inr rfl
 ·by_cases hroom : n + s.size ≤ cap
  ·have hr2 := run_append_room_string (P := P) w t u ty e i ht hu hi hsize g n cap cur hg s hroom (by have hcs' : cur.size = cap := (by simpa using hcs); omega)
   rw [hr2] at hr
   injection hr with hr _
   subst hr
   exact .inl rfl
  ·have holds : ∀ j u, xs[j]? = some u → w.cell? ((⟨g, 0, none⟩ : Addr).add j) = some u := hown.cells (g := g) rfl
   have hr2 := run_append_grow_string (P := P) w t u ty e i (.int .u8 0) ht hu hi hz ⟨g, 0, none⟩ n cap xs (by rw [hsize]; simpa using hxl) holds s (by omega) (by unfold maxLen at h63; omega) (by rw [hby]; exact growslice_fits (by omega) (by omega))
   rw [hr2] at hr
   injection hr with hr _
   subst hr
   exact .inr rfl
theorem wpList_append_str2 {w : World} {ops : Array Oper} {rest : List Oper} {o : Oper} {a : Act} {Q : Exit → Act → World → Prop} (hgd : o.guard = none) (sl x : Operand) (t u : TypeId)
  (ho : o.op = .call { callee := .builtin .append, args := #[sl, x], argTypes := #[t, u] })
  (base : Nat) (e : TypeId) (i : TypeInfo) (ht : P.underlying t = some (.slice e)) (hu : P.underlying u = some .string) (hi : P.info? e = some i) (hz : i.zero = some (.int .u8 0))
  (hsize : i.size = 1) (hby : i.bytes = 1)
  (v : Value) (n : Nat) (xs : List Value) (hs : a.eval sl = v) (hown : w.ownsRow base e 1 v n xs) (s : ByteArray) (hx : a.eval x = .string s)
  (h63 : n + s.size ≤ maxLen) (hbytes : n + s.size ≤ 140737488355328) (hbase : base ≤ w.heap.size)
  (h : ∀ v' w', w'.ownsRow base e 1 v' (n + s.size) (xs ++ strCells s) → w.grownBy w' v.ownBlock → (v'.ownBlock = v.ownBlock ∨ v'.ownBlock = some w.heap.size) → wpList P ops Q rest (a.put o.dst v') w') : wpList P ops Q (o :: rest) a w := by
 refine wpList_plain hgd fun K hK => ?_
 obtain ⟨v', w', hr, h2, h3, h4⟩ := run_append_str2 (P := P) w base t u o.type e i ht hu hi hz hsize hby v n xs hown s h63 hbytes hbase
 unfold Oper.wp execOp
 simp only [ho, resolve, invoke, builtin, Sem.run_bind, Sem.run_pure, Result.andThen_ok, List.map_toArray, List.map_cons, List.map_nil, hs, hx, hr]
 exact hK _ _ (h v' w' h2 h3 h4)
end
end Go.El
namespace Go.Proofs.YtgcdhffeacdegaaGreatDoor
open Go.RowKit Go.El
theorem grow_own {w1 w2 : World} {u v : Value} (hs : w1.heap.size ≤ w2.heap.size) (h : u.ownBlock = v.ownBlock ∨ u.ownBlock = some w2.heap.size) : ∀ k, u.ownBlock = some k → v.ownBlock = some k ∨ w1.heap.size ≤ k := by
 intro k hk
 rcases h with e | e
 ·exact .inl (e.symm.trans hk)
 ·have e1 := e.symm.trans hk
  injection e1 with e1
  exact .inr (e1 ▸ hs)
theorem bld_wrote {T : TypeId} {xs : List Value} {base b : Nat} {p v v3 : Value} {F G : List UInt8} {n : Nat} {w w1 w3 : World} (hT : BldT T xs.length) (hbw : base ≤ w.heap.size) (_h : BldAt T xs base w b p v F) (hm1 : Mods [b] w w1) (hf : ∀ k, v.ownBlock = some k → base ≤ k)
  (ho : w3.ownsRow 0 5 1 v3 (F.length + n) (F.map u8V ++ G.map u8V)) (hm : Mods (ownL v) w1 w3) (hbk : Blk w3 b T (.pointer (some ⟨b, 0, none⟩) :: v :: xs).toArray) (hb : ∀ k, v3.ownBlock = some k → v.ownBlock = some k ∨ w1.heap.size ≤ k) (hn : G.length = n) :
  BldAt T xs base (w3.setCell ⟨b, 1, none⟩ v3) b (.pointer (some ⟨b, 0, none⟩)) v3 (F ++ G) ∧ WStep b v w v3 (w3.setCell ⟨b, 1, none⟩ v3) := by
 have hno := own_heap ho hbk (.inl hT.ne)
 have hk : ∀ k, v3.ownBlock = some k → v.ownBlock = some k ∨ w.heap.size ≤ k := fun k e => (hb k e).imp id (fun h => Nat.le_trans hm1.size h)
 refine ⟨⟨.inr rfl, hbk.set_ 1 _, ?_, fun k e => ?_⟩, ?_, hk⟩
 ·rw [List.length_append, List.map_append, hn]
  exact ownsRow_setCell_other ho (fun e => hno (by simp [ownL, e])) _
 ·rcases hk k e with e | e
  ·exact hf k e
  ·exact Nat.le_trans hbw e
 ·exact (((hm1.mono (fun x hx => by simp at hx; simp [hx])).trans (hm.mono (fun x hx => List.mem_cons_of_mem _ hx))).setCell (.inl (by simp)) _)
set_option maxRecDepth 100000 in
set_option maxHeartbeats 4000000 in
theorem bldString_any (T : TypeId) (xs : List Value) (base b : Nat) (p v : Value) (F : List UInt8) (s : ByteArray) (w : World) (hT : BldT T xs.length) (h : BldAt T xs base w b p v F) (hbw : base ≤ w.heap.size) (hl : F.length + s.size ≤ 1000000000) :
  Calls Tryz.prog 77 #[.pointer (some ⟨b, 0, none⟩), .string s] w fun e w' => e = .returned (.tuple #[.int .i64 s.size, .nilIface]) ∧ ∃ v', BldAt T xs base w' b (.pointer (some ⟨b, 0, none⟩)) v' (F ++ s.data.toList) ∧ WStep b v w v' w' := by
 obtain ⟨i1, hi1, hz0, hz1, hz2⟩ := infoP u8Info
 obtain ⟨A, c, rfl⟩ := own_value h.own
 have hsl : s.size ≤ 9223372036854775807 := by omega
 have H := Lib.hid h
 clear h
 go_enter Tryz.func77, Tryz.ntmps77
 go_wp2_with (first | (go_at_call 117; refine (copyCheck_any T xs base b p _ F w hT H.out).mono ?_; rintro e w1 ⟨rfl, h1, hm1⟩; have d1 : w1.cell? ⟨b, 1, none⟩ = some (.slice A F.length c) := h1.blk.cell 1; have H1 := Lib.hid h1; have HM1 := Lib.hid hm1; clear h1 hm1) | (at_builtin; refine wpList_append_str2 (P := Tryz.prog) rfl _ _ 23 9 rfl 0 5 i1 Tryz.underlying23 Tryz.underlying9 hi1 hz0 hz1 hz2 (.slice A F.length c) F.length (F.map u8V) rfl H1.out.own s rfl (by unfold maxLen; omega) (by omega) (Nat.zero_le _) ?_; intro v3 w3 ho3 hm3 hb3; obtain ⟨A3, c3, rfl⟩ := own_value ho3; have hM := grown_mods hm3; have hbk := H1.out.blk.mods hM (H1.out.no hT.ne); have k1 : w3.cell? ⟨b, 1, none⟩ = some (.slice A F.length c) := hbk.cell 1; have kf := hbk.frozen 1; have HO := Lib.hid ho3; have HM := Lib.hid hM; have HBK := Lib.hid hbk; have HB := Lib.hid (grow_own (w1 := w1) (Nat.le_refl _) hb3); clear ho3 hm3 hM hbk hb3))
 go_ret2
 refine ⟨rfl, _, bld_wrote hT hbw H.out HM1.out H1.out.far HO.out HM.out HBK.out HB.out (by simp)⟩
set_option maxRecDepth 100000 in
set_option maxHeartbeats 4000000 in
theorem bldByte_any (T : TypeId) (xs : List Value) (base b : Nat) (p v : Value) (F : List UInt8) (c : UInt8) (w : World) (hT : BldT T xs.length) (h : BldAt T xs base w b p v F) (hbw : base ≤ w.heap.size) (hl : F.length ≤ 1000000000) :
  Calls Tryz.prog 123 #[.pointer (some ⟨b, 0, none⟩), .int .u8 (c.toNat : Int)] w fun e w' => e = .returned .nilIface ∧ ∃ v', BldAt T xs base w' b (.pointer (some ⟨b, 0, none⟩)) v' (F ++ [c]) ∧ WStep b v w v' w' := by
 obtain ⟨i1, hi1, hz0, hz1, hz2⟩ := infoP u8Info
 obtain ⟨A, k, rfl⟩ := own_value h.own
 have H := Lib.hid h
 clear h
 go_enter Tryz.func123, Tryz.ntmps123
 go_wp2_with (first | (go_at_call 117; refine (copyCheck_any T xs base b p _ F w hT H.out).mono ?_; rintro e w1 ⟨rfl, h1, hm1⟩; have d1 : w1.cell? ⟨b, 1, none⟩ = some (.slice A F.length k) := h1.blk.cell 1; have H1 := Lib.hid h1; have HM1 := Lib.hid hm1; clear h1 hm1) | (at_builtin; refine wpList_append_src (P := Tryz.prog) rfl _ _ 23 rfl 5 i1 _ 1 1 Tryz.underlying23 hi1 hz0 hz1 hz2 rfl (by omega) (.slice A F.length k) rfl _ _ _ rfl F.length (F.map u8V) (own_ext H1.out.own ((Ext.refl w1).alloc _)) [.int .u8 (c.toNat : Int)] (El.Src.new _ #[.int .u8 (c.toNat : Int)] _ 1 1 rfl) (u8_one [c]) (by unfold maxLen; omega) (by omega) ?_; intro v3 w3 ho3 hm3 hb3; obtain ⟨A3, c3, rfl⟩ := own_value ho3; have hM := (Mods.ext (S := ownL (.slice A F.length k)) ((Ext.refl w1).alloc (.cells #[.int .u8 (c.toNat : Int)] 5))).trans hm3; have hbk := H1.out.blk.mods hM (H1.out.no hT.ne); have k1 : w3.cell? ⟨b, 1, none⟩ = some (.slice A F.length k) := hbk.cell 1; have kf := hbk.frozen 1; have HO := Lib.hid ho3; have HM := Lib.hid hM; have HBK := Lib.hid hbk; have HB := Lib.hid (grow_own (w1 := w1) (by simp) hb3); clear ho3 hm3 hM hbk hb3))
 go_ret
 refine ⟨rfl, _, bld_wrote hT hbw H.out HM1.out H1.out.far HO.out HM.out HBK.out HB.out rfl⟩
set_option maxRecDepth 100000 in
theorem bldLen_any (T : TypeId) (xs : List Value) (base b : Nat) (p v : Value) (F : List UInt8) (w : World) (h : BldAt T xs base w b p v F) :
  Calls Tryz.prog 76 #[.pointer (some ⟨b, 0, none⟩)] w fun e w' => e = .returned (.int .i64 F.length) ∧ w' = w := by
 obtain ⟨A, k, rfl⟩ := own_value h.own
 have d1 : w.cell? ⟨b, 1, none⟩ = some (.slice A F.length k) := h.blk.cell 1
 clear h
 go_enter Tryz.func76, Tryz.ntmps76
 go_wp2_with fail
 go_ret
 exact ⟨rfl, rfl⟩
set_option maxRecDepth 100000 in
set_option maxHeartbeats 1000000 in
theorem bldText_any (T : TypeId) (xs : List Value) (base b : Nat) (p v : Value) (F : List UInt8) (w : World) (h : BldAt T xs base w b p v F) (h0 : F ≠ []) :
  Calls Tryz.prog 125 #[.pointer (some ⟨b, 0, none⟩)] w fun e w' => e = .returned (.string (strB F)) ∧ Below base w w' := by
 have hl0 : F.length ≠ 0 := by simpa using h0
 obtain ⟨g, cap, cur, rfl, hg, hnc, hcm, hcs⟩ : ∃ g cap cur, v = .slice (some ⟨g, 0, none⟩) F.length cap ∧ w.heap[g]? = some (.cells cur 5 (0, 0)) ∧ F.length ≤ cap ∧ cap ≤ maxLen ∧ cur.size = cap * 1 := by
  rcases h.own.2 with ⟨_, hz⟩ | ⟨g, cap, cur, hv, _, hg, hnc, hcm, hcs, _⟩
  ·exact absurd hz hl0
  ·exact ⟨g, cap, cur, hv, hg, hnc, hcm, hcs⟩
 have hbg : base ≤ g := h.far g rfl
 have c1 : w.drew.cell? ⟨b, 1, none⟩ = some (.slice (some ⟨g, 0, none⟩) F.length cap) := h.blk.cell 1
 have hSD : (Builtin.unsafeSliceData_ #[23] 184 #[.slice (some ⟨g, 0, none⟩) F.length cap]).run Tryz.prog w.drew = .ok (.pointer (some ⟨g, 0, none⟩)) w.drew :=
  Lib.run_unsafeSliceData_row _ _ _ _ _ _ (by omega)
 have hg' : w.drew.heap[g]? = some (.cells cur 5 (0, 0)) := hg
 have hshp : w.drew.shape? g = some (5, cur.size) := by simp [World.shape?, hg']
 have hUS : (Builtin.unsafeString_ #[184, 3] 9 #[.pointer (some ⟨g, 0, none⟩), .int .i64 F.length]).run Tryz.prog w.drew = .ok (.string (strB F)) (w.drew.freeze ⟨g, 0, none⟩ F.length) := by
  refine Lib.run_unsafeString_row w.drew 184 3 9 5 Tryz.underlying184 (by kernel_rfl) g cur.size hshp F h0 (by omega) (by unfold maxLen at hcm; omega) ?_
  intro j x hx
  exact h.own.cells (g := g) rfl j (.int .u8 x.toNat) (by simp [u8V, hx])
 clear h
 go_enter Tryz.func125, Tryz.ntmps125
 go_upto_region 1 with fail
 go_region
 all_goals (go_wp2_with fail; go_ret; exact ⟨rfl, Lib.below_freeze (Below.drew (Below.refl base w)) (p := ⟨g, 0, none⟩) hbg _⟩)
end Go.Proofs.YtgcdhffeacdegaaGreatDoor

/- Rows of terms that a call gathers. -/
namespace Go.El
open Go.RowKit
abbrev TmP := Tm × Option Addr × Nat
def tmC (p : TmP) : List Value := [.int .i64 p.1.k, .int .i64 p.1.n, .string p.1.s, .slice p.2.1 p.1.l.length p.2.2]
theorem tmC_len (p : TmP) : (tmC p).length = 4 := rfl
theorem tmC_one (p : TmP) : ∀ u ∈ tmC p, u.oneCell' = true := by
 intro u hu
 simp only [tmC, List.mem_cons, List.not_mem_nil, or_false] at hu
 rcases hu with rfl | rfl | rfl | rfl <;> rfl
structure RowT (X : World) (lo : Nat) (wr : World) (v : Value) (M : List TmP) : Prop where
 own : wr.ownsRow 0 32 4 v M.length (flat tmC M)
 kid : ∀ p ∈ M, TmIn (fun k => lo ≤ k ∧ v.ownBlock ≠ some k ∧ k < wr.heap.size) wr p.1 p.2.1 p.2.2
 far : ∀ k, v.ownBlock = some k → lo ≤ k
 ext : Ext X wr
 xlo : X.heap.size ≤ lo
 low : lo ≤ wr.heap.size
theorem RowT.start {X wr : World} (h : Ext X wr) : RowT X wr.heap.size wr (.slice none 0 0) [] :=
 ⟨World.ownsRow_nil _ _ _ _, fun p hp => by simp at hp, fun k hk => by simp [Value.ownBlock] at hk, h, h.size, Nat.le_refl _⟩
theorem RowT.ng {X wr : World} {lo : Nat} {v : Value} {M : List TmP} (h : RowT X lo wr v M) {g : Nat} (hg : g < lo) : v.ownBlock ≠ some g := fun e => by have := h.far g e; omega
theorem RowT.no {X wr : World} {lo : Nat} {v : Value} {M : List TmP} (h : RowT X lo wr v M) {g : Nat} (hg : g < lo) : g ∉ ownL v := fun e => h.ng hg (by simpa [ownL] using e)
theorem RowT.go {X wr w' : World} {lo : Nat} {v : Value} {M : List TmP} (h : RowT X lo wr v M) (x : Ext wr w') : RowT X lo w' v M :=
 ⟨own_ext h.own x, fun p hp => ((h.kid p hp).ext x).mono (fun _ hk => ⟨hk.1, hk.2.1, Nat.lt_of_lt_of_le hk.2.2 x.size⟩), h.far, h.ext.trans x, h.xlo, Nat.le_trans h.low x.size⟩
theorem RowT.set_ {X wr : World} {lo : Nat} {v : Value} {M : List TmP} (h : RowT X lo wr v M) {g : Nat} (hx : X.heap.size ≤ g) (hg : g < lo) (i : Nat) (u : Value) : RowT X lo (wr.setCell ⟨g, i, none⟩ u) v M := by
 refine ⟨ownsRow_setCell_other h.own (h.ng hg) u, fun p hp => ?_, h.far, h.ext.setCell (p := ⟨g, i, none⟩) hx u, h.xlo, by simpa using h.low⟩
 exact TmIn.mods (S := [g]) ((Mods.refl [g] wr).setCell (p := ⟨g, i, none⟩) (.inl (by simp)) u) (fun k hk => by simp; omega) (fun k hk => ⟨hk.1, hk.2.1, by simpa using hk.2.2⟩) (h.kid p hp)
theorem RowT.step {X wr V w' : World} {lo : Nat} {v v' : Value} {M : List TmP} {p : TmP} (h : RowT X lo wr v M) (x : Ext wr V) (hp : TmIn (fun k => lo ≤ k ∧ v.ownBlock ≠ some k ∧ k < V.heap.size) V p.1 p.2.1 p.2.2)
  (ho : w'.ownsRow 0 32 4 v' (M.length + 1) (flat tmC M ++ tmC p)) (hm : Mods (ownL v) V w') (hb : v'.ownBlock = v.ownBlock ∨ v'.ownBlock = some V.heap.size) : RowT X lo w' v' (M ++ [p]) := by
 have hV := h.go x
 have hD : ∀ k, (lo ≤ k ∧ v.ownBlock ≠ some k ∧ k < V.heap.size) → k ∉ ownL v := fun k hk hm => hk.2.1 (by simpa [ownL] using hm)
 have hD2 : ∀ k, (lo ≤ k ∧ v.ownBlock ≠ some k ∧ k < V.heap.size) → (lo ≤ k ∧ v'.ownBlock ≠ some k ∧ k < w'.heap.size) := fun k hk => by
  refine ⟨hk.1, fun e => ?_, Nat.lt_of_lt_of_le hk.2.2 hm.size⟩
  rcases hb with hb | hb
  ·exact hk.2.1 (hb.symm.trans e)
  ·have e1 := hb.symm.trans e
   injection e1 with e1
   have := hk.2.2
   omega
 refine ⟨?_, fun q hq => ?_, fun k e => ?_, ?_, h.xlo, Nat.le_trans hV.low hm.size⟩
 ·rw [List.length_append, flat_append]
  simpa [flat] using ho
 ·rcases List.mem_append.1 hq with hq | hq
  ·exact TmIn.mods hm hD hD2 (hV.kid q hq)
  ·simp at hq
   subst hq
   exact TmIn.mods hm hD hD2 hp
 ·rcases hb with hb | hb
  ·exact h.far k (hb.symm.trans e)
  ·have e1 := hb.symm.trans e
   injection e1 with e1
   have := hV.low
   omega
 ·exact (Mods.step (S := []) (Mods.ext hV.ext) hm (fun k hk => .inr (Nat.le_trans h.xlo (h.far k (by simpa [ownL] using hk))))).toExt (by simp)
theorem RowT.done {X wr : World} {lo : Nat} {v : Value} {M : List TmP} (h : RowT X lo wr v M) (k n : Int) (s : ByteArray) : ∃ A c, v = .slice A M.length c ∧ TmIn (fun i => lo ≤ i ∧ i < wr.heap.size) wr (.mk k n s (M.map (·.1))) A c := by
 obtain ⟨A, c, rfl⟩ := own_value h.own
 refine ⟨A, c, rfl, ?_⟩
 have hc : (M.map (·.1)).length ≤ c := by
  rcases h.own.2 with ⟨h1, h2⟩ | ⟨g', cap', cur, hv, _, _, hnc, _⟩
  ·simp only [Value.slice.injEq] at h1
   simp
   omega
  ·injection hv with _ _ hc
   subst hc
   simpa using hnc
 refine .mk k n s _ A c (M.map (·.2)) (by simp) (fun j t q ht hq => ?_) (fun hne => ?_) hc
 ·rw [List.getElem?_map] at ht hq
  cases hp : M[j]? with
  | none => rw [hp] at ht; simp at ht
  | some p =>
   rw [hp] at ht hq
   simp at ht hq
   subst ht hq
   exact (h.kid p (List.mem_of_getElem? hp)).mono (fun i hi => ⟨hi.1, hi.2.2⟩)
 ·have hlen : 0 < M.length := by
   rcases M with _ | ⟨p, M⟩
   ·simp at hne
   ·simp
  obtain ⟨b, off, rfl, hcell⟩ := Src.form (Src.of_own h.own) hlen (by omega)
  have hb0 : (Value.slice (some ⟨b, off, none⟩) M.length c).ownBlock = some b := rfl
  refine ⟨b, off, rfl, ⟨h.far b hb0, (h.own.lt b hb0).2⟩, fun j t q ht hq => ?_⟩
  rw [List.getElem?_map] at ht hq
  cases hp : M[j]? with
  | none => rw [hp] at ht; simp at ht
  | some p =>
   rw [hp] at ht hq
   simp at ht hq
   subst ht hq
   refine ⟨?_, ?_, ?_, ?_⟩
   ·exact hcell (j * 4) _ ((flat_at tmC_len M j 0 p hp (by omega)).trans rfl)
   ·exact hcell (j * 4 + 1) _ ((flat_at tmC_len M j 1 p hp (by omega)).trans rfl)
   ·exact hcell (j * 4 + 2) _ ((flat_at tmC_len M j 2 p hp (by omega)).trans rfl)
   ·exact hcell (j * 4 + 3) _ ((flat_at tmC_len M j 3 p hp (by omega)).trans rfl)
end Go.El

/- Layer 6, the program: the walks of Var, build (of Var), Clone. -/
namespace Go.Proofs.YtgcdhffeacdegaaGreatDoor
open Go.RowKit Go.El
set_option maxRecDepth 100000 in
theorem var_any (n : Int) (w : World) :
  Calls Tryz.prog 124 #[.int .i64 n] w fun e w' => e = .returned (.agg #[.int .i64 1, .int .i64 n, .string ⟨#[]⟩, .slice none 0 0]) ∧ Ext w w' := by
 go_enter Tryz.func124, Tryz.ntmps124
 go_wp2_with fail
 have hE := (Ext.refl w).alloc (.cells #[.int .i64 1, .int .i64 n, .string ⟨#[]⟩, .slice none 0 0] 32)
 have hB := Blk.new w 32 #[.int .i64 1, .int .i64 n, .string ⟨#[]⟩, .slice none 0 0]
 generalize w.alloc (.cells #[.int .i64 1, .int .i64 n, .string ⟨#[]⟩, .slice none 0 0] 32) = V at hE hB ⊢
 have r0 : V.cell? ⟨w.heap.size, 0, none⟩ = some (.int .i64 1) := hB.cell 0
 have r1 : V.cell? ⟨w.heap.size, 1, none⟩ = some (.int .i64 n) := hB.cell 1
 have r2 : V.cell? ⟨w.heap.size, 2, none⟩ = some (.string ⟨#[]⟩) := hB.cell 2
 have r3 : V.cell? ⟨w.heap.size, 3, none⟩ = some (.slice none 0 0) := hB.cell 3
 refine bodyPost_ret (v := .agg #[.int .i64 1, .int .i64 n, .string ⟨#[]⟩, .slice none 0 0]) (by simp [results, Tryz.results124, go_sem, r0, r1, r2, r3]) rfl ⟨rfl, hE⟩
theorem blk3 {w : World} {t : TypeId} {cs cs2 cs3 : Array Value} : Blk (((w.alloc (.cells cs t)).alloc (.cells cs2 t)).alloc (.cells cs3 t)) (w.heap.size + 1 + 1) t cs3 := by
 have := Blk.new ((w.alloc (.cells cs t)).alloc (.cells cs2 t)) t cs3
 rw [World.size_alloc, World.size_alloc] at this
 exact this
theorem blk2 {w : World} {t : TypeId} {cs cs2 cs3 : Array Value} : Blk (((w.alloc (.cells cs t)).alloc (.cells cs2 t)).alloc (.cells cs3 t)) (w.heap.size + 1) t cs2 := by
 have := (Blk.new (w.alloc (.cells cs t)) t cs2).alloc (.cells cs3 t)
 rw [World.size_alloc] at this
 exact this
theorem bu_keep {a b : World} {g x : Nat} {v c0 c1 c2 c3 : Value} (k : Ext a b) (h : a.cell? ⟨g, 3, none⟩ = some v ∧ a.cell? ⟨x, 0, none⟩ = some c0 ∧ a.cell? ⟨x, 1, none⟩ = some c1 ∧ a.cell? ⟨x, 2, none⟩ = some c2 ∧ a.cell? ⟨x, 3, none⟩ = some c3) : b.cell? ⟨g, 3, none⟩ = some v ∧ b.cell? ⟨x, 0, none⟩ = some c0 ∧ b.cell? ⟨x, 1, none⟩ = some c1 ∧ b.cell? ⟨x, 2, none⟩ = some c2 ∧ b.cell? ⟨x, 3, none⟩ = some c3 :=
 ⟨k.cell h.1, k.cell h.2.1, k.cell h.2.2.1, k.cell h.2.2.2.1, k.cell h.2.2.2.2⟩
theorem tmInfo4 : (Tryz.prog.info? 32).map (fun i => (i.zero, i.size, i.bytes)) = some (some (.agg #[.int .i64 0, .int .i64 0, .string ⟨#[]⟩, .slice none 0 0]), 4, 56) := by kernel_rfl
theorem kid_new {X wr W W2 : World} {lo : Nat} {v : Value} {M : List TmP} {u : Tm} {A : Option Addr} {c : Nat} {o : Obj} (h : RowT X lo wr v M) (hE : Ext wr W) (ht : TmIn (fun k => W.drew.heap.size ≤ k ∧ k < W2.heap.size) W2 u A c) : TmIn (fun k => lo ≤ k ∧ v.ownBlock ≠ some k ∧ k < (W2.alloc o).heap.size) (W2.alloc o) u A c := by
 refine (ht.ext (ext_box W2 o)).mono (fun k hk => ?_)
 have h1 : W.heap.size ≤ k := hk.1
 have h2 := hE.size
 have h3 := h.low
 refine ⟨by omega, fun e => ?_, ?_⟩
 ·have := (h.own.lt k e).2
  omega
 ·rw [World.size_alloc]
  have := hk.2
  omega
set_option maxRecDepth 100000 in
set_option maxHeartbeats 4000000 in
theorem buildVar_any : ∀ (N : Nat) (t : Tm), szT t ≤ N → szT t ≤ 1000000000 → okT t = true → ∀ (A : Option Addr) (c : Nat) (w : World) (D : Nat → Prop), TmIn D w t A c →
  Calls Tryz.prog 193 #[tmVal t A c, .func (.func 124) #[] #[]] w fun e w' => ∃ A' c', e = .returned (tmVal t A' c') ∧ TmIn (fun k => w.heap.size ≤ k ∧ k < w'.heap.size) w' t A' c' ∧ Ext w w'
 | 0, t, h => by
  have := szT_pos t
  omega
 | N + 1, .mk k n s l, hN => by
  intro hbig hok A c w D ht
  obtain ⟨i1, hi1, hz0, hz1, hz2⟩ := infoP tmInfo4
  have IH := buildVar_any N
  simp only [szT] at hN hbig
  simp only [okT, Bool.and_eq_true] at hok
  obtain ⟨hpk, hokl⟩ := hok
  have H := Lib.hid ht
  clear ht
  unfold tmVal
  simp only [Tm.k, Tm.n, Tm.s, Tm.l]
  by_cases hk : k = 1
  ·subst hk
   have hv : s = ⟨#[]⟩ ∧ l = [] := by
    simp only [partK, if_true, decide_eq_true_eq] at hpk
    refine ⟨?_, List.length_eq_zero_iff.1 hpk.2.2.2⟩
    exact mk_of (List.length_eq_zero_iff.1 (by simpa using hpk.2.2.1))
   obtain ⟨rfl, rfl⟩ := hv
   go_enter Tryz.func193, Tryz.ntmps193
   go_wp2_with (go_at_call 124; refine (var_any n _).mono ?_; rintro e W1 ⟨rfl, hx⟩; have z0 := (Blk.new (w.alloc (.cells #[.int .i64 1, .int .i64 n, .string ⟨#[]⟩, .slice A 0 c] 32)) 32 #[.int .i64 0, .int .i64 0, .string ⟨#[]⟩, .slice none 0 0]).ext hx; rw [World.size_alloc] at z0; have HZ := Lib.hid z0; have HX := Lib.hid ((((Ext.refl w).alloc _).alloc _).trans hx); have zc := z0.cell; have zf := z0.frozen; clear hx z0)
   have hbf := (((HZ.out.set_ 0 (.int .i64 1)).set_ 1 (.int .i64 n)).set_ 2 (.string ⟨#[]⟩)).set_ 3 (.slice none 0 0)
   have hEF := (((HX.out.setCell (p := ⟨w.heap.size + 1, 0, none⟩) (by simp) (.int .i64 1)).setCell (p := ⟨w.heap.size + 1, 1, none⟩) (by simp) (.int .i64 n)).setCell (p := ⟨w.heap.size + 1, 2, none⟩) (by simp) (.string ⟨#[]⟩)).setCell (p := ⟨w.heap.size + 1, 3, none⟩) (by simp) (.slice none 0 0)
   generalize (((W1.setCell ⟨w.heap.size + 1, 0, none⟩ (.int .i64 1)).setCell ⟨w.heap.size + 1, 1, none⟩ (.int .i64 n)).setCell ⟨w.heap.size + 1, 2, none⟩ (.string ⟨#[]⟩)).setCell ⟨w.heap.size + 1, 3, none⟩ (.slice none 0 0) = V at hbf hEF ⊢
   have r0 : V.cell? ⟨w.heap.size + 1, 0, none⟩ = some (.int .i64 1) := hbf.cell 0
   have r1 : V.cell? ⟨w.heap.size + 1, 1, none⟩ = some (.int .i64 n) := hbf.cell 1
   have r2 : V.cell? ⟨w.heap.size + 1, 2, none⟩ = some (.string ⟨#[]⟩) := hbf.cell 2
   have r3 : V.cell? ⟨w.heap.size + 1, 3, none⟩ = some (.slice none 0 0) := hbf.cell 3
   refine bodyPost_ret (v := .agg #[.int .i64 1, .int .i64 n, .string ⟨#[]⟩, .slice none 0 0]) (by simp [results, Tryz.results193, go_sem, r0, r1, r2, r3]) rfl ⟨none, 0, rfl, TmsIn.term (TmsIn.nil _ _ _ _) _ _ _, hEF⟩
  ·have hk2 : (k == 1) = false := by simpa using hk
   clear hpk
   go_enter Tryz.func193, Tryz.ntmps193
   go_upto_region 5 with fail
   refine wp_abs (fun V => Hid (Blk V (w.heap.size + 1 + 1) 32 #[.int .i64 k, .int .i64 n, .string s, .slice none 0 0]) ∧ Hid (Blk V (w.heap.size + 1) 32 #[.int .i64 0, .int .i64 0, .string ⟨#[]⟩, .slice none 0 0]) ∧ Hid (Ext w V)) ⟨blk3, blk2, (((Ext.refl w).alloc _).alloc _).alloc _⟩ ?_
   rintro V ⟨HB0, HZ0, HX0⟩
   have hlw := len_szL l
   go_loopw [25] (fun i wr => ∃ (j : Nat) (v : Value) (M : List TmP), j ≤ l.length ∧ i = .int .i64 j ∧ Hid (M.map (·.1) = l.take j) ∧ Hid (RowT w V.heap.size wr v M) ∧ Hid (Blk wr (w.heap.size + 1 + 1) 32 #[.int .i64 k, .int .i64 n, .string s, v]) ∧ Hid (Blk wr (w.heap.size + 1) 32 #[.int .i64 0, .int .i64 0, .string ⟨#[]⟩, .slice none 0 0])) (fun i _ => l.length - (intOf i).toNat)
   case atStart => exact ⟨0, _, [], Nat.zero_le _, rfl, rfl, RowT.start HX0.out, HB0.out, HZ0.out⟩
   case round =>
    obtain ⟨j, v, M, hj, rfl, HM, HR, HB, HZ⟩ := hrel
    have hMl : M.length = j := by
     have := congrArg List.length HM.out
     simp at this
     omega
    subst hMl
    by_cases hlt : M.length < l.length
    ·have ho : l[M.length]? = some l[M.length] := List.getElem?_eq_getElem hlt
     have hsu := szL_get ho
     have hou := okL_get hokl ho
     have hMn : Hid (∀ q : TmP, q.1 = l[M.length] → (M ++ [q]).map (·.1) = l.take (M.length + 1)) := fun q hq => by
      rw [List.map_append, HM.out, List.take_succ_eq_append_getElem hlt]
      simp [hq]
     generalize l[M.length] = u at ho hou hMn hsu
     obtain ⟨bb, off, A', c', rfl, _, hu, q0, q1, q2, q3⟩ := (TmIn.ext HR.out.ext H.out).child ho
     obtain ⟨Av, cv, rfl⟩ := own_value HR.out.own
     have HC := fun (W : World) (x : Ext wr W) => Lib.hid (IH u (by omega) (by omega) hou A' c' W D (TmIn.ext x hu))
     unfold tmVal at HC
     have hglt : w.heap.size + 1 + 1 < V.heap.size := HB0.out.lt
     have hVw := HR.out.low
     clear ho hu
     go_upto_region 7 with fail
     refine wp_abs (fun W => Hid (Ext wr W) ∧ Hid (Blk W wr.heap.size 32 #[.int .i64 u.k, .int .i64 u.n, .string u.s, .slice A' u.l.length c'])) ⟨ext_box _ _, Blk.new _ _ _⟩ ?_
     rintro W ⟨HE, HU⟩
     have hS : W.cell? ⟨w.heap.size + 1 + 1, 3, none⟩ = some (.slice Av M.length cv) ∧ W.cell? ⟨wr.heap.size, 0, none⟩ = some (.int .i64 u.k) ∧ W.cell? ⟨wr.heap.size, 1, none⟩ = some (.int .i64 u.n) ∧ W.cell? ⟨wr.heap.size, 2, none⟩ = some (.string u.s) ∧ W.cell? ⟨wr.heap.size, 3, none⟩ = some (.slice A' u.l.length c') := ⟨(HB.out.ext HE.out).cell 3, HU.out.cell 0, HU.out.cell 1, HU.out.cell 2, HU.out.cell 3⟩
     have hS0 := bu_keep ((Ext.refl W).drew) hS
     clear q0 q1 q2 q3
     obtain ⟨z3, z4, z5, z6, z7⟩ := hS0
     go_region_law ((first | (go_simp; go_at_call 193; refine (HC _ (HE.out.drew)).out.mono ?_; rintro e W2 ⟨A2, c2, rfl, ht2, hx2⟩; have y3 := hx2.cell z3; have y4 := (ext_box W2 (.cells #[.int .i64 u.k, .int .i64 u.n, .string u.s, .slice A2 u.l.length c2] 32)).cell y3) | (refine step_append_src (P := Tryz.prog) rfl (.tmp 30) (.tmp 34) 30 rfl 32 i1 _ 4 56 Tryz.underlying30 hi1 hz0 hz1 hz2 rfl (by omega) (.slice Av M.length cv) rfl _ _ _ rfl M.length (flat tmC M) (own_ext HR.out.own ((HE.out.drew.trans hx2).alloc _)) (tmC (u, A2, c2)) (El.Src.new _ #[.int .i64 u.k, .int .i64 u.n, .string u.s, .slice A2 u.l.length c2] _ 1 4 rfl) (tmC_one _) (by unfold maxLen; omega) (by omega) ?_; intro v3 w3 ho3 hm3 hb3; obtain ⟨A3, c3, rfl⟩ := own_value ho3; have hR3 := RowT.step (p := (u, A2, c2)) HR.out ((HE.out.drew.trans hx2).alloc _) (kid_new HR.out HE.out ht2) ho3 hm3 hb3; have hB3 := (HB.out.ext ((HE.out.drew.trans hx2).alloc _)).mods hm3 (HR.out.no hglt); have hZ3 := (HZ.out.ext ((HE.out.drew.trans hx2).alloc _)).mods hm3 (HR.out.no (by omega)); have k3 : w3.cell? ⟨w.heap.size + 1 + 1, 3, none⟩ = some (.slice Av M.length cv) := hB3.cell 3; have f3 := hB3.frozen 3; have hU3 := (HU.out.ext ((((Ext.refl W).drew).trans hx2).alloc _)).mods hm3 (fun e => by have := (HR.out.own.lt _ (by simpa [ownL] using e)).2; omega); have hS3 : w3.cell? ⟨w.heap.size + 1 + 1, 3, none⟩ = some (.slice Av M.length cv) ∧ w3.cell? ⟨wr.heap.size, 0, none⟩ = some (.int .i64 u.k) ∧ w3.cell? ⟨wr.heap.size, 1, none⟩ = some (.int .i64 u.n) ∧ w3.cell? ⟨wr.heap.size, 2, none⟩ = some (.string u.s) ∧ w3.cell? ⟨wr.heap.size, 3, none⟩ = some (.slice A' u.l.length c') := ⟨k3, hU3.cell 0, hU3.cell 1, hU3.cell 2, hU3.cell 3⟩; have HR3 := Lib.hid hR3; have HB3 := Lib.hid hB3; have HZ3 := Lib.hid hZ3; clear hR3 hB3 hZ3 ho3 hm3 hb3)))
     all_goals
      go_wp2_with fail
      go_roundw
      case rel => exact ⟨M.length + 1, _, M ++ [(u, A2, c2)], hlt, by go_num, hMn.out _ rfl, HR3.out.set_ (by omega) hglt 3 _, HB3.out.set_ 3 _, HZ3.out.far (p := ⟨w.heap.size + 1 + 1, 3, none⟩) (by simp) _⟩
      case measure => simp [intOf]; omega
    ·have hMl : M.length = l.length := by omega
     have hM1 : M.map (·.1) = l := by rw [HM.out, hMl, List.take_length]
     obtain ⟨A2, c2, rfl, ht2⟩ := HR.out.done k n s
     rw [hM1] at ht2
     rw [hMl] at HB hlt ⊢
     have b0 : wr.cell? ⟨w.heap.size + 1 + 1, 0, none⟩ = some (.int .i64 k) := HB.out.cell 0
     have b1 : wr.cell? ⟨w.heap.size + 1 + 1, 1, none⟩ = some (.int .i64 n) := HB.out.cell 1
     have b2 : wr.cell? ⟨w.heap.size + 1 + 1, 2, none⟩ = some (.string s) := HB.out.cell 2
     have b3 : wr.cell? ⟨w.heap.size + 1 + 1, 3, none⟩ = some (.slice A2 l.length c2) := HB.out.cell 3
     have zc := HZ.out.cell
     have zf := HZ.out.frozen
     have hgl : w.heap.size + 1 + 1 < V.heap.size := HB0.out.lt
     have hbf := (((HZ.out.set_ 0 (.int .i64 k)).set_ 1 (.int .i64 n)).set_ 2 (.string s)).set_ 3 (.slice A2 l.length c2)
     have hEF := (((HR.out.ext.setCell (p := ⟨w.heap.size + 1, 0, none⟩) (by simp) (.int .i64 k)).setCell (p := ⟨w.heap.size + 1, 1, none⟩) (by simp) (.int .i64 n)).setCell (p := ⟨w.heap.size + 1, 2, none⟩) (by simp) (.string s)).setCell (p := ⟨w.heap.size + 1, 3, none⟩) (by simp) (.slice A2 l.length c2)
     have hTF := TmIn.mods (S := [w.heap.size + 1]) (D' := fun i => w.heap.size ≤ i ∧ i < ((((wr.setCell ⟨w.heap.size + 1, 0, none⟩ (.int .i64 k)).setCell ⟨w.heap.size + 1, 1, none⟩ (.int .i64 n)).setCell ⟨w.heap.size + 1, 2, none⟩ (.string s)).setCell ⟨w.heap.size + 1, 3, none⟩ (.slice A2 l.length c2)).heap.size) (((((Mods.refl _ wr).setCell (p := ⟨w.heap.size + 1, 0, none⟩) (.inl (by simp)) (.int .i64 k)).setCell (p := ⟨w.heap.size + 1, 1, none⟩) (.inl (by simp)) (.int .i64 n)).setCell (p := ⟨w.heap.size + 1, 2, none⟩) (.inl (by simp)) (.string s)).setCell (p := ⟨w.heap.size + 1, 3, none⟩) (.inl (by simp)) (.slice A2 l.length c2)) (fun i hi => by simp; omega) (fun i hi => ⟨by omega, by simpa using hi.2⟩) ht2
     have HBF := Lib.hid hbf
     have HEF := Lib.hid hEF
     have HTF := Lib.hid hTF
     clear hbf hEF hTF ht2 HM HR HB HZ
     go_wp2_with fail
     generalize (((wr.setCell ⟨w.heap.size + 1, 0, none⟩ (.int .i64 k)).setCell ⟨w.heap.size + 1, 1, none⟩ (.int .i64 n)).setCell ⟨w.heap.size + 1, 2, none⟩ (.string s)).setCell ⟨w.heap.size + 1, 3, none⟩ (.slice A2 l.length c2) = VF at HBF HEF HTF ⊢
     have r0 : VF.cell? ⟨w.heap.size + 1, 0, none⟩ = some (.int .i64 k) := HBF.out.cell 0
     have r1 : VF.cell? ⟨w.heap.size + 1, 1, none⟩ = some (.int .i64 n) := HBF.out.cell 1
     have r2 : VF.cell? ⟨w.heap.size + 1, 2, none⟩ = some (.string s) := HBF.out.cell 2
     have r3 : VF.cell? ⟨w.heap.size + 1, 3, none⟩ = some (.slice A2 l.length c2) := HBF.out.cell 3
     refine bodyPost_ret (v := .agg #[.int .i64 k, .int .i64 n, .string s, .slice A2 l.length c2]) (by simp [results, Tryz.results193, go_sem, r0, r1, r2, r3]) rfl ⟨A2, c2, rfl, HTF.out, HEF.out⟩
end Go.Proofs.YtgcdhffeacdegaaGreatDoor
