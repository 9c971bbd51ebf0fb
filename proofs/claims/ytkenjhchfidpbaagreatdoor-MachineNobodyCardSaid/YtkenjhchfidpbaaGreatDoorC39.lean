/- strings.Builder at the head of a block: its writing methods, with what they turn. -/
import Derived.Test.YtkenjhchfidpbaaGreatDoorC35
import Derived.Test.YtkenjhchfidpbaaGreatDoorC37
import Derived.Lib.AppendStr
import Derived.Lib.OwnKind
import Derived.Lib.Builder
import Derived.Lib.UnsafeStr
import Derived.Shelf.RegionOpenPlain
import Derived.Test.YtkenjhchfidpbaaGreatDoorC38
namespace Go.Proofs.YtkenjhchfidpbaaGreatDoor
open Go.RowKit Go.El

/-- A builder at the head of block b of type T, with these cells behind. -/
structure BldAt (T : TypeId) (xs : List Value) (base : Nat) (w : World) (b : Nat) (p v : Value) (F : List UInt8) : Prop where
  adr : p = .pointer none ∨ p = .pointer (some ⟨b, 0, none⟩)
  blk : Blk w b T (p :: v :: xs).toArray
  own : w.ownsRow 0 5 1 v F.length (F.map u8V)
  far : ∀ k, v.ownBlock = some k → base ≤ k
/-- What is asked of the block's type. -/
structure BldT (T : TypeId) (n : Nat) : Prop where
  ne : T ≠ 5
  lies : liesAt Tryz.prog Tryz.prog.depth T ((n + 2) / Tryz.prog.cellsOf T) 0 362 1 = true
theorem bldSize : (Tryz.prog.info? 362).map (·.size) = some 2 := by kernel_rfl
theorem bldT0 : BldT 362 0 := ⟨by decide, by kernel_rfl⟩
theorem bldT1 : BldT 364 1 := ⟨by decide, by kernel_rfl⟩

theorem BldAt.no {T : TypeId} {xs : List Value} {base : Nat} {w : World} {b : Nat} {p v : Value} {F : List UInt8} (h : BldAt T xs base w b p v F) (hT : T ≠ 5) : b ∉ ownL v := own_heap h.own h.blk (.inl hT)
theorem BldAt.mods {T : TypeId} {xs : List Value} {base : Nat} {w w' : World} {b : Nat} {p v : Value} {F : List UInt8} (h : BldAt T xs base w b p v F) {S : List Nat} (hm : Mods S w w') (hS : ∀ k, k ∈ S → k ≠ b ∧ v.ownBlock ≠ some k) : BldAt T xs base w' b p v F :=
  ⟨h.adr, h.blk.mods hm (fun e => (hS b e).1 rfl), own_mods h.own hm (fun k hk e => (hS k e).2 hk), h.far⟩
theorem BldAt.ext {T : TypeId} {xs : List Value} {base : Nat} {w w' : World} {b : Nat} {p v : Value} {F : List UInt8} (h : BldAt T xs base w b p v F) (hx : Ext w w') : BldAt T xs base w' b p v F :=
  ⟨h.adr, h.blk.ext hx, own_ext h.own hx, h.far⟩
theorem BldAt.new (T : TypeId) (xs : List Value) (w : World) : BldAt T xs w.heap.size (w.alloc (.cells (.pointer none :: .slice none 0 0 :: xs).toArray T)) w.heap.size (.pointer none) (.slice none 0 0) [] :=
  ⟨.inl rfl, Blk.new w T _, World.ownsRow_nil _ _ _ _, fun k hk => by simp [Value.ownBlock] at hk⟩

set_option maxRecDepth 100000 in
set_option maxHeartbeats 1000000 in
theorem copyCheck_any (T : TypeId) (xs : List Value) (base b : Nat) (p v : Value) (F : List UInt8) (w : World) (hT : BldT T xs.length) (h : BldAt T xs base w b p v F) :
    Calls Tryz.prog 317 #[.pointer (some ⟨b, 0, none⟩)] w fun e w' => e = .returned (.tuple #[]) ∧ BldAt T xs base w' b (.pointer (some ⟨b, 0, none⟩)) v F ∧ Mods [b] w w' := by
  obtain ⟨j, hj, hjs⟩ := Option.map_eq_some_iff.1 bldSize
  have h0 : w.cell? ⟨b, 0, none⟩ = some p := by rw [h.blk.cell 0]; rfl
  have hfz := h.blk.frozen 0
  have hsh : w.shape? b = some (T, xs.length + 2) := by
    have := h.blk
    unfold Blk at this
    simp [World.shape?, this]
  have hu := Lib.run_to_unsafe (P := Tryz.prog) w ⟨b, 0, none⟩ Tryz.underlying359 Tryz.underlying448 hj (by rw [hjs]; decide) hsh (Nat.zero_lt_succ _)
  have hf := Lib.run_from_unsafe (P := Tryz.prog) w ⟨b, 0, none⟩ Tryz.underlying448 Tryz.underlying359 hj hsh hT.lies
  have hn := Lib.run_neq_ptr_same (P := Tryz.prog) (w := w) ⟨b, 0, none⟩ Tryz.underlying359 hj
  have hne : (callFunc 350 #[.pointer (some ⟨b, 0, none⟩)]).run Tryz.prog w = .ok (Next.value (.pointer (some ⟨b, 0, none⟩))) w := by
    rw [run_callFunc_extern Tryz.func350 (by kernel_rfl) (by kernel_rfl) (by kernel_rfl) (e := Extern.AbiNoEscape.same) (by kernel_rfl)]
    rw [Lib.run_noEscape]
    rfl
  rcases h.adr with rfl | rfl
  · have H := Lib.hid h
    clear h
    go_enter Tryz.func317, Tryz.ntmps317
    go_wp2_with fail
    go_end0
    exact ⟨rfl, ⟨.inr rfl, H.out.blk.set_ 0 _, (ownsRow_setCell_other H.out.own (fun e => H.out.no hT.ne (by simp [ownL, e])) _), H.out.far⟩, (Mods.refl [b] w).setCell (p := ⟨b, 0, none⟩) (.inl (by simp)) _⟩
  · have H := Lib.hid h
    clear h
    go_enter Tryz.func317, Tryz.ntmps317
    go_wp2_with fail
    go_end0
    exact ⟨rfl, H.out, Mods.refl _ _⟩

end Go.Proofs.YtkenjhchfidpbaaGreatDoor

namespace Go.El
open Go.RowKit Go.Lib
section
variable {P : Program}
/-- Appending a string's bytes to what is owned: the row is the old one's or a new block's. -/
theorem run_append_str2 (w : World) (base : Nat) (t u ty e : TypeId) (i : TypeInfo) (ht : P.underlying t = some (.slice e)) (hu : P.underlying u = some .string) (hi : P.info? e = some i) (hz : i.zero = some (.int .u8 0))
    (hsize : i.size = 1) (hby : i.bytes = 1)
    (v : Value) (n : Nat) (xs : List Value) (hown : w.ownsRow base e 1 v n xs) (s : ByteArray)
    (h63 : n + s.size ≤ maxLen) (hbytes : n + s.size ≤ 140737488355328) (hbase : base ≤ w.heap.size) :
    ∃ v' w', (Builtin.append_ #[t, u] ty #[v, .string s]).run P w = .ok v' w' ∧ w'.ownsRow base e 1 v' (n + s.size) (xs ++ strCells s) ∧ w.grownBy w' v.ownBlock ∧
      (v'.ownBlock = v.ownBlock ∨ v'.ownBlock = some w.heap.size) := by
  obtain ⟨v', w', hr, h2, h3, _⟩ := run_append_own_string (P := P) w base t u ty e i ht hu hi hz hsize hby v n xs hown s h63 hbytes hbase
  refine ⟨v', w', hr, h2, h3, ?_⟩
  have hxl : xs.length = n := by simpa using hown.1
  rcases hown.2 with ⟨rfl, rfl⟩ | ⟨g, cap, cur, rfl, hbg, hg, hnc, hcm, hcs, htake⟩
  · by_cases hm : s.size = 0
    · have hf := run_firstCells_string (P := P) w 1 s
      have hn : strCells s = [] := List.eq_nil_of_length_eq_zero (by rw [strCells_length]; exact hm)
      rw [hm, hn] at hf
      have hr2 : (Builtin.append_ #[t, u] ty #[.slice none 0 0, .string s]).run P w = .ok (.slice none 0 0) w := by
        simp [Builtin.append_, run_underlying ht, run_underlying hu, sizeOf, typeInfo, hi, hsize, Builtin.lenOf, hm, hf]
      rw [hr2] at hr
      injection hr with hr _
      subst hr
      exact .inl rfl
    · have hr2 := run_append_nil_string (P := P) w t u ty e i (.int .u8 0) ht hu hi hz s (by omega) (by unfold maxLen at h63; omega) (by rw [hby]; omega)
      rw [hr2] at hr
      injection hr with hr _
      subst hr
      exact .inr rfl
  · by_cases hroom : n + s.size ≤ cap
    · have hr2 := run_append_room_string (P := P) w t u ty e i ht hu hi hsize g n cap cur hg s hroom (by have hcs' : cur.size = cap := (by simpa using hcs); omega)
      rw [hr2] at hr
      injection hr with hr _
      subst hr
      exact .inl rfl
    · have holds : ∀ j u, xs[j]? = some u → w.cell? ((⟨g, 0, none⟩ : Addr).add j) = some u := hown.cells (g := g) rfl
      have hr2 := run_append_grow_string (P := P) w t u ty e i (.int .u8 0) ht hu hi hz ⟨g, 0, none⟩ n cap xs (by rw [hsize]; simpa using hxl) holds s (by omega) (by unfold maxLen at h63; omega) (by rw [hby]; exact growslice_fits (by omega) (by omega))
      rw [hr2] at hr
      injection hr with hr _
      subst hr
      exact .inr rfl
theorem wpList_append_str2 {w : World} {ops : Array Oper} {rest : List Oper} {o : Oper} {a : Act} {Q : Exit → Act → World → Prop} (hgd : o.guard = none) (sl x : Operand) (t u : TypeId)
    (ho : o.op = .call { callee := .builtin .append, args := #[sl, x], argTypes := #[t, u] })
    (base : Nat) (e : TypeId) (i : TypeInfo) (ht : P.underlying t = some (.slice e)) (hu : P.underlying u = some .string) (hi : P.info? e = some i) (hz : i.zero = some (.int .u8 0))
    (hsize : i.size = 1) (hby : i.bytes = 1)
    (v : Value) (n : Nat) (xs : List Value) (hs : a.eval sl = v) (hown : w.ownsRow base e 1 v n xs) (s : ByteArray) (hx : a.eval x = .string s)
    (h63 : n + s.size ≤ maxLen) (hbytes : n + s.size ≤ 140737488355328) (hbase : base ≤ w.heap.size)
    (h : ∀ v' w', w'.ownsRow base e 1 v' (n + s.size) (xs ++ strCells s) → w.grownBy w' v.ownBlock → (v'.ownBlock = v.ownBlock ∨ v'.ownBlock = some w.heap.size) → wpList P ops Q rest (a.put o.dst v') w') : wpList P ops Q (o :: rest) a w := by
  refine wpList_plain hgd fun K hK => ?_
  obtain ⟨v', w', hr, h2, h3, h4⟩ := run_append_str2 (P := P) w base t u o.type e i ht hu hi hz hsize hby v n xs hown s h63 hbytes hbase
  unfold Oper.wp execOp
  simp only [ho, resolve, invoke, builtin, Sem.run_bind, Sem.run_pure, Result.andThen_ok, List.map_toArray, List.map_cons, List.map_nil, hs, hx, hr]
  exact hK _ _ (h v' w' h2 h3 h4)
end
end Go.El

namespace Go.Proofs.YtkenjhchfidpbaaGreatDoor
open Go.RowKit Go.El

theorem grow_own {w1 w2 : World} {u v : Value} (hs : w1.heap.size ≤ w2.heap.size) (h : u.ownBlock = v.ownBlock ∨ u.ownBlock = some w2.heap.size) : ∀ k, u.ownBlock = some k → v.ownBlock = some k ∨ w1.heap.size ≤ k := by
  intro k hk
  rcases h with e | e
  · exact .inl (e.symm.trans hk)
  · have e1 := e.symm.trans hk
    injection e1 with e1
    exact .inr (e1 ▸ hs)
/-- What a writing method leaves. -/
theorem bld_wrote {T : TypeId} {xs : List Value} {base b : Nat} {p v v3 : Value} {F G : List UInt8} {n : Nat} {w w1 w3 : World} (hT : BldT T xs.length) (hbw : base ≤ w.heap.size) (_h : BldAt T xs base w b p v F) (hm1 : Mods [b] w w1) (hf : ∀ k, v.ownBlock = some k → base ≤ k)
    (ho : w3.ownsRow 0 5 1 v3 (F.length + n) (F.map u8V ++ G.map u8V)) (hm : Mods (ownL v) w1 w3) (hbk : Blk w3 b T (.pointer (some ⟨b, 0, none⟩) :: v :: xs).toArray) (hb : ∀ k, v3.ownBlock = some k → v.ownBlock = some k ∨ w1.heap.size ≤ k) (hn : G.length = n) :
    BldAt T xs base (w3.setCell ⟨b, 1, none⟩ v3) b (.pointer (some ⟨b, 0, none⟩)) v3 (F ++ G) ∧ WStep b v w v3 (w3.setCell ⟨b, 1, none⟩ v3) := by
  have hno := own_heap ho hbk (.inl hT.ne)
  have hk : ∀ k, v3.ownBlock = some k → v.ownBlock = some k ∨ w.heap.size ≤ k := fun k e => (hb k e).imp id (fun h => Nat.le_trans hm1.size h)
  refine ⟨⟨.inr rfl, hbk.set_ 1 _, ?_, fun k e => ?_⟩, ?_, hk⟩
  · rw [List.length_append, List.map_append, hn]
    exact ownsRow_setCell_other ho (fun e => hno (by simp [ownL, e])) _
  · rcases hk k e with e | e
    · exact hf k e
    · exact Nat.le_trans hbw e
  · exact (((hm1.mono (fun x hx => by simp at hx; simp [hx])).trans (hm.mono (fun x hx => List.mem_cons_of_mem _ hx))).setCell (.inl (by simp)) _)

set_option maxRecDepth 100000 in
set_option maxHeartbeats 4000000 in
theorem bldString_any (T : TypeId) (xs : List Value) (base b : Nat) (p v : Value) (F : List UInt8) (s : ByteArray) (w : World) (hT : BldT T xs.length) (h : BldAt T xs base w b p v F) (hbw : base ≤ w.heap.size) (hl : F.length + s.size ≤ 1000000000) :
    Calls Tryz.prog 258 #[.pointer (some ⟨b, 0, none⟩), .string s] w fun e w' => e = .returned (.tuple #[.int .i64 s.size, .nilIface]) ∧ ∃ v', BldAt T xs base w' b (.pointer (some ⟨b, 0, none⟩)) v' (F ++ s.data.toList) ∧ WStep b v w v' w' := by
  obtain ⟨i1, hi1, hz0, hz1, hz2⟩ := infoP u8Info
  obtain ⟨A, c, rfl⟩ := own_value h.own
  have hsl : s.size ≤ 9223372036854775807 := by omega
  have H := Lib.hid h
  clear h
  go_enter Tryz.func258, Tryz.ntmps258
  go_wp2_with (first | (go_at_call 317; refine (copyCheck_any T xs base b p _ F w hT H.out).mono ?_; rintro e w1 ⟨rfl, h1, hm1⟩; have d1 : w1.cell? ⟨b, 1, none⟩ = some (.slice A F.length c) := h1.blk.cell 1; have H1 := Lib.hid h1; have HM1 := Lib.hid hm1; clear h1 hm1) | (at_builtin; refine wpList_append_str2 (P := Tryz.prog) rfl _ _ 360 9 rfl 0 5 i1 Tryz.underlying360 Tryz.underlying9 hi1 hz0 hz1 hz2 (.slice A F.length c) F.length (F.map u8V) rfl H1.out.own s rfl (by unfold maxLen; omega) (by omega) (Nat.zero_le _) ?_; intro v3 w3 ho3 hm3 hb3; obtain ⟨A3, c3, rfl⟩ := own_value ho3; have hM := grown_mods hm3; have hbk := H1.out.blk.mods hM (H1.out.no hT.ne); have k1 : w3.cell? ⟨b, 1, none⟩ = some (.slice A F.length c) := hbk.cell 1; have kf := hbk.frozen 1; have HO := Lib.hid ho3; have HM := Lib.hid hM; have HBK := Lib.hid hbk; have HB := Lib.hid (grow_own (w1 := w1) (Nat.le_refl _) hb3); clear ho3 hm3 hM hbk hb3))
  go_ret2
  refine ⟨rfl, _, bld_wrote hT hbw H.out HM1.out H1.out.far HO.out HM.out HBK.out HB.out (by simp)⟩

set_option maxRecDepth 100000 in
set_option maxHeartbeats 4000000 in
theorem bldByte_any (T : TypeId) (xs : List Value) (base b : Nat) (p v : Value) (F : List UInt8) (c : UInt8) (w : World) (hT : BldT T xs.length) (h : BldAt T xs base w b p v F) (hbw : base ≤ w.heap.size) (hl : F.length ≤ 1000000000) :
    Calls Tryz.prog 316 #[.pointer (some ⟨b, 0, none⟩), .int .u8 (c.toNat : Int)] w fun e w' => e = .returned .nilIface ∧ ∃ v', BldAt T xs base w' b (.pointer (some ⟨b, 0, none⟩)) v' (F ++ [c]) ∧ WStep b v w v' w' := by
  obtain ⟨i1, hi1, hz0, hz1, hz2⟩ := infoP u8Info
  obtain ⟨A, k, rfl⟩ := own_value h.own
  have H := Lib.hid h
  clear h
  go_enter Tryz.func316, Tryz.ntmps316
  go_wp2_with (first | (go_at_call 317; refine (copyCheck_any T xs base b p _ F w hT H.out).mono ?_; rintro e w1 ⟨rfl, h1, hm1⟩; have d1 : w1.cell? ⟨b, 1, none⟩ = some (.slice A F.length k) := h1.blk.cell 1; have H1 := Lib.hid h1; have HM1 := Lib.hid hm1; clear h1 hm1) | (at_builtin; refine wpList_append_src (P := Tryz.prog) rfl _ _ 360 rfl 5 i1 _ 1 1 Tryz.underlying360 hi1 hz0 hz1 hz2 rfl (by omega) (.slice A F.length k) rfl _ _ _ rfl F.length (F.map u8V) (own_ext H1.out.own ((Ext.refl w1).alloc _)) [.int .u8 (c.toNat : Int)] (El.Src.new _ #[.int .u8 (c.toNat : Int)] _ 1 1 rfl) (u8_one [c]) (by unfold maxLen; omega) (by omega) ?_; intro v3 w3 ho3 hm3 hb3; obtain ⟨A3, c3, rfl⟩ := own_value ho3; have hM := (Mods.ext (S := ownL (.slice A F.length k)) ((Ext.refl w1).alloc (.cells #[.int .u8 (c.toNat : Int)] 5))).trans hm3; have hbk := H1.out.blk.mods hM (H1.out.no hT.ne); have k1 : w3.cell? ⟨b, 1, none⟩ = some (.slice A F.length k) := hbk.cell 1; have kf := hbk.frozen 1; have HO := Lib.hid ho3; have HM := Lib.hid hM; have HBK := Lib.hid hbk; have HB := Lib.hid (grow_own (w1 := w1) (by simp) hb3); clear ho3 hm3 hM hbk hb3))
  go_ret
  refine ⟨rfl, _, bld_wrote hT hbw H.out HM1.out H1.out.far HO.out HM.out HBK.out HB.out rfl⟩

set_option maxRecDepth 100000 in
theorem bldLen_any (T : TypeId) (xs : List Value) (base b : Nat) (p v : Value) (F : List UInt8) (w : World) (h : BldAt T xs base w b p v F) :
    Calls Tryz.prog 318 #[.pointer (some ⟨b, 0, none⟩)] w fun e w' => e = .returned (.int .i64 F.length) ∧ w' = w := by
  obtain ⟨A, k, rfl⟩ := own_value h.own
  have d1 : w.cell? ⟨b, 1, none⟩ = some (.slice A F.length k) := h.blk.cell 1
  clear h
  go_enter Tryz.func318, Tryz.ntmps318
  go_wp2_with fail
  go_ret
  exact ⟨rfl, rfl⟩

theorem byteCells_u8 (l : List UInt8) : Lib.byteCells l = l.map u8V := rfl

set_option maxRecDepth 100000 in
set_option maxHeartbeats 1000000 in
theorem bldText_any (T : TypeId) (xs : List Value) (base b : Nat) (p v : Value) (F : List UInt8) (w : World) (h : BldAt T xs base w b p v F) (h0 : F ≠ []) :
    Calls Tryz.prog 319 #[.pointer (some ⟨b, 0, none⟩)] w fun e w' => e = .returned (.string (strB F)) ∧ Below base w w' := by
  have hl0 : F.length ≠ 0 := by simpa using h0
  obtain ⟨g, cap, cur, rfl, hg, hnc, hcm, hcs⟩ : ∃ g cap cur, v = .slice (some ⟨g, 0, none⟩) F.length cap ∧ w.heap[g]? = some (.cells cur 5 (0, 0)) ∧ F.length ≤ cap ∧ cap ≤ maxLen ∧ cur.size = cap * 1 := by
    rcases h.own.2 with ⟨_, hz⟩ | ⟨g, cap, cur, hv, _, hg, hnc, hcm, hcs, _⟩
    · exact absurd hz hl0
    · exact ⟨g, cap, cur, hv, hg, hnc, hcm, hcs⟩
  have hbg : base ≤ g := h.far g rfl
  have c1 : w.drew.cell? ⟨b, 1, none⟩ = some (.slice (some ⟨g, 0, none⟩) F.length cap) := h.blk.cell 1
  have hSD : (Builtin.unsafeSliceData_ #[360] 450 #[.slice (some ⟨g, 0, none⟩) F.length cap]).run Tryz.prog w.drew = .ok (.pointer (some ⟨g, 0, none⟩)) w.drew :=
    Lib.run_unsafeSliceData_row _ _ _ _ _ _ (by omega)
  have hg' : w.drew.heap[g]? = some (.cells cur 5 (0, 0)) := hg
  have hshp : w.drew.shape? g = some (5, cur.size) := by simp [World.shape?, hg']
  have hUS : (Builtin.unsafeString_ #[450, 3] 9 #[.pointer (some ⟨g, 0, none⟩), .int .i64 F.length]).run Tryz.prog w.drew = .ok (.string (strB F)) (w.drew.freeze ⟨g, 0, none⟩ F.length) := by
    refine Lib.run_unsafeString_row w.drew 450 3 9 5 Tryz.underlying450 (by kernel_rfl) g cur.size hshp F h0 (by omega) (by unfold maxLen at hcm; omega) ?_
    intro j x hx
    exact h.own.cells (g := g) rfl j (.int .u8 x.toNat) (by simp [u8V, hx])
  clear h
  go_enter Tryz.func319, Tryz.ntmps319
  go_upto_region 1 with fail
  go_region
  all_goals (go_wp2_with fail; go_ret; exact ⟨rfl, Lib.below_freeze (Below.drew (Below.refl base w)) (p := ⟨g, 0, none⟩) hbg _⟩)

end Go.Proofs.YtkenjhchfidpbaaGreatDoor

/- Rows of terms that a call gathers. -/
namespace Go.El
open Go.RowKit

/-- A term and where its arguments lie. -/
abbrev TmP := Tm × Option Addr × Nat
def tmC (p : TmP) : List Value := [.int .i64 p.1.k, .int .i64 p.1.n, .string p.1.s, .slice p.2.1 p.1.l.length p.2.2]
theorem tmC_len (p : TmP) : (tmC p).length = 4 := rfl
theorem tmC_one (p : TmP) : ∀ u ∈ tmC p, u.oneCell' = true := by
  intro u hu
  simp only [tmC, List.mem_cons, List.not_mem_nil, or_false] at hu
  rcases hu with rfl | rfl | rfl | rfl <;> rfl

/-- A row of terms that a call has gathered: it and all below lies in blocks from lo on. -/
structure RowT (X : World) (lo : Nat) (wr : World) (v : Value) (M : List TmP) : Prop where
  own : wr.ownsRow 0 24 4 v M.length (flat tmC M)
  kid : ∀ p ∈ M, TmIn (fun k => lo ≤ k ∧ v.ownBlock ≠ some k ∧ k < wr.heap.size) wr p.1 p.2.1 p.2.2
  far : ∀ k, v.ownBlock = some k → lo ≤ k
  ext : Ext X wr
  xlo : X.heap.size ≤ lo
  low : lo ≤ wr.heap.size
theorem RowT.start {X wr : World} (h : Ext X wr) : RowT X wr.heap.size wr (.slice none 0 0) [] :=
  ⟨World.ownsRow_nil _ _ _ _, fun p hp => by simp at hp, fun k hk => by simp [Value.ownBlock] at hk, h, h.size, Nat.le_refl _⟩
theorem RowT.ng {X wr : World} {lo : Nat} {v : Value} {M : List TmP} (h : RowT X lo wr v M) {g : Nat} (hg : g < lo) : v.ownBlock ≠ some g := fun e => by have := h.far g e; omega
theorem RowT.no {X wr : World} {lo : Nat} {v : Value} {M : List TmP} (h : RowT X lo wr v M) {g : Nat} (hg : g < lo) : g ∉ ownL v := fun e => h.ng hg (by simpa [ownL] using e)
theorem RowT.go {X wr w' : World} {lo : Nat} {v : Value} {M : List TmP} (h : RowT X lo wr v M) (x : Ext wr w') : RowT X lo w' v M :=
  ⟨own_ext h.own x, fun p hp => ((h.kid p hp).ext x).mono (fun _ hk => ⟨hk.1, hk.2.1, Nat.lt_of_lt_of_le hk.2.2 x.size⟩), h.far, h.ext.trans x, h.xlo, Nat.le_trans h.low x.size⟩
theorem RowT.set_ {X wr : World} {lo : Nat} {v : Value} {M : List TmP} (h : RowT X lo wr v M) {g : Nat} (hx : X.heap.size ≤ g) (hg : g < lo) (i : Nat) (u : Value) : RowT X lo (wr.setCell ⟨g, i, none⟩ u) v M := by
  refine ⟨ownsRow_setCell_other h.own (h.ng hg) u, fun p hp => ?_, h.far, h.ext.setCell (p := ⟨g, i, none⟩) hx u, h.xlo, by simpa using h.low⟩
  exact TmIn.mods (S := [g]) ((Mods.refl [g] wr).setCell (p := ⟨g, i, none⟩) (.inl (by simp)) u) (fun k hk => by simp; omega) (fun k hk => ⟨hk.1, hk.2.1, by simpa using hk.2.2⟩) (h.kid p hp)
/-- One more. -/
theorem RowT.step {X wr V w' : World} {lo : Nat} {v v' : Value} {M : List TmP} {p : TmP} (h : RowT X lo wr v M) (x : Ext wr V) (hp : TmIn (fun k => lo ≤ k ∧ v.ownBlock ≠ some k ∧ k < V.heap.size) V p.1 p.2.1 p.2.2)
    (ho : w'.ownsRow 0 24 4 v' (M.length + 1) (flat tmC M ++ tmC p)) (hm : Mods (ownL v) V w') (hb : v'.ownBlock = v.ownBlock ∨ v'.ownBlock = some V.heap.size) : RowT X lo w' v' (M ++ [p]) := by
  have hV := h.go x
  have hD : ∀ k, (lo ≤ k ∧ v.ownBlock ≠ some k ∧ k < V.heap.size) → k ∉ ownL v := fun k hk hm => hk.2.1 (by simpa [ownL] using hm)
  have hD2 : ∀ k, (lo ≤ k ∧ v.ownBlock ≠ some k ∧ k < V.heap.size) → (lo ≤ k ∧ v'.ownBlock ≠ some k ∧ k < w'.heap.size) := fun k hk => by
    refine ⟨hk.1, fun e => ?_, Nat.lt_of_lt_of_le hk.2.2 hm.size⟩
    rcases hb with hb | hb
    · exact hk.2.1 (hb.symm.trans e)
    · have e1 := hb.symm.trans e
      injection e1 with e1
      have := hk.2.2
      omega
  refine ⟨?_, fun q hq => ?_, fun k e => ?_, ?_, h.xlo, Nat.le_trans hV.low hm.size⟩
  · rw [List.length_append, flat_append]
    simpa [flat] using ho
  · rcases List.mem_append.1 hq with hq | hq
    · exact TmIn.mods hm hD hD2 (hV.kid q hq)
    · simp at hq
      subst hq
      exact TmIn.mods hm hD hD2 hp
  · rcases hb with hb | hb
    · exact h.far k (hb.symm.trans e)
    · have e1 := hb.symm.trans e
      injection e1 with e1
      have := hV.low
      omega
  · exact (Mods.step (S := []) (Mods.ext hV.ext) hm (fun k hk => .inr (Nat.le_trans h.xlo (h.far k (by simpa [ownL] using hk))))).toExt (by simp)
/-- The term of these arguments. -/
theorem RowT.done {X wr : World} {lo : Nat} {v : Value} {M : List TmP} (h : RowT X lo wr v M) (k n : Int) (s : ByteArray) : ∃ A c, v = .slice A M.length c ∧ TmIn (fun i => lo ≤ i ∧ i < wr.heap.size) wr (.mk k n s (M.map (·.1))) A c := by
  obtain ⟨A, c, rfl⟩ := own_value h.own
  refine ⟨A, c, rfl, ?_⟩
  have hc : (M.map (·.1)).length ≤ c := by
    rcases h.own.2 with ⟨h1, h2⟩ | ⟨g', cap', cur, hv, _, _, hnc, _⟩
    · simp only [Value.slice.injEq] at h1
      simp
      omega
    · injection hv with _ _ hc
      subst hc
      simpa using hnc
  refine .mk k n s _ A c (M.map (·.2)) (by simp) (fun j t q ht hq => ?_) (fun hne => ?_) hc
  · rw [List.getElem?_map] at ht hq
    cases hp : M[j]? with
    | none => rw [hp] at ht; simp at ht
    | some p =>
      rw [hp] at ht hq
      simp at ht hq
      subst ht hq
      exact (h.kid p (List.mem_of_getElem? hp)).mono (fun i hi => ⟨hi.1, hi.2.2⟩)
  · have hlen : 0 < M.length := by
      rcases M with _ | ⟨p, M⟩
      · simp at hne
      · simp
    obtain ⟨b, off, rfl, hcell⟩ := Src.form (Src.of_own h.own) hlen (by omega)
    have hb0 : (Value.slice (some ⟨b, off, none⟩) M.length c).ownBlock = some b := rfl
    refine ⟨b, off, rfl, ⟨h.far b hb0, (h.own.lt b hb0).2⟩, fun j t q ht hq => ?_⟩
    rw [List.getElem?_map] at ht hq
    cases hp : M[j]? with
    | none => rw [hp] at ht; simp at ht
    | some p =>
      rw [hp] at ht hq
      simp at ht hq
      subst ht hq
      refine ⟨?_, ?_, ?_, ?_⟩
      · exact hcell (j * 4) _ ((flat_at tmC_len M j 0 p hp (by omega)).trans rfl)
      · exact hcell (j * 4 + 1) _ ((flat_at tmC_len M j 1 p hp (by omega)).trans rfl)
      · exact hcell (j * 4 + 2) _ ((flat_at tmC_len M j 2 p hp (by omega)).trans rfl)
      · exact hcell (j * 4 + 3) _ ((flat_at tmC_len M j 3 p hp (by omega)).trans rfl)

end Go.El
