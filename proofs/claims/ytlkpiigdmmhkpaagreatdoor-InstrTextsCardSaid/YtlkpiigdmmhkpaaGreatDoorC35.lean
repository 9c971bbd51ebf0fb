/- strings.Builder's WriteByte, WriteString at this program (the numbers laid by hand: the kit's own laying stops at a type that no body names). -/
import Derived.Shelf.Strings.Builder1
import Derived.Shelf.Small.Strs
import Derived.Test.YtlkpiigdmmhkpaaGreatDoorProg
import Derived.Test.YtlkpiigdmmhkpaaGreatDoorC32
import Derived.Lib.AppendStr
import Derived.Lib.OwnKind
namespace Go.Proofs.YtlkpiigdmmhkpaaGreatDoor
open Go.Shelf Go.Proofs Go.RowKit
def Tryz.lays167_ren : Go.Shelf.Ren := ⟨fun | 167 => 40 | 240 => 65 | 276 => 83 | n => n, fun | 0 => 0 | 3 => 3 | 4 => 4 | 5 => 5 | 9 => 9 | 20 => 20 | 37 => 68 | 70 => 67 | 72 => 70 | 75 => 72 | 80 => 77 | 164 => 104 | n => n, fun | n => n⟩
theorem Tryz.lays167 : Go.Proofs.Lays.n167 Tryz.prog Tryz.lays167_ren := {
  mixed := by kernel_rfl
  f167 := Tryz.func40.trans (congrArg some (by kernel_rfl))
  f240 := Tryz.func65.trans (congrArg some (by kernel_rfl))
  f276 := Tryz.func83.trans (congrArg some (by kernel_rfl))
  t0 := Tryz.underlying0
  a0 := Tryz.isAgg0
  z0 := Tryz.sizeOf0
  v0 := Tryz.zeroValue0
  t4 := Tryz.underlying4
  a4 := Tryz.isAgg4
  z4 := Tryz.sizeOf4
  v4 := Tryz.zeroValue4
  t5 := Tryz.underlying5
  a5 := Tryz.isAgg5
  z5 := Tryz.sizeOf5
  v5 := Tryz.zeroValue5
  t9 := Tryz.underlying9
  a9 := Tryz.isAgg9
  z9 := Tryz.sizeOf9
  v9 := Tryz.zeroValue9
  t20 := Tryz.underlying20
  a20 := Tryz.isAgg20
  z20 := Tryz.sizeOf20
  v20 := Tryz.zeroValue20
  t37 := Tryz.underlying68
  a37 := Tryz.isAgg68
  z37 := Tryz.sizeOf68
  v37 := Tryz.zeroValue68
  t70 := Tryz.underlying67
  a70 := Tryz.isAgg67
  z70 := Tryz.sizeOf67
  v70 := Tryz.zeroValue67
  t72 := Tryz.underlying70
  a72 := Tryz.isAgg70
  z72 := Tryz.sizeOf70
  v72 := Tryz.zeroValue70
  t75 := Tryz.underlying72
  a75 := Tryz.isAgg72
  z75 := Tryz.sizeOf72
  v75 := Tryz.zeroValue72
  t164 := Tryz.underlying104
  a164 := Tryz.isAgg104
  z164 := Tryz.sizeOf104
  v164 := Tryz.zeroValue104 }
theorem Tryz.Builder_Extra_167 : Builder.Extra Tryz.prog Tryz.lays167_ren := {
  sizeBuilder := by kernel_rfl
  liesBuilder := by kernel_rfl
  t5 := Tryz.underlying5
  a5 := Tryz.isAgg5
  z5 := Tryz.sizeOf5
  v5 := Tryz.zeroValue5
  infoByte := by kernel_rfl
  cellsByte := by kernel_rfl
  sizeByte := by kernel_rfl
  neB5 := by decide }
def Tryz.lays166_ren : Go.Shelf.Ren := ⟨fun | 166 => 41 | 240 => 65 | 276 => 83 | n => n, fun | 0 => 0 | 3 => 3 | 4 => 4 | 5 => 5 | 9 => 9 | 20 => 20 | 37 => 68 | 70 => 67 | 72 => 70 | 75 => 72 | 80 => 77 | 164 => 104 | n => n, fun | n => n⟩
theorem Tryz.lays166 : Go.Proofs.Lays.n166 Tryz.prog Tryz.lays166_ren := {
  mixed := by kernel_rfl
  f166 := Tryz.func41.trans (congrArg some (by kernel_rfl))
  f240 := Tryz.func65.trans (congrArg some (by kernel_rfl))
  f276 := Tryz.func83.trans (congrArg some (by kernel_rfl))
  t0 := Tryz.underlying0
  a0 := Tryz.isAgg0
  z0 := Tryz.sizeOf0
  v0 := Tryz.zeroValue0
  t3 := Tryz.underlying3
  a3 := Tryz.isAgg3
  z3 := Tryz.sizeOf3
  v3 := Tryz.zeroValue3
  t4 := Tryz.underlying4
  a4 := Tryz.isAgg4
  z4 := Tryz.sizeOf4
  v4 := Tryz.zeroValue4
  t9 := Tryz.underlying9
  a9 := Tryz.isAgg9
  z9 := Tryz.sizeOf9
  v9 := Tryz.zeroValue9
  t20 := Tryz.underlying20
  a20 := Tryz.isAgg20
  z20 := Tryz.sizeOf20
  v20 := Tryz.zeroValue20
  t37 := Tryz.underlying68
  a37 := Tryz.isAgg68
  z37 := Tryz.sizeOf68
  v37 := Tryz.zeroValue68
  t70 := Tryz.underlying67
  a70 := Tryz.isAgg67
  z70 := Tryz.sizeOf67
  v70 := Tryz.zeroValue67
  t72 := Tryz.underlying70
  a72 := Tryz.isAgg70
  z72 := Tryz.sizeOf70
  v72 := Tryz.zeroValue70
  t75 := Tryz.underlying72
  a75 := Tryz.isAgg72
  z75 := Tryz.sizeOf72
  v75 := Tryz.zeroValue72
  t164 := Tryz.underlying104
  a164 := Tryz.isAgg104
  z164 := Tryz.sizeOf104
  v164 := Tryz.zeroValue104 }
theorem Tryz.Builder_Extra_166 : Builder.Extra Tryz.prog Tryz.lays166_ren := {
  sizeBuilder := by kernel_rfl
  liesBuilder := by kernel_rfl
  t5 := Tryz.underlying5
  a5 := Tryz.isAgg5
  z5 := Tryz.sizeOf5
  v5 := Tryz.zeroValue5
  infoByte := by kernel_rfl
  cellsByte := by kernel_rfl
  sizeByte := by kernel_rfl
  neB5 := by decide }
theorem Tryz.Builder_WriteByte (B b : Nat) (bs : List Value) (c : Int) (w : World) (h : Lib.IsBuilder 70 5 B b bs w) (hlen : bs.length + 1 ≤ 140737488355328) (hBw : B ≤ w.heap.size) :
    Calls Tryz.prog 40 #[.pointer (some ⟨b, 0, none⟩), .int .u8 c] w fun e w' => e = .returned .nilIface ∧ (Lib.BuilderAt 70 5 B b (.pointer (some ⟨b, 0, none⟩)) (bs ++ [.int .u8 c]) w' ∧ Below B w w') := Any.Builder_WriteByte Tryz.lays167 Tryz.Builder_Extra_167 B b bs c w h hlen hBw
theorem Tryz.Builder_WriteString (B b : Nat) (bs : List Value) (s : ByteArray) (w : World) (h : Lib.IsBuilder 70 5 B b bs w) (hlen : bs.length + s.size ≤ 140737488355328) (hBw : B ≤ w.heap.size) :
    Calls Tryz.prog 41 #[.pointer (some ⟨b, 0, none⟩), .string s] w fun e w' => e = .returned (.tuple #[.int .i64 s.size, .nilIface]) ∧ (Lib.BuilderAt 70 5 B b (.pointer (some ⟨b, 0, none⟩)) (bs ++ Lib.strCells s) w' ∧ Below B w w') := Any.Builder_WriteString Tryz.lays166 Tryz.Builder_Extra_166 B b bs s w h hlen hBw

def Tryz.lays240_ren : Go.Shelf.Ren := ⟨fun | 240 => 65 | 276 => 83 | n => n, fun | 0 => 0 | 4 => 4 | 5 => 5 | 9 => 9 | 20 => 20 | 37 => 68 | 70 => 67 | 72 => 70 | 75 => 72 | 80 => 77 | 164 => 104 | n => n, fun | n => n⟩
theorem Tryz.lays240 : Go.Proofs.Lays.n240 Tryz.prog Tryz.lays240_ren := {
  mixed := by kernel_rfl
  f240 := Tryz.func65.trans (congrArg some (by kernel_rfl))
  f276 := Tryz.func83.trans (congrArg some (by kernel_rfl))
  t0 := Tryz.underlying0
  a0 := Tryz.isAgg0
  z0 := Tryz.sizeOf0
  v0 := Tryz.zeroValue0
  t4 := Tryz.underlying4
  a4 := Tryz.isAgg4
  z4 := Tryz.sizeOf4
  v4 := Tryz.zeroValue4
  t9 := Tryz.underlying9
  a9 := Tryz.isAgg9
  z9 := Tryz.sizeOf9
  v9 := Tryz.zeroValue9
  t20 := Tryz.underlying20
  a20 := Tryz.isAgg20
  z20 := Tryz.sizeOf20
  v20 := Tryz.zeroValue20
  t70 := Tryz.underlying67
  a70 := Tryz.isAgg67
  z70 := Tryz.sizeOf67
  v70 := Tryz.zeroValue67
  t72 := Tryz.underlying70
  a72 := Tryz.isAgg70
  z72 := Tryz.sizeOf70
  v72 := Tryz.zeroValue70
  t164 := Tryz.underlying104
  a164 := Tryz.isAgg104
  z164 := Tryz.sizeOf104
  v164 := Tryz.zeroValue104 }
theorem Tryz.Builder_X72 : Builder.X72 Tryz.prog Tryz.lays240_ren := {
  sizeBuilder := by kernel_rfl
  liesBuilder := by kernel_rfl }
theorem Tryz.copyCheck_used (b : Nat) (w : World) (h0 : w.cell? ⟨b, 0, none⟩ = some (.pointer (some ⟨b, 0, none⟩))) :
    Calls Tryz.prog 65 #[.pointer (some ⟨b, 0, none⟩)] w fun e w' => e = .returned (.tuple #[]) ∧ w' = w := Any.Builder_copyCheck_used Tryz.lays240 Tryz.Builder_X72 b w h0
theorem Tryz.copyCheck_fresh (b : Nat) (w : World) (h0 : w.cell? ⟨b, 0, none⟩ = some (.pointer none)) (hsh : w.shape? b = some (70, 2)) (hfz : w.frozen? ⟨b, 0, none⟩ = false) :
    Calls Tryz.prog 65 #[.pointer (some ⟨b, 0, none⟩)] w fun e w' => e = .returned (.tuple #[]) ∧ w' = w.setCell ⟨b, 0, none⟩ (.pointer (some ⟨b, 0, none⟩)) := Any.Builder_copyCheck_fresh Tryz.lays240 Tryz.Builder_X72 b w h0 hsh hfz

end Go.Proofs.YtlkpiigdmmhkpaaGreatDoor

/- Layer 8, the program: the walk of sign at bytes that want no hex. -/
namespace Go.Proofs.YtlkpiigdmmhkpaaGreatDoor
open Go.RowKit Go.El

/-- How a byte stands between quotes, where it wants no hex digits. -/
def sgnS (c : UInt8) : List UInt8 := if c = 10 then [92, 110] else if c = 9 then [92, 116] else if c = 39 ∨ c = 92 then [92, c] else [c]
def isCtl (c : UInt8) : Bool := (c < 32 && c != 10 && c != 9) || c == 127
theorem str_app (a b : List UInt8) : (strB a) ++ (strB b) = strB (a ++ b) := by
  have h : ((strB a) ++ (strB b)).data.toList = a ++ b := by
    rw [ByteArray.data_append, Array.toList_append, strB_toList, strB_toList]
  rw [← strB_mk ((strB a) ++ (strB b)), h]

set_option maxRecDepth 100000 in
set_option maxHeartbeats 2000000 in
theorem sgn_any (c : UInt8) (w : World) (hc : isCtl c = false) :
    Calls Tryz.prog 42 #[.int .u8 (c.toNat : Int)] w fun e w' => e = .returned (.string (strB (sgnS c))) ∧ Ext w w' := by
  have hcl := c.toNat_lt
  by_cases h10 : c = 10
  · subst h10
    go_enter Tryz.func42, Tryz.ntmps42
    go_wp2_with fail
    go_ret
    exact ⟨rfl, Ext.refl _⟩
  by_cases h9 : c = 9
  · subst h9
    go_enter Tryz.func42, Tryz.ntmps42
    go_wp2_with fail
    go_ret
    exact ⟨rfl, Ext.refl _⟩
  have q10 := u8_ne' (c := c) (n := 10) (z := 10) rfl (by omega) h10
  have q9 := u8_ne' (c := c) (n := 9) (z := 9) rfl (by omega) h9
  have hb1 : BytesAt (w.alloc (.cells #[.int .u8 (c.toNat : Int)] 5)) (some ⟨w.heap.size, 0, none⟩) [c] := El.Src.new w #[.int .u8 (c.toNat : Int)] 5 1 1 rfl
  have hcv : (convert 68 9 (.slice (some ⟨w.heap.size, 0, none⟩) 1 1)).run Tryz.prog (w.alloc (.cells #[.int .u8 (c.toNat : Int)] 5)) = .ok (.string (strB [c])) _ := conv_str 1 hb1
  clear hb1
  by_cases hq : c = 39 ∨ c = 92
  · have HN := Lib.hid (show sgnS c = [92] ++ [c] from by unfold sgnS; rw [if_neg h10, if_neg h9, if_pos hq]; rfl)
    have hd : ((c.toNat : Int) == (39 : Int)) = true ∨ (((c.toNat : Int) == (39 : Int)) = false ∧ ((c.toNat : Int) == (92 : Int)) = true) := by
      rcases hq with rfl | rfl
      · exact .inl rfl
      · exact .inr ⟨rfl, rfl⟩
    have happ := str_app [92] [c]
    generalize hgs : strB [c] = s at hcv happ
    have hsz : s.size = 1 := by rw [← hgs]; exact strB_size [c]
    have HA := Lib.hid happ
    clear hq h10 h9 hc hgs happ
    rcases hd with h | ⟨h1, h2⟩
    all_goals
      go_enter Tryz.func42, Tryz.ntmps42
      go_wp2_with fail
      go_ret
      refine ⟨?_, ext_box _ _⟩
      rw [HN.out, ← HA.out]
      rfl
  · have HN := Lib.hid (show sgnS c = [c] from by unfold sgnS; rw [if_neg h10, if_neg h9, if_neg hq])
    have q39 := u8_ne' (c := c) (n := 39) (z := 39) rfl (by omega) (fun e => hq (.inl e))
    have q92 := u8_ne' (c := c) (n := 92) (z := 92) rfl (by omega) (fun e => hq (.inr e))
    have g1 : 32 ≤ c.toNat ∧ c ≠ 127 := by
      have := all_bytes (p := fun c => (isCtl c || c == 10 || c == 9 || (decide (32 ≤ c.toNat) && c != 127)) = true) (by decide +kernel) c
      rw [hc] at this
      simpa [h10, h9] using this
    obtain ⟨g1, g2⟩ := g1
    have q127 := u8_ne' (c := c) (n := 127) (z := 127) rfl (by omega) g2
    generalize hgs : strB [c] = s at hcv
    have HGS := Lib.hid hgs
    clear hq h10 h9 hc hgs g2
    go_enter Tryz.func42, Tryz.ntmps42
    go_wp2_with fail
    go_ret
    refine ⟨?_, ext_box _ _⟩
    rw [HN.out, HGS.out]
    rfl

end Go.Proofs.YtlkpiigdmmhkpaaGreatDoor

/- strings.Builder: WriteString at a builder that was written to, with the blocks that it turns. -/
namespace Go.Proofs.YtlkpiigdmmhkpaaGreatDoor
open Go.RowKit Go.El

/-- A builder that was written to. -/
structure BuAt (base : Nat) (w : World) (b : Nat) (v : Value) (F : List UInt8) : Prop where
  blk : Blk w b 70 #[.pointer (some ⟨b, 0, none⟩), v]
  own : w.ownsRow base 5 1 v F.length (F.map u8V)
theorem own_heap {w : World} {base : Nat} {e : TypeId} {k : Nat} {v : Value} {n : Nat} {xs : List Value} {g : Nat} {t : TypeId} {cs : Array Value} {m : Nat × Nat} (h : w.ownsRow base e k v n xs) (hg : w.heap[g]? = some (.cells cs t m)) (ht : t ≠ e ∨ m ≠ (0, 0)) : g ∉ ownL v := by
  intro hm
  have hb := mem_ownL hm
  rcases h.2 with ⟨rfl, _⟩ | ⟨g', cap, cur, rfl, _, hc, _⟩
  · simp [Value.ownBlock] at hb
  · have e1 : g' = g := by simpa [Value.ownBlock] using hb
    subst e1
    rw [hg] at hc
    injection hc with hc
    injection hc with h1 h2 h3
    rcases ht with ht | ht
    · exact ht h2
    · exact ht h3
theorem BuAt.far {base : Nat} {w : World} {b : Nat} {v : Value} {F : List UInt8} (h : BuAt base w b v F) : ∀ x ∈ ownL v, base ≤ x := by
  intro x hx
  have hb := mem_ownL hx
  rcases h.own.2 with ⟨rfl, _⟩ | ⟨g', cap, cur, rfl, hg, _⟩
  · simp [Value.ownBlock] at hb
  · have e1 : g' = x := by simpa [Value.ownBlock] using hb
    omega
theorem BuAt.no {base : Nat} {w : World} {b : Nat} {v : Value} {F : List UInt8} (h : BuAt base w b v F) : b ∉ ownL v := own_heap h.own h.blk (.inl (by decide))

set_option maxRecDepth 100000 in
set_option maxHeartbeats 4000000 in
theorem writeString_any (base b : Nat) (v : Value) (F : List UInt8) (s : ByteArray) (w : World) (h : BuAt base w b v F) (hbw : base ≤ w.heap.size) (hl : F.length + s.size ≤ 1000000) :
    Calls Tryz.prog 41 #[.pointer (some ⟨b, 0, none⟩), .string s] w fun e w' => e = .returned (.tuple #[.int .i64 s.size, .nilIface]) ∧ ∃ v', BuAt base w' b v' (F ++ s.data.toList) ∧ Mods (b :: ownL v) w w' := by
  obtain ⟨i1, hi1, hz0, hz1, hz2⟩ := infoP u8Info
  obtain ⟨A, c, rfl⟩ := own_value h.own
  have d0 : w.cell? ⟨b, 0, none⟩ = some (.pointer (some ⟨b, 0, none⟩)) := h.blk.cell 0
  have d1 : w.cell? ⟨b, 1, none⟩ = some (.slice A F.length c) := h.blk.cell 1
  have hsl : s.size ≤ 9223372036854775807 := by omega
  have H := Lib.hid h
  have HN := Lib.hid h.no
  clear h
  go_enter Tryz.func41, Tryz.ntmps41
  go_wp2_with (first | (go_at_call 65; refine (Tryz.copyCheck_used b w (H.out.blk.cell 0)).mono ?_; rintro e w' ⟨rfl, rfl⟩) | (at_builtin; refine Lib.wpList_append_own_string (P := Tryz.prog) _ rfl _ _ 68 9 rfl base 5 i1 Tryz.underlying68 Tryz.underlying9 hi1 hz0 hz1 hz2 _ F.length (F.map u8V) rfl H.out.own s rfl (by unfold maxLen; omega) (by omega) hbw ?_; intro v3 w3 ho3 hm3 _; obtain ⟨A3, c3, rfl⟩ := own_value ho3; have hM := grown_mods hm3; have hbk := H.out.blk.mods hM HN.out; have k1 : w3.cell? ⟨b, 1, none⟩ = some (.slice A F.length c) := hbk.cell 1; have kf := hbk.frozen 1; have HO := Lib.hid ho3; have HM := Lib.hid hM; have HBK := Lib.hid hbk; clear ho3 hm3 hM hbk))
  go_ret2
  refine ⟨rfl, _, ⟨HBK.out.set_ 1 _, ?_⟩, ?_⟩
  · have hno := own_heap HO.out HBK.out (.inl (by decide))
    rw [List.length_append, List.map_append]
    have h1 := own_mods HO.out ((Mods.refl [b] w3).setCell (p := ⟨b, 1, none⟩) (.inl (by simp)) (.slice A3 (F.length + s.size) c3)) (fun x hx hm => by
      rw [List.mem_singleton] at hm
      exact hno (by simp [ownL, hx, hm]))
    have e : s.data.toList.length = s.size := by simp
    rw [e]
    exact h1
  · exact (HM.out.mono (fun x hx => List.mem_cons_of_mem _ hx)).setCell (.inl (by simp)) _

end Go.Proofs.YtlkpiigdmmhkpaaGreatDoor
