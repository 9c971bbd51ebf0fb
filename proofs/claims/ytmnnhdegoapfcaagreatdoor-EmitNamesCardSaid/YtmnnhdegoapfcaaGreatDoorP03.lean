/- Contracts of the library at this program, laid in plain words. -/
import Derived.Shelf.Strings.Builder1
import Derived.Shelf.Strings.Builder2
import Derived.Shelf.Strings.OnBuilder
import Derived.Shelf.Small.Strs
import Derived.Shelf.Strings.BuilderF
import Derived.Shelf.Strings.BuilderK
import Derived.Shelf.Strconv.Atoi
import Derived.Shelf.Strconv.Itoa0
import Derived.Shelf.Strconv.Itoa1
import Derived.Shelf.LaysM
import Derived.Shelf.Strconv.Itoa2
import Derived.Shelf.Strconv.Itoa3
import Derived.Shelf.Strconv.AtoiErrFast
import Derived.Shelf.Strconv.ParseIntEmpty
import Derived.Shelf.Strconv.AtoiFail
import Derived.Shelf.Strconv.Clone
import Derived.Shelf.Strconv.SyntaxError
import Derived.Shelf.LaysC
import Derived.Shelf.Strconv.ToError
import Derived.Shelf.Strconv.Lower
import Derived.Shelf.Strconv.ParseUint10
import Derived.Shelf.Strconv.ParseUint10Empty
import Derived.Shelf.Strconv.ParseUint10Any
import Derived.Shelf.Strconv.ParseInt10
import Derived.Shelf.Strconv.AtoiLong
import Derived.Shelf.Strconv.AtoiInnerAll
import Derived.Shelf.Strconv.RangeError
import Derived.Shelf.Strconv.ToErrorRange
import Derived.Shelf.Strconv.AtoiAll
import Derived.Shelf.Strconv.ErrVarAll
import Derived.Shelf.Strconv.ParseUintEmpty
import Derived.Shelf.Strconv.ParseUint10b64
import Derived.Shelf.Strconv.ParseUint10b32
import Derived.Shelf.Strconv.ParseUint10b16
import Derived.Shelf.Strconv.ParseUint10b8
import Derived.Shelf.Strconv.ParseUint10At
import Derived.Shelf.Strconv.ParseInt10At64
import Derived.Shelf.Strconv.ParseInt10At32
import Derived.Shelf.Strconv.ParseInt10At16
import Derived.Shelf.Strconv.ParseInt10At8
import Derived.Shelf.Strconv.ParseInt10All
import Derived.Shelf.Strconv.ParseIntPublic10
import Derived.Shelf.Strconv.ErrVarParseInt
import Derived.Shelf.Strings.Search1
import Derived.Shelf.Strings.Search2
import Derived.Shelf.Strings.Cut
import Derived.Shelf.Strings.Shaped
import Derived.Shelf.Strings.LastIndex
import Derived.Shelf.Strings.Prefix
import Derived.Shelf.Bytes.SlIndexSmall
import Derived.Shelf.Bytes.SlIndexAt
import Derived.Shelf.Bytes.SlSearch0
import Derived.Shelf.Bytes.SlSearch1
import Derived.Shelf.Bytes.SlSearch2
import Derived.Shelf.Bytes.SlIndexWhole
import Derived.Shelf.Bytes.SlSmallAll
import Derived.Shelf.Bytes.Small
import Derived.Shelf.Bytes.IndexByte
import Derived.Test.YtmnnhdegoapfcaaGreatDoorProg
import Derived.Test.YtmnnhdegoapfcaaGreatDoorRows
import Derived.Test.YtmnnhdegoapfcaaGreatDoorP02
import Derived.WalkKit
import Derived.WalkSpells
import Derived.WalkLawsBesides
import Derived.Deep.QuietTactic
import Derived.BigQuiet
import Derived.Lib.Hide
import Derived.Lib.Bytealg
import Derived.Lib.OthersKept
import Derived.Test.YtmnnhdegoapfcaaGreatDoorP01
import Derived.Laws.BytesArg
import Derived.Laws.IdiomStrings
import Derived.Lib.ConvBytes
import Derived.Deep.RegionHeld3
namespace Go.Proofs.YtmnnhdegoapfcaaGreatDoor
open Go.Shelf Go.Proofs
def Tryz.lays169_ren : Go.Shelf.Ren := ⟨fun | 169 => 29 | n => n, fun | 70 => 60 | 9 => 9 | 0 => 0 | 72 => 63 | 37 => 61 | 127 => 124 | 3 => 3 | 5 => 5 | n => n, fun | n => n⟩
theorem Tryz.lays169 : Go.Proofs.Lays.n169 Tryz.prog Tryz.lays169_ren := {
 mixed := by kernel_rfl
 f169 := Tryz.func29.trans (congrArg some (by kernel_rfl))
 t0 := Tryz.underlying0
 a0 := Tryz.isAgg0
 z0 := Tryz.sizeOf0
 v0 := Tryz.zeroValue0
 t3 := Tryz.underlying3
 a3 := Tryz.isAgg3
 z3 := Tryz.sizeOf3
 v3 := Tryz.zeroValue3
 t9 := Tryz.underlying9
 a9 := Tryz.isAgg9
 z9 := Tryz.sizeOf9
 v9 := Tryz.zeroValue9
 t37 := Tryz.underlying61
 a37 := Tryz.isAgg61
 z37 := Tryz.sizeOf61
 v37 := Tryz.zeroValue61
 t70 := Tryz.underlying60
 a70 := Tryz.isAgg60
 z70 := Tryz.sizeOf60
 v70 := Tryz.zeroValue60
 t72 := Tryz.underlying63
 a72 := Tryz.isAgg63
 z72 := Tryz.sizeOf63
 v72 := Tryz.zeroValue63
 t127 := Tryz.underlying124
 a127 := Tryz.isAgg124
 z127 := Tryz.sizeOf124
 v127 := Tryz.zeroValue124 }
theorem Tryz.Builder_Extra_169 : Builder.Extra Tryz.prog Tryz.lays169_ren := {
 sizeBuilder := by kernel_rfl
 liesBuilder := by kernel_rfl
 t5 := Tryz.underlying5
 a5 := Tryz.isAgg5
 z5 := Tryz.sizeOf5
 v5 := Tryz.zeroValue5
 infoByte := by kernel_rfl
 cellsByte := by kernel_rfl
 sizeByte := by kernel_rfl
 neB5 := by decide }
open Go.RowKit in
theorem Tryz.Builder_String_any (B b : Nat) (l : List UInt8) (w : World) (h : Lib.IsBuilder 63 5 B b (Lib.byteCells l) w) (hBw : B ≤ w.heap.size) :
  Calls Tryz.prog 29 #[.pointer (some ⟨b, 0, none⟩)] w fun e w' => e = .returned (.string ⟨l.toArray⟩) ∧ Below B w w' := Any.Builder_String_any Tryz.lays169 Tryz.Builder_Extra_169 B b l w h hBw
def Tryz.lays156_ren : Go.Shelf.Ren := ⟨fun | 156 => 71 | 165 => 115 | 166 => 27 | 169 => 29 | 240 => 67 | 241 => 150 | 276 => 110 | 277 => 183 | n => n, fun | 31 => 93 | 9 => 9 | 3 => 3 | 4 => 4 | 0 => 0 | 20 => 20 | 72 => 63 | 76 => 66 | 70 => 60 | 37 => 61 | 75 => 65 | 127 => 124 | 164 => 156 | 5 => 5 | 80 => 69 | n => n, fun | n => n⟩
theorem Tryz.lays156 : Go.Proofs.Lays.n156 Tryz.prog Tryz.lays156_ren := {
 mixed := by kernel_rfl
 f156 := Tryz.func71.trans (congrArg some (by kernel_rfl))
 f165 := Tryz.func115.trans (congrArg some (by kernel_rfl))
 f166 := Tryz.func27.trans (congrArg some (by kernel_rfl))
 f169 := Tryz.func29.trans (congrArg some (by kernel_rfl))
 f240 := Tryz.func67.trans (congrArg some (by kernel_rfl))
 f241 := Tryz.func150.trans (congrArg some (by kernel_rfl))
 f276 := Tryz.func110.trans (congrArg some (by kernel_rfl))
 f277 := Tryz.func183.trans (congrArg some (by kernel_rfl))
 t0 := Tryz.underlying0
 a0 := Tryz.isAgg0
 z0 := Tryz.sizeOf0
 v0 := Tryz.zeroValue0
 t3 := Tryz.underlying3
 a3 := Tryz.isAgg3
 z3 := Tryz.sizeOf3
 v3 := Tryz.zeroValue3
 t4 := Tryz.underlying4
 a4 := Tryz.isAgg4
 z4 := Tryz.sizeOf4
 v4 := Tryz.zeroValue4
 t9 := Tryz.underlying9
 a9 := Tryz.isAgg9
 z9 := Tryz.sizeOf9
 v9 := Tryz.zeroValue9
 t20 := Tryz.underlying20
 a20 := Tryz.isAgg20
 z20 := Tryz.sizeOf20
 v20 := Tryz.zeroValue20
 t31 := Tryz.underlying93
 a31 := Tryz.isAgg93
 z31 := Tryz.sizeOf93
 v31 := Tryz.zeroValue93
 t37 := Tryz.underlying61
 a37 := Tryz.isAgg61
 z37 := Tryz.sizeOf61
 v37 := Tryz.zeroValue61
 t70 := Tryz.underlying60
 a70 := Tryz.isAgg60
 z70 := Tryz.sizeOf60
 v70 := Tryz.zeroValue60
 t72 := Tryz.underlying63
 a72 := Tryz.isAgg63
 z72 := Tryz.sizeOf63
 v72 := Tryz.zeroValue63
 t75 := Tryz.underlying65
 a75 := Tryz.isAgg65
 z75 := Tryz.sizeOf65
 v75 := Tryz.zeroValue65
 t76 := Tryz.underlying66
 a76 := Tryz.isAgg66
 z76 := Tryz.sizeOf66
 v76 := Tryz.zeroValue66
 t127 := Tryz.underlying124
 a127 := Tryz.isAgg124
 z127 := Tryz.sizeOf124
 v127 := Tryz.zeroValue124
 t164 := Tryz.underlying156
 a164 := Tryz.isAgg156
 z164 := Tryz.sizeOf156
 v164 := Tryz.zeroValue156 }
theorem Tryz.Builder_Extra_156 : Builder.Extra Tryz.prog Tryz.lays156_ren := {
 sizeBuilder := by kernel_rfl
 liesBuilder := by kernel_rfl
 t5 := Tryz.underlying5
 a5 := Tryz.isAgg5
 z5 := Tryz.sizeOf5
 v5 := Tryz.zeroValue5
 infoByte := by kernel_rfl
 cellsByte := by kernel_rfl
 sizeByte := by kernel_rfl
 neB5 := by decide }
open Go.RowKit in
theorem Tryz.strings_Join (bk o c : Nat) (xs : List ByteArray) (sep : ByteArray) (w : World) (hcells : ∀ (j : Nat) x, xs[j]? = some x → w.cell? ⟨bk, o + j, none⟩ = some (.string x)) (hbk : bk < w.heap.size) (hN : xs.length ≤ 140737488355328) (hcap : xs.length ≤ c) (hlen : (Lib.join (xs.map (·.data.toList)) sep.data.toList).length ≤ 140737488355328) :
  Calls Tryz.prog 71 #[.slice (some ⟨bk, o, none⟩) xs.length c, .string sep] w fun e w' => e = .returned (.string ⟨(Lib.join (xs.map (·.data.toList)) sep.data.toList).toArray⟩) ∧ Below w.heap.size w w' := Any.strings_Join Tryz.lays156 Tryz.Builder_Extra_156 bk o c xs sep w hcells hbk hN hcap hlen
def Tryz.laysM171_ren : Go.Shelf.Ren := ⟨fun | 171 => 70 | 243 => 114 | 246 => 149 | 283 => 179 | 284 => 180 | 285 => 181 | 286 => 182 | 129 => 196 | 317 => 215 | 318 => 216 | 319 => 217 | 320 => 218 | 337 => 238 | 338 => 239 | n => n, fun | 3 => 3 | 9 => 9 | 2 => 2 | 4 => 4 | 171 => 218 | 0 => 0 | 53 => 162 | 37 => 61 | 5 => 5 | 173 => 221 | 212 => 249 | 51 => 236 | 20 => 20 | 213 => 250 | 46 => 205 | 232 => 274 | 233 => 275 | n => n, fun | 17 => 4 | 18 => 5 | 19 => 6 | n => n⟩
theorem Tryz.laysM171 : Go.Proofs.LaysM.n171 Tryz.prog Tryz.laysM171_ren := {
 mixed := by kernel_rfl
 f129 := Tryz.func196.trans (congrArg some (by kernel_rfl))
 f171 := Tryz.func70.trans (congrArg some (by kernel_rfl))
 f243 := Tryz.func114.trans (congrArg some (by kernel_rfl))
 f246 := Tryz.func149.trans (congrArg some (by kernel_rfl))
 f283 := Tryz.func179.trans (congrArg some (by kernel_rfl))
 f284 := Tryz.func180.trans (congrArg some (by kernel_rfl))
 f285 := Tryz.func181.trans (congrArg some (by kernel_rfl))
 f286 := Tryz.func182.trans (congrArg some (by kernel_rfl))
 f317 := Tryz.func215.trans (congrArg some (by kernel_rfl))
 f318 := Tryz.func216.trans (congrArg some (by kernel_rfl))
 f319 := Tryz.func217.trans (congrArg some (by kernel_rfl))
 f320 := Tryz.func218.trans (congrArg some (by kernel_rfl))
 f337 := Tryz.func238.trans (congrArg some (by kernel_rfl))
 f338 := Tryz.func239.trans (congrArg some (by kernel_rfl))
 t0 := Tryz.underlying0
 a0 := Tryz.isAgg0
 z0 := Tryz.sizeOf0
 v0 := Tryz.zeroValue0
 t2 := Tryz.underlying2
 a2 := Tryz.isAgg2
 z2 := Tryz.sizeOf2
 v2 := Tryz.zeroValue2
 t3 := Tryz.underlying3
 a3 := Tryz.isAgg3
 z3 := Tryz.sizeOf3
 v3 := Tryz.zeroValue3
 t4 := Tryz.underlying4
 a4 := Tryz.isAgg4
 z4 := Tryz.sizeOf4
 v4 := Tryz.zeroValue4
 t5 := Tryz.underlying5
 a5 := Tryz.isAgg5
 z5 := Tryz.sizeOf5
 v5 := Tryz.zeroValue5
 t9 := Tryz.underlying9
 a9 := Tryz.isAgg9
 z9 := Tryz.sizeOf9
 v9 := Tryz.zeroValue9
 t20 := Tryz.underlying20
 a20 := Tryz.isAgg20
 z20 := Tryz.sizeOf20
 v20 := Tryz.zeroValue20
 t37 := Tryz.underlying61
 a37 := Tryz.isAgg61
 z37 := Tryz.sizeOf61
 v37 := Tryz.zeroValue61
 t46 := Tryz.underlying205
 a46 := Tryz.isAgg205
 z46 := Tryz.sizeOf205
 v46 := Tryz.zeroValue205
 t51 := Tryz.underlying236
 a51 := Tryz.isAgg236
 z51 := Tryz.sizeOf236
 v51 := Tryz.zeroValue236
 t53 := Tryz.underlying162
 a53 := Tryz.isAgg162
 z53 := Tryz.sizeOf162
 v53 := Tryz.zeroValue162
 t171 := Tryz.underlying218
 a171 := Tryz.isAgg218
 z171 := Tryz.sizeOf218
 v171 := Tryz.zeroValue218
 t173 := Tryz.underlying221
 a173 := Tryz.isAgg221
 z173 := Tryz.sizeOf221
 v173 := Tryz.zeroValue221
 t212 := Tryz.underlying249
 a212 := Tryz.isAgg249
 z212 := Tryz.sizeOf249
 v212 := Tryz.zeroValue249
 t213 := Tryz.underlying250
 a213 := Tryz.isAgg250
 z213 := Tryz.sizeOf250
 t232 := Tryz.underlying274
 a232 := Tryz.isAgg274
 z232 := Tryz.sizeOf274
 v232 := Tryz.zeroValue274
 t233 := Tryz.underlying275
 a233 := Tryz.isAgg275
 z233 := Tryz.sizeOf275
 v233 := Tryz.zeroValue275
 g17 := by kernel_rfl
 g18 := by kernel_rfl
 g19 := by kernel_rfl
 i0 := by kernel_rfl
 i2 := by kernel_rfl
 i3 := by kernel_rfl
 i4 := by kernel_rfl
 i5 := by kernel_rfl
 i9 := by kernel_rfl
 i20 := by kernel_rfl
 i37 := by kernel_rfl
 i46 := by kernel_rfl
 i51 := by kernel_rfl
 i53 := by kernel_rfl
 i171 := by kernel_rfl
 i173 := by kernel_rfl
 i212 := by kernel_rfl
 i232 := by kernel_rfl
 i233 := by kernel_rfl
 m17 := by kernel_rfl
 m18 := by kernel_rfl
 m19 := by kernel_rfl }
open Go.RowKit Go.Sort Go.Lib in
theorem Tryz.strconv_Itoa (n : Int) (h0 : -9223372036854775808 ≤ n) (h1 : n ≤ 9223372036854775807) (w : World) (htab : Lib.TabIs Tryz.prog w "internal/strconv.uint64pow10" .u64 Lib.pow10Tab) :
  Calls Tryz.prog 70 #[.int .i64 n] w fun e w' => e = .returned (.string ⟨(Lib.itoa n).toArray⟩) ∧ ∃ k os, w' = grow (w.drewN k) os := Any.strconv_Itoa Tryz.laysM171 n h0 h1 w htab
end Go.Proofs.YtmnnhdegoapfcaaGreatDoor

/- Layer 8 (token), the walks of Plain and what it calls. -/
namespace Go.Proofs.YtmnnhdegoapfcaaGreatDoor
open Go.RowKit Go.El
set_option maxRecDepth 100000 in
set_option maxHeartbeats 400000 in
theorem indexByteLite_any (s : ByteArray) (c : Int) (w : World) :
  Calls Tryz.prog 165 #[.string s, .int .u8 c] w fun e w' => e = .returned (.int .i64 (Lib.indexByte s.data.toList c.toNat.toUInt8)) ∧ w = w' := by
 go_enter Tryz.func165, Tryz.ntmps165
 go_wp2
 rw [run_callFunc_extern Tryz.func200 (by kernel_rfl) (by kernel_rfl) (by kernel_rfl) (e := Extern.BytealgIndexByte.indexByte) (by kernel_rfl), Lib.run_indexByteString]
 simp only [Result.andThen]
 rw [Oper.upon_value]
 go_wp2
 go_ret
 exact ⟨rfl, rfl⟩
set_option maxHeartbeats 400000 in
theorem in_any (c : Int) (s : ByteArray) (w : World) :
  Calls Tryz.prog 146 #[.int .u8 c, .string s] w fun e w' => e = .returned (.bool (hasB s (UInt8.ofNat c.toNat))) ∧ w = w' := by
 have h1 := Lib.indexByte_ge s.data.toList c.toNat.toUInt8
 have h2 : Lib.indexByte s.data.toList c.toNat.toUInt8 ≤ s.data.toList.length := by
  generalize s.data.toList = l
  induction l with
  | nil => simp [Lib.indexByte]
  | cons b l ih =>
   simp only [Lib.indexByte, List.length_cons]
   split
   ·omega
   ·split <;> omega
 have h3 := Lib.contains_iff_indexByte s.data.toList c.toNat.toUInt8
 simp only [Nat.toUInt8_eq] at h1 h2 h3
 have H3 := Lib.hid h3
 clear h3
 go_enter Tryz.func146, Tryz.ntmps146
 go_wp2_with (first
  | (go_at_call 165; refine (indexByteLite_any _ _ _).mono ?_; rintro e w' ⟨rfl, rfl⟩)
  | go_in)
 go_ret
 exact ⟨by unfold hasB; rw [H3.out]; rfl, rfl⟩
def AllTo (nm cs : ByteArray) (pos : Nat) : Prop := ∀ b ∈ nm.data.toList.take pos, hasB cs b = true
theorem AllTo.step {nm cs : ByteArray} {pos : Nat} (h : AllTo nm cs pos) (hp : pos < nm.size) (hb : hasB cs (nm[pos]'hp) = true) : AllTo nm cs (pos + 1) := by
 intro b hm
 have hl : pos < nm.data.toList.length := by simpa using hp
 rw [List.take_succ_eq_append_getElem hl, List.mem_append] at hm
 rcases hm with hm | hm
 ·exact h b hm
 ·rw [List.mem_singleton] at hm
  subst hm
  exact hb
theorem AllTo.no {nm cs : ByteArray} {pos : Nat} (hp : pos < nm.size) (hb : hasB cs (nm[pos]'hp) = false) : (allB nm cs) = false := by
 have hl : pos < nm.data.toList.length := by simpa using hp
 unfold allB
 rw [List.all_eq_false]
 have e : nm.data.toList[pos] = nm[pos]'hp := rfl
 exact ⟨nm.data.toList[pos], List.getElem_mem hl, by rw [e, hb]; simp⟩
theorem AllTo.yes {nm cs : ByteArray} {pos : Nat} (h : AllTo nm cs pos) (hp : ¬ pos < nm.size) : (allB nm cs) = true := by
 unfold allB
 rw [List.all_eq_true]
 intro b hb
 refine h b ?_
 rw [List.take_of_length_le (by simpa using Nat.le_of_not_lt hp)]
 exact hb
theorem below_iter (w : World) (s : ByteArray) (pos : Nat) : Below w.heap.size w (w.iter s pos) := (Below.refl _ _).alloc (Nat.le_refl _) _
set_option maxHeartbeats 400000 in
theorem all_any (nm cs : ByteArray) (w : World) (hcs : ∀ c, hasB cs c = true → c.toNat < 128) :
  Calls Tryz.prog 147 #[.string nm, .string cs] w fun e w' => e = .returned (.bool (allB nm cs)) ∧ Below w.heap.size w w' := by
 go_enter Tryz.func147, Tryz.ntmps147
 go_wp2_with fail
 go_loopw [6] (fun _ wr => ∃ pos : Nat, wr = w.iter nm pos ∧ AllTo nm cs pos) (fun _ wr => nm.size - wr.iterPos w.heap.size)
 case atStart => exact ⟨0, rfl, by intro b hb; simp at hb⟩
 case round =>
  obtain ⟨pos, rfl, hall⟩ := hrel
  by_cases hlt : pos < nm.size
  ·by_cases hhi : (nm[pos]'hlt).toNat < 128
   ·have hn := fun ty => run_next_ascii (P := Tryz.prog) w nm pos ty hlt hhi
    by_cases hb : hasB cs (nm[pos]'hlt) = true
    ·go_wp2_with (go_at_call 146; refine (in_any _ _ _).mono ?_; rintro e w' ⟨rfl, rfl⟩)
     go_roundw
     case rel => exact ⟨pos + 1, rfl, hall.step hlt hb⟩
     case measure => simp; omega
    ·have hb' : hasB cs (nm[pos]'hlt) = false := by simpa using hb
     have HF := Lib.hid (AllTo.no hlt hb')
     go_wp2_with (go_at_call 146; refine (in_any _ _ _).mono ?_; rintro e w' ⟨rfl, rfl⟩)
     go_ret
     exact ⟨by rw [HF.out]; rfl, below_iter _ _ _⟩
   ·have hn := fun ty => run_next_any (P := Tryz.prog) w nm pos ty hlt
    have hd := (decode_high nm pos hlt (by omega)).1
    have hb' : hasB cs (nm[pos]'hlt) = false := by
     cases h : hasB cs (nm[pos]'hlt) with
     | false => rfl
     | true => exact absurd (hcs _ h) hhi
    have HF := Lib.hid (AllTo.no hlt hb')
    clear hb' hcs
    go_wp2_with (go_at_call 146; refine (in_any _ _ _).mono ?_; rintro e w' ⟨rfl, rfl⟩)
    go_ret
    exact ⟨by rw [HF.out]; rfl, below_iter _ _ _⟩
  ·have hn := fun ty => run_next_end (P := Tryz.prog) w nm pos ty hlt
   have HF := Lib.hid (hall.yes hlt)
   go_wp2_with fail
   go_ret
   exact ⟨by rw [HF.out]; rfl, below_iter _ _ _⟩
set_option maxHeartbeats 400000 in
theorem hasPrefixLite_any (s p : ByteArray) (w : World) :
  Calls Tryz.prog 142 #[.string s, .string p] w fun e w' => e = .returned (.bool (prefB s p)) ∧ w = w' := by
 unfold prefB
 rw [← Lib.hasPrefix_of_take, ← Lib.size_eq, ← Lib.size_eq]
 go_enter Tryz.func142, Tryz.ntmps142
 go_wp2
 ·rename_i h
  go_ret
  refine ⟨?_, rfl⟩
  show Ending.returned (Value.bool ((s.extract 0 p.size).toList == p.toList)) = _
  rw [Lib.extract_toList, Lib.toList_data]
  simp [h]
 ·rename_i h
  go_ret
  refine ⟨?_, rfl⟩
  show Ending.returned (Value.bool false) = _
  simp [h]
set_option maxHeartbeats 400000 in
theorem hasPrefix_any (s p : ByteArray) (w : World) :
  Calls Tryz.prog 143 #[.string s, .string p] w fun e w' => e = .returned (.bool (prefB s p)) ∧ w = w' := by
 go_enter Tryz.func143, Tryz.ntmps143
 go_wp2_with (go_at_call 142; refine (hasPrefixLite_any _ _ _).mono ?_; rintro e w' ⟨rfl, rfl⟩)
 go_ret
 exact ⟨rfl, rfl⟩
theorem ext_trans {a b c : World} (h : Below a.heap.size a b) (k : Below b.heap.size b c) : Below a.heap.size a c := h.trans (k.mono h.size)
theorem below_refl (w : World) : Below w.heap.size w w := Below.refl _ _
set_option maxHeartbeats 400000 in
theorem plain_any (s : ByteArray) (w : World) :
  Calls Tryz.prog 111 #[.string s] w fun e w' => e = .returned (.bool (plainB s)) ∧ Below w.heap.size w w' := by
 by_cases h1 : s.data.toList = [33]
 ·obtain rfl := mk_of h1
  go_enter Tryz.func111, Tryz.ntmps111
  go_wp2
  go_ret
  exact ⟨rfl, below_refl _⟩
 by_cases h2 : s.data.toList = [59]
 ·obtain rfl := mk_of h2
  go_enter Tryz.func111, Tryz.ntmps111
  go_wp2
  go_ret
  exact ⟨rfl, below_refl _⟩
 by_cases h3 : s.data.toList = [91, 93]
 ·obtain rfl := mk_of h3
  go_enter Tryz.func111, Tryz.ntmps111
  go_wp2
  go_ret
  exact ⟨rfl, below_refl _⟩
 by_cases h4 : s.data.toList = [123, 125]
 ·obtain rfl := mk_of h4
  go_enter Tryz.func111, Tryz.ntmps111
  go_wp2
  go_ret
  exact ⟨rfl, below_refl _⟩
 by_cases h5 : s.data.toList = []
 ·obtain rfl := mk_of h5
  go_enter Tryz.func111, Tryz.ntmps111
  go_wp2
  go_ret
  exact ⟨rfl, below_refl _⟩
 by_cases h6 : s.data.toList = [46]
 ·obtain rfl := mk_of h6
  go_enter Tryz.func111, Tryz.ntmps111
  go_wp2
  go_ret
  exact ⟨rfl, below_refl _⟩
 obtain ⟨h0, hp⟩ := plain_else h1 h2 h3 h4 h5 h6
 have e1 := lit_ne h1
 have e2 := lit_ne h2
 have e3 := lit_ne h3
 have e4 := lit_ne h4
 have e5 : s.toList.isEmpty = false := by rw [ByteArray.toList_eq]; simpa using h5
 have e6 := lit_ne h6
 have e8 : UInt8.ofNat (s[0]).toNat = s[0] := by simp
 clear h1 h2 h3 h4 h5 h6
 cases hpre : prefB s ⟨#[47, 42]⟩
 ·rw [hpre] at hp
  cases hsm : hasB smallS s[0] <;> cases hw : allB s wordS <;> cases hg : allB s signS
  all_goals
   rw [hsm, hw, hg] at hp
   have HP := Lib.hid hp
   clear hp
   go_enter Tryz.func111, Tryz.ntmps111
   go_wp2_with (first
    | (go_at_call 146; refine (in_any _ _ _).mono ?_; rintro e w' ⟨rfl, rfl⟩)
    | (go_at_call 143; refine (hasPrefix_any _ _ _).mono ?_; rintro e w' ⟨rfl, rfl⟩)
    | (go_at_call 147; refine (all_any _ _ _ ?_).mono ?_; (first | exact wordS_lt | exact signS_lt); rintro e w' ⟨rfl, hb⟩))
   go_ret
   exact ⟨by rw [HP.out]; rfl, by first | assumption | exact ext_trans ‹Below w.heap.size w _› ‹_›⟩
 ·rw [hpre] at hp
  have HP := Lib.hid hp
  clear hp
  go_enter Tryz.func111, Tryz.ntmps111
  go_wp2_with (go_at_call 143; refine (hasPrefix_any _ _ _).mono ?_; rintro e w' ⟨rfl, rfl⟩)
  go_ret
  exact ⟨by rw [HP.out]; rfl, below_refl _⟩
end Go.Proofs.YtmnnhdegoapfcaaGreatDoor

/- Layer 8, the reference: the walks of blank, skip, row, hex. -/
namespace Go.Proofs.YtmnnhdegoapfcaaGreatDoor
open Go.RowKit Go.El
def u8V (c : UInt8) : Value := .int .u8 (c.toNat : Int)
def BytesAt (w : World) (A : Option Addr) (B : List UInt8) : Prop := El.Src w A B.length 1 (B.map u8V)
theorem BytesAt.ext {w w' : World} {A : Option Addr} {B : List UInt8} (h : BytesAt w A B) (x : Ext w w') : BytesAt w' A B := El.Src.ext h x
theorem bytes_at {w : World} {A : Option Addr} {B : List UInt8} (h : BytesAt w A B) {k : Nat} (hk : k < B.length) : ∃ b off, A = some ⟨b, off, none⟩ ∧ ∀ j c, B[j]? = some c → w.cell? ⟨b, off + j, none⟩ = some (.int .u8 (c.toNat : Int)) := by
 obtain ⟨b, off, rfl, hc⟩ := El.Src.form h (by omega) (by omega)
 exact ⟨b, off, rfl, fun j c hj => hc j _ (by simp [hj, u8V])⟩
theorem u8_eq {c : UInt8} {n : Nat} (hn : n < 256) : ((c.toNat : Int) == (n : Int)) = decide (c = UInt8.ofNat n) := by
 rw [Bool.eq_iff_iff, decide_eq_true_iff, beq_iff_eq]
 constructor
 ·intro h
  have : c.toNat = n := by omega
  rw [← this]; simp
 ·rintro rfl
  simp
  omega
end Go.Proofs.YtmnnhdegoapfcaaGreatDoor

/- Layer 8, the reference: the walks of hex, row, number. -/
namespace Go.Proofs.YtmnnhdegoapfcaaGreatDoor
open Go.RowKit Go.El
theorem ret_int {k : IntKind} {a b : Int} (h : a = b) : Ending.returned (.int k a) = .returned (.int k b) := by rw [h]
end Go.Proofs.YtmnnhdegoapfcaaGreatDoor

/- Bytes: strings out of bytes, bytes that a call gathers. -/
namespace Go.Proofs.YtmnnhdegoapfcaaGreatDoor
open Go.RowKit Go.El
def strB (l : List UInt8) : ByteArray := ⟨l.toArray⟩
theorem strB_size (l : List UInt8) : (strB l).size = l.length := by simp [strB, ByteArray.size]
theorem strB_toList (l : List UInt8) : (strB l).data.toList = l := by simp [strB]
theorem strB_mk (s : ByteArray) : strB s.data.toList = s := by simp [strB]
theorem conv_str {w : World} {A : Option Addr} {l : List UInt8} (c : Nat) (h : BytesAt w A l) : (convert 61 9 (.slice A l.length c)).run Tryz.prog w = .ok (.string (strB l)) w := by
 rcases A with _ | a
 ·have hl : l = [] := by
   rcases l with _ | ⟨x, l⟩
   ·rfl
   ·obtain ⟨b, off, ha, _⟩ := bytes_at (k := 0) h (by simp)
    cases ha
  subst hl
  exact run_convert_bytes_nil w 61 5 Tryz.underlying61 Tryz.underlying5 _ _ 9 Tryz.underlying9
 ·refine run_convert_bytes_back w 61 9 5 a c l Tryz.underlying61 Tryz.underlying5 Tryz.underlying9 fun j hj => ?_
  obtain ⟨b, off, ha, hc⟩ := bytes_at (k := j) h hj
  injection ha with ha
  subst ha
  have e : (⟨b, off, none⟩ : Addr).add j = ⟨b, off + j, none⟩ := by simp [Addr.add]
  rw [e]
  exact hc j _ (List.getElem?_eq_getElem hj)
theorem ext_mods {X V w' : World} {S : List Nat} (h : Ext X V) (hm : Mods S V w') (hS : ∀ k, k ∈ S → X.heap.size ≤ k) : Ext X w' := (Mods.step (S := []) (Mods.ext h) hm (fun x hx => .inr (hS x hx))).toExt (by simp)
theorem mem_ownL {v : Value} {k : Nat} (h : k ∈ ownL v) : v.ownBlock = some k := by simpa [ownL] using h
theorem u8Info : (Tryz.prog.info? 5).map (fun i => (i.zero, i.size, i.bytes)) = some (some (.int .u8 0), 1, 1) := by kernel_rfl
theorem infoP {P : Program} {t : TypeId} {z : Option Value} {n b : Nat} (h : (P.info? t).map (fun i => (i.zero, i.size, i.bytes)) = some (z, n, b)) : ∃ i, P.info? t = some i ∧ i.zero = z ∧ i.size = n ∧ i.bytes = b := by
 cases hi : P.info? t with
 | none => rw [hi] at h; cases h
 | some i =>
  rw [hi] at h
  injection h with h
  injection h with h1 h2
  injection h2 with h2 h3
  exact ⟨i, rfl, h1, h2, h3⟩
end Go.Proofs.YtmnnhdegoapfcaaGreatDoor

/- Layer 8, the program: the walks of starts, row. -/
namespace Go.Proofs.YtmnnhdegoapfcaaGreatDoor
open Go.RowKit Go.El
theorem ext_bytes (w : World) (e : TypeId) (s : ByteArray) : Ext w (Lib.bytesWorld w e s) := by
 refine ⟨rfl, rfl, rfl, by rw [Lib.bytesWorld_size]; omega, fun k hk => Lib.bytesWorld_at_old w e s k hk⟩
end Go.Proofs.YtmnnhdegoapfcaaGreatDoor

/- Layer 8, the reference: the walk of escape. -/
namespace Go.Proofs.YtmnnhdegoapfcaaGreatDoor
open Go.RowKit Go.El
theorem u8_ne {c : UInt8} {n : Nat} (hn : n < 256) (h : c ≠ UInt8.ofNat n) : ((c.toNat : Int) == (n : Int)) = false := by
 rw [u8_eq hn]
 simpa using h
end Go.Proofs.YtmnnhdegoapfcaaGreatDoor

/- Layer 8, the reference: the walks of escape (whole), quoted. -/
namespace Go.Proofs.YtmnnhdegoapfcaaGreatDoor
open Go.RowKit Go.El
theorem u8_ne' {c : UInt8} {n : Nat} {z : Int} (hz : (n : Int) = z) (hn : n < 256) (h : c ≠ UInt8.ofNat n) : ((c.toNat : Int) == z) = false := by rw [← hz]; exact u8_ne hn h
end Go.Proofs.YtmnnhdegoapfcaaGreatDoor

/- Layer 8, the library: FormatUint at base 16, of a byte. -/
namespace Go.Proofs.YtmnnhdegoapfcaaGreatDoor
open Go.RowKit Go.El
def TzAt (w : World) : Prop := w.cell? ⟨6, 15, none⟩ = some (.int .u8 4)
set_option maxRecDepth 100000 in
theorem pow_16 (w : World) : Calls Tryz.prog 217 #[.int .i64 16] w fun e w' => e = .returned (.bool true) ∧ w' = w := by
 go_enter Tryz.func217, Tryz.ntmps217
 go_wp2_with fail
 go_ret
 exact ⟨rfl, rfl⟩
set_option maxRecDepth 100000 in
theorem tz64_16 (w : World) (h : TzAt w) : Calls Tryz.prog 239 #[.int .u64 16] w fun e w' => e = .returned (.int .i64 4) ∧ w' = w := by
 unfold TzAt at h
 have e1 : bits BinOp.and IntKind.u64 16 (IntKind.u64.wrap (-16)) = 16 := by decide +kernel
 have e2 : IntKind.u64.wrap (16 * 285870213051353865) = 4573923408821661840 := by decide +kernel
 have e3 : (4573923408821661840 / 288230376151711744 : Int) = 15 := by decide +kernel
 have e4 : (15 : Int).toNat = 15 := rfl
 go_enter Tryz.func239, Tryz.ntmps239
 go_wp2_with fail
 go_ret
 exact ⟨rfl, rfl⟩
set_option maxRecDepth 100000 in
theorem tz_16 (w : World) (h : TzAt w) : Calls Tryz.prog 218 #[.int .u64 16] w fun e w' => e = .returned (.int .i64 4) ∧ w' = w := by
 go_enter Tryz.func218, Tryz.ntmps218
 go_wp2_with (go_at_call 239; refine (tz64_16 _ h).mono ?_; rintro e w' ⟨rfl, rfl⟩)
 go_ret
 exact ⟨rfl, rfl⟩
theorem zero91 : Tryz.zeroCells250 = Array.replicate 65 (.int .u8 0) := by kernel_rfl
theorem zero91_at (i : Nat) (h : i < 65) : Tryz.zeroCells250[i]? = some (.int .u8 0) := by
 rw [zero91, Array.getElem?_replicate, if_pos h]
theorem and_15 (n : Nat) (h : n < 256) : bits BinOp.and IntKind.u64 (n : Int) 15 = ((n % 16 : Nat) : Int) := by
 have key : ∀ n : Fin 256, bits BinOp.and IntKind.u64 ((n.val : Nat) : Int) 15 = ((n.val % 16 : Nat) : Int) := by decide +kernel
 exact key ⟨n, h⟩
theorem dig_lit (m : Nat) (hm : m < 16) (h : m < (⟨#[48, 49, 50, 51, 52, 53, 54, 55, 56, 57, 97, 98, 99, 100, 101, 102, 103, 104, 105, 106, 107, 108, 109, 110, 111, 112, 113, 114, 115, 116, 117, 118, 119, 120, 121, 122]⟩ : ByteArray).size) : ((⟨#[48, 49, 50, 51, 52, 53, 54, 55, 56, 57, 97, 98, 99, 100, 101, 102, 103, 104, 105, 106, 107, 108, 109, 110, 111, 112, 113, 114, 115, 116, 117, 118, 119, 120, 121, 122]⟩ : ByteArray)[m]'h).toNat = (hexD m).toNat := by
 have key : ∀ i : Fin 16, ((#[48, 49, 50, 51, 52, 53, 54, 55, 56, 57, 97, 98, 99, 100, 101, 102, 103, 104, 105, 106, 107, 108, 109, 110, 111, 112, 113, 114, 115, 116, 117, 118, 119, 120, 121, 122] : Array UInt8)[i.val]'(Nat.lt_trans i.isLt (by decide))).toNat = (hexD i.val).toNat := by decide +kernel
 exact key ⟨m, hm⟩
theorem conv1 {wr : World} {g : Nat} {cs : Array Value} (hB : Blk wr g 250 cs) (hz : 64 < cs.size) (m : Nat) (hm : m < 16) (h : m < (⟨#[48, 49, 50, 51, 52, 53, 54, 55, 56, 57, 97, 98, 99, 100, 101, 102, 103, 104, 105, 106, 107, 108, 109, 110, 111, 112, 113, 114, 115, 116, 117, 118, 119, 120, 121, 122]⟩ : ByteArray).size) : (convert 61 9 (.slice (some ⟨g, 64, none⟩) 1 1)).run Tryz.prog (wr.setCell ⟨g, 64, none⟩ (.int .u8 (((⟨#[48, 49, 50, 51, 52, 53, 54, 55, 56, 57, 97, 98, 99, 100, 101, 102, 103, 104, 105, 106, 107, 108, 109, 110, 111, 112, 113, 114, 115, 116, 117, 118, 119, 120, 121, 122]⟩ : ByteArray)[m]'h).toNat : Int))) = .ok (.string (strB [hexD m])) (wr.setCell ⟨g, 64, none⟩ (.int .u8 (((⟨#[48, 49, 50, 51, 52, 53, 54, 55, 56, 57, 97, 98, 99, 100, 101, 102, 103, 104, 105, 106, 107, 108, 109, 110, 111, 112, 113, 114, 115, 116, 117, 118, 119, 120, 121, 122]⟩ : ByteArray)[m]'h).toNat : Int))) := by
 refine run_convert_bytes_back _ 61 9 5 ⟨g, 64, none⟩ 1 [hexD m] Tryz.underlying61 Tryz.underlying5 Tryz.underlying9 fun j hj => ?_
 have hj0 : j = 0 := by simp at hj; omega
 subst hj0
 have := (hB.set_ 64 (.int .u8 (((⟨#[48, 49, 50, 51, 52, 53, 54, 55, 56, 57, 97, 98, 99, 100, 101, 102, 103, 104, 105, 106, 107, 108, 109, 110, 111, 112, 113, 114, 115, 116, 117, 118, 119, 120, 121, 122]⟩ : ByteArray)[m]'h).toNat : Int))).cell 64
 rw [Array.getElem?_setIfInBounds, if_pos rfl, if_pos hz, dig_lit m hm h] at this
 rw [dig_lit m hm h]
 simpa [Addr.add] using this
theorem conv2 {wr : World} {g : Nat} {cs : Array Value} {d : Nat} (hB : Blk wr g 250 cs) (hz : 64 < cs.size) (hd : cs[64]? = some (.int .u8 ((hexD d).toNat : Int))) (m : Nat) (hm : m < 16) (h : m < (⟨#[48, 49, 50, 51, 52, 53, 54, 55, 56, 57, 97, 98, 99, 100, 101, 102, 103, 104, 105, 106, 107, 108, 109, 110, 111, 112, 113, 114, 115, 116, 117, 118, 119, 120, 121, 122]⟩ : ByteArray).size) : (convert 61 9 (.slice (some ⟨g, 63, none⟩) 2 2)).run Tryz.prog (wr.setCell ⟨g, 63, none⟩ (.int .u8 (((⟨#[48, 49, 50, 51, 52, 53, 54, 55, 56, 57, 97, 98, 99, 100, 101, 102, 103, 104, 105, 106, 107, 108, 109, 110, 111, 112, 113, 114, 115, 116, 117, 118, 119, 120, 121, 122]⟩ : ByteArray)[m]'h).toNat : Int))) = .ok (.string (strB [hexD m, hexD d])) (wr.setCell ⟨g, 63, none⟩ (.int .u8 (((⟨#[48, 49, 50, 51, 52, 53, 54, 55, 56, 57, 97, 98, 99, 100, 101, 102, 103, 104, 105, 106, 107, 108, 109, 110, 111, 112, 113, 114, 115, 116, 117, 118, 119, 120, 121, 122]⟩ : ByteArray)[m]'h).toNat : Int))) := by
 refine run_convert_bytes_back _ 61 9 5 ⟨g, 63, none⟩ 2 [hexD m, hexD d] Tryz.underlying61 Tryz.underlying5 Tryz.underlying9 fun j hj => ?_
 have hj0 : j = 0 ∨ j = 1 := by simp at hj; omega
 have h3 := (hB.set_ 63 (.int .u8 (((⟨#[48, 49, 50, 51, 52, 53, 54, 55, 56, 57, 97, 98, 99, 100, 101, 102, 103, 104, 105, 106, 107, 108, 109, 110, 111, 112, 113, 114, 115, 116, 117, 118, 119, 120, 121, 122]⟩ : ByteArray)[m]'h).toNat : Int))).cell 63
 have h4 := (hB.set_ 63 (.int .u8 (((⟨#[48, 49, 50, 51, 52, 53, 54, 55, 56, 57, 97, 98, 99, 100, 101, 102, 103, 104, 105, 106, 107, 108, 109, 110, 111, 112, 113, 114, 115, 116, 117, 118, 119, 120, 121, 122]⟩ : ByteArray)[m]'h).toNat : Int))).cell 64
 rw [Array.getElem?_setIfInBounds, if_pos rfl, if_pos (by omega), dig_lit m hm h] at h3
 rw [Array.getElem?_setIfInBounds, if_neg (by omega), hd, dig_lit m hm h] at h4
 rw [dig_lit m hm h]
 rcases hj0 with rfl | rfl
 ·simpa [Addr.add] using h3
 ·simpa [Addr.add] using h4
set_option maxRecDepth 100000 in
set_option maxHeartbeats 4000000 in
theorem bits_any (n : Nat) (hn : n < 256) (w : World) (h : TzAt w) : Calls Tryz.prog 182 #[.slice none 0 0, .int .u64 (n : Int), .int .i64 16, .bool false, .bool false] w fun e w' => e = .returned (.tuple #[.slice none 0 0, .string (strB (if n < 16 then [hexD n] else [hexD (n / 16), hexD (n % 16)]))]) ∧ Ext w w' := by
 have H := Lib.hid h
 clear h
 go_enter Tryz.func182, Tryz.ntmps182
 go_upto_region 4 with fail
 refine wp_abs (fun V => Hid (Blk V w.heap.size 250 Tryz.zeroCells250) ∧ Hid (Ext w V)) ⟨Blk.new w _ _, (Ext.refl w).alloc _⟩ ?_
 rintro V ⟨HB, HX⟩
 go_wp2_with (first | (go_at_call 217; refine (pow_16 _).mono ?_; rintro e w' ⟨rfl, rfl⟩) | (go_at_call 218; refine (tz_16 _ (HX.out.cell H.out)).mono ?_; rintro e w' ⟨rfl, rfl⟩))
 go_loopw [1, 13] (fun u i wr => ∃ m j : Nat, m < 256 ∧ u = .int .u64 m ∧ i = .int .i64 j ∧ ((m = n ∧ j = 65 ∧ Hid (Blk wr w.heap.size 250 Tryz.zeroCells250)) ∨ (16 ≤ n ∧ m = n / 16 ∧ j = 64 ∧ Hid (Blk wr w.heap.size 250 (Tryz.zeroCells250.setIfInBounds 64 (.int .u8 ((hexD (n % 16)).toNat : Int)))))) ∧ Hid (Ext w wr)) (fun _ i _ => (intOf i).toNat)
 case atStart => exact ⟨n, 65, hn, rfl, rfl, .inl ⟨rfl, rfl, HB.out⟩, HX.out⟩
 case round =>
  obtain ⟨m, j, hm, rfl, rfl, hor, HY⟩ := hrel
  rcases hor with ⟨rfl, rfl, HC⟩ | ⟨h16, rfl, rfl, HC⟩
  ·by_cases hlt : m < 16
   ·have hf := HC.out.frozen 64
    have hc := (HC.out.cell 64).trans (zero91_at 64 (by omega))
    have hcv := conv1 HC.out (by rw [zero91]; simp) m hlt
    go_wp2_with fail
    go_ret2
    refine ⟨?_, HY.out.setCell (Nat.le_refl _) _⟩
    (try rw [if_pos hlt])
    rfl
   ·have hf := HC.out.frozen 64
    have hc := (HC.out.cell 64).trans (zero91_at 64 (by omega))
    have ha := and_15 m hm
    go_wp2_with fail
    go_roundw
    case rel =>
     refine ⟨m / 16, 64, by omega, by go_num, rfl, .inr ⟨by omega, rfl, rfl, ?_⟩, HY.out.setCell (Nat.le_refl _) _⟩
     rw [dig_lit (m % 16) (by omega)]
     exact HC.out.set_ 64 _
    case measure => simp [intOf]
  ·have hlt : n / 16 < 16 := by omega
   have hf := HC.out.frozen 63
   have hc : wr.cell? ⟨w.heap.size, 63, none⟩ = some (.int .u8 0) := by
    rw [HC.out.cell 63, Array.getElem?_setIfInBounds, if_neg (by omega)]
    exact zero91_at 63 (by omega)
   have hcv := conv2 HC.out (by rw [Array.size_setIfInBounds, zero91]; simp) (d := n % 16) (by rw [Array.getElem?_setIfInBounds, if_pos rfl, if_pos (by rw [zero91]; simp)]) (n / 16) hlt
   go_wp2_with fail
   go_ret2
   have hn16 : ¬ n < 16 := by omega
   refine ⟨?_, HY.out.setCell (Nat.le_refl _) _⟩
   (try rw [if_neg hn16])
   rfl
set_option maxRecDepth 100000 in
theorem ifmt_any (n : Nat) (hn : n < 256) (w : World) (h : TzAt w) : Calls Tryz.prog 178 #[.int .u64 (n : Int), .int .i64 16] w fun e w' => e = .returned (.string (strB (if n < 16 then [hexD n] else [hexD (n / 16), hexD (n % 16)]))) ∧ Ext w w' := by
 have HF := Lib.hid (bits_any n hn w h)
 generalize (if n < 16 then [hexD n] else [hexD (n / 16), hexD (n % 16)]) = s at *
 go_enter Tryz.func178, Tryz.ntmps178
 go_wp2_with (go_at_call 182; refine HF.out.mono ?_; rintro e w' ⟨rfl, hx⟩; have HX := Lib.hid hx; clear hx)
 go_ret
 exact ⟨rfl, HX.out⟩
set_option maxRecDepth 100000 in
theorem fmt_any (n : Nat) (hn : n < 256) (w : World) (h : TzAt w) : Calls Tryz.prog 148 #[.int .u64 (n : Int), .int .i64 16] w fun e w' => e = .returned (.string (strB (if n < 16 then [hexD n] else [hexD (n / 16), hexD (n % 16)]))) ∧ Ext w w' := by
 have HF := Lib.hid (ifmt_any n hn w h)
 generalize (if n < 16 then [hexD n] else [hexD (n / 16), hexD (n % 16)]) = s at *
 go_enter Tryz.func148, Tryz.ntmps148
 go_wp2_with (go_at_call 178; refine HF.out.mono ?_; rintro e w' ⟨rfl, hx⟩; have HX := Lib.hid hx; clear hx)
 go_ret
 exact ⟨rfl, HX.out⟩
end Go.Proofs.YtmnnhdegoapfcaaGreatDoor
