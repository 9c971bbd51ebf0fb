/- The reference of layers 1 and 16: the walks of Digits, names, Name, form, has. -/
import Derived.Test.YtmnnhdegoapfcaaGreatDoorP29
import Derived.IntWalk
import Derived.Test.YtmnnhdegoapfcaaGreatDoorP07
import Derived.Test.YtmnnhdegoapfcaaGreatDoorP04
import Derived.Test.YtmnnhdegoapfcaaGreatDoorP27
import Derived.Test.YtmnnhdegoapfcaaGreatDoorP03
import Derived.Lib.SmallJoins
import Derived.Test.YtmnnhdegoapfcaaGreatDoorP02
import Derived.Lib.QuietBelow
import Derived.WalkMore
import Derived.Deep.RegionLaw
import Derived.Test.YtmnnhdegoapfcaaGreatDoorP21
import Derived.Test.YtmnnhdegoapfcaaGreatDoorP23
import Derived.Test.YtmnnhdegoapfcaaGreatDoorP26
namespace Go.Proofs.YtmnnhdegoapfcaaGreatDoor
open Go.RowKit Go.El
noncomputable def nameCells : Array Value := #[.string ⟨#[]⟩, .string ⟨#[103, 101, 116, 95, 118, 97, 114]⟩, .string ⟨#[103, 101, 116, 95, 118, 97, 108]⟩, .string ⟨#[103, 101, 116, 95, 97, 116, 111, 109]⟩, .string ⟨#[103, 101, 116, 95, 105, 110, 116]⟩, .string ⟨#[103, 101, 116, 95, 115, 116, 114]⟩, .string ⟨#[117, 110, 105, 95, 118, 97, 114]⟩, .string ⟨#[117, 110, 105, 95, 118, 97, 108]⟩, .string ⟨#[117, 110, 105, 95, 97, 116, 111, 109]⟩, .string ⟨#[117, 110, 105, 95, 105, 110, 116]⟩, .string ⟨#[112, 117, 116, 95, 118, 97, 114]⟩, .string ⟨#[112, 117, 116, 95, 118, 97, 108]⟩, .string ⟨#[112, 117, 116, 95, 97, 116, 111, 109]⟩, .string ⟨#[112, 117, 116, 95, 105, 110, 116]⟩, .string ⟨#[112, 117, 116, 95, 115, 116, 114]⟩, .string ⟨#[115, 101, 116, 95, 118, 97, 114]⟩, .string ⟨#[115, 101, 116, 95, 118, 97, 108]⟩, .string ⟨#[115, 101, 116, 95, 97, 116, 111, 109]⟩, .string ⟨#[115, 101, 116, 95, 105, 110, 116]⟩, .string ⟨#[97, 108, 108, 111, 99]⟩, .string ⟨#[100, 101, 97, 108, 108, 111, 99]⟩, .string ⟨#[99, 97, 108, 108]⟩, .string ⟨#[101, 120, 101, 99]⟩, .string ⟨#[98, 111, 100, 121]⟩, .string ⟨#[103, 111, 97, 108]⟩, .string ⟨#[112, 114, 111, 99, 101, 101, 100]⟩, .string ⟨#[108, 101, 118, 101, 108]⟩, .string ⟨#[104, 101, 114, 101]⟩, .string ⟨#[110, 101, 99, 107]⟩, .string ⟨#[99, 117, 116]⟩, .string ⟨#[102, 97, 105, 108]⟩]
theorem nameCells_list : nameCells.toList = (List.range 31).map (fun k => Value.string (mkB (nameAt k))) := rfl
theorem nameCells_at {k : Nat} (hk : k < 31) : nameCells[k]? = some (.string (mkB (nameAt k))) := by
 rw [← Array.getElem?_toList, nameCells_list, List.getElem?_map, List.getElem?_range hk]
 rfl
set_option maxRecDepth 100000 in
theorem rNames_any (w : World) : Calls Tryz.prog 47 #[] w fun e w' => e = .returned (.slice (some ⟨w.heap.size, 0, none⟩) 31 31) ∧ w' = w.alloc (.cells nameCells 9) := by
 go_enter Tryz.func47, Tryz.ntmps47
 go_wp2_with fail
 go_ret
 exact ⟨rfl, rfl⟩
set_option maxRecDepth 100000 in
theorem rName_any (o : Int) (w : World) : Calls Tryz.prog 14 #[.int .i64 o] w fun e w' => e = .returned (.string (mkB (nameF o))) ∧ Ext w w' := by
 have HX := Lib.hid ((Ext.refl w).alloc (.cells nameCells 9))
 have HN := Lib.hid (rNames_any w)
 by_cases h0 : o < 1
 ·have hr : nameF o = [] := by
   unfold nameF
   split
   ·rfl
   ·have : o = 0 := by omega
    subst this
    rfl
  rw [hr]
  go_enter Tryz.func14, Tryz.ntmps14
  go_wp2_with (go_at_call 47; refine HN.out.mono ?_; rintro e W1 ⟨rfl, rfl⟩)
  go_ret
  exact ⟨rfl, HX.out⟩
 ·by_cases h3 : 31 ≤ o
  ·rw [show nameF o = [] from if_pos (.inr h3)]
   go_enter Tryz.func14, Tryz.ntmps14
   go_wp2_with (go_at_call 47; refine HN.out.mono ?_; rintro e W1 ⟨rfl, rfl⟩)
   go_ret
   exact ⟨rfl, HX.out⟩
  ·rw [show nameF o = nameAt o.toNat from if_neg (by omega)]
   obtain ⟨k, rfl⟩ : ∃ k : Nat, o = k := ⟨o.toNat, by omega⟩
   have hk : k < 31 := by omega
   have c := ((Blk.new w 9 nameCells).cell k).trans (nameCells_at hk)
   have hk2 : (k : Int) < 31 := by omega
   rw [Int.toNat_natCast]
   generalize mkB (nameAt k) = nm at *
   generalize nameCells = nc at *
   go_enter Tryz.func14, Tryz.ntmps14
   go_wp2_with (go_at_call 47; refine HN.out.mono ?_; rintro e W1 ⟨rfl, rfl⟩)
   go_ret
   exact ⟨rfl, HX.out⟩
end Go.Proofs.YtmnnhdegoapfcaaGreatDoor

/- Layer 17: the walks of Listing, the program's and the reference's. -/
namespace Go.El
open Go.Proofs.YtmnnhdegoapfcaaGreatDoor
def listS (L : List Ins) : List UInt8 := L.flatMap fun i => insT i ++ [10]
theorem text_len0 (i : Ins) : (insT i).length ≤ 3700 := by
 cases h : insMay i
 ·have : insT i = [] := by unfold insT; rw [h]; rfl
  rw [this]
  simp
 ·exact text_len h
theorem listS_take {L : List Ins} {j : Nat} {i : Ins} (h : L[j]? = some i) : listS (L.take (j + 1)) = listS (L.take j) ++ (insT i ++ [10]) := by
 obtain ⟨hj, he⟩ := List.getElem?_eq_some_iff.1 h
 unfold listS
 rw [List.take_succ_eq_append_getElem hj, he, List.flatMap_append]
 simp
theorem listS_len : ∀ L : List Ins, (listS L).length ≤ 3701 * L.length
 | [] => by simp [listS]
 | i :: L => by
  have h1 := listS_len L
  have h2 := text_len0 i
  unfold listS at h1 ⊢
  simp only [List.flatMap_cons, List.length_append, List.length_cons, List.length_nil]
  omega
theorem str_add (l : List UInt8) : mkB l ++ ⟨#[10]⟩ = mkB (l ++ [10]) := by
 have h : (mkB l ++ (⟨#[10]⟩ : ByteArray)).data = (mkB (l ++ [10])).data := by
  rw [ByteArray.data_append]
  simp [mkB]
 exact ByteArray.ext h
theorem cells_add (F l : List UInt8) : Lib.byteCells F ++ Lib.strCells (mkB l ++ ⟨#[10]⟩) = Lib.byteCells (F ++ (l ++ [10])) := by
 rw [str_add]
 unfold Lib.byteCells Lib.strCells
 simp [mkB]
theorem byteCells_len (F : List UInt8) : (Lib.byteCells F).length = F.length := by simp [Lib.byteCells]
theorem mkB_sz (l : List UInt8) : (mkB l).size = l.length := by simp [mkB, ByteArray.size]
end Go.El
namespace Go.Proofs.YtmnnhdegoapfcaaGreatDoor
open Go.RowKit Go.El
theorem bd_ext {B b : Nat} {bs : List Value} {w w' : World} (h : Lib.IsBuilder 63 5 B b bs w) (x : Ext w w') : Lib.IsBuilder 63 5 B b bs w' := by
 rcases h with ⟨h1, v, h2, h3, h4⟩ | ⟨h1, v, h2, h3, h4⟩
 ·exact .inl ⟨h1, v, x.heap h2, own_ext h3 x, h4⟩
 ·exact .inr ⟨h1, v, x.heap h2, own_ext h3 x, h4⟩
set_option maxRecDepth 100000 in
set_option maxHeartbeats 4000000 in
theorem eList_any (L : List Ins) (A : Option Addr) (c : Nat) (w : World) (h : El.Src w A L.length 5 (flat insCells L)) (hl : L.length ≤ 1000) (he : EnvT w) :
  Calls Tryz.prog 9 #[.slice A L.length c] w fun e w' => e = .returned (.string (mkB (listS L))) ∧ Ext w w' := by
 have H := Lib.hid h
 have HE := Lib.hid he
 have HB0 := Lib.hid (show Lib.IsBuilder 63 5 w.heap.size w.heap.size [] (w.alloc (.cells #[.pointer none, .slice none 0 0] 63)) from .inl ⟨Nat.le_refl _, .slice none 0 0, Blk.new _ _ _, World.ownsRow_nil _ _ _ _, by simp [Value.ownBlock]⟩)
 have HX0 := Lib.hid (ext_boxI w (.cells #[.pointer none, .slice none 0 0] 63))
 clear h he
 go_enter Tryz.func9, Tryz.ntmps9
 go_wp2_with fail
 go_loopw [8] (fun iv wr => ∃ j : Nat, j ≤ L.length ∧ iv = .int .i64 j ∧ Hid (Lib.IsBuilder 63 5 w.heap.size w.heap.size (Lib.byteCells (listS (L.take j))) wr) ∧ Hid (Ext w wr)) (fun iv _ => L.length - (intOf iv).toNat)
 case atStart => exact ⟨0, Nat.zero_le _, rfl, HB0, HX0⟩
 case round =>
  clear HB0 HX0
  obtain ⟨j, hj, rfl, HB, HX⟩ := hrel
  have hws := HX.out.size
  by_cases hlt : j < L.length
  ·have ho : L[j]? = some L[j] := List.getElem?_eq_getElem hlt
   obtain ⟨b, off, hA, d0, d1, d2, d3, d4⟩ := src_ins (H.out.ext HX.out) hlt
   have HTK := Lib.hid (listS_take ho)
   have hln := listS_len (L.take j)
   have hlt2 : (L.take j).length ≤ 1000 := by rw [List.length_take]; omega
   generalize L[j] = i at *
   have htl := text_len0 i
   have hsz : (mkB (insT i)).size ≤ 3700 := by rw [mkB_sz]; exact htl
   have hbl : (Lib.byteCells (listS (L.take j))).length ≤ 4000000 := by rw [byteCells_len]; omega
   have HTX := fun (W : World) (x : Ext w W) => Lib.hid (text_any i W (HE.out.ext x))
   unfold insVal at HTX
   generalize listS (L.take j) = F at *
   have HS := Lib.hid (cells_add F (insT i))
   generalize mkB (insT i) = T at *
   have hts : (T ++ (⟨#[10]⟩ : ByteArray)).size = T.size + 1 := by rw [ByteArray.size_append]; rfl
   clear ho hln htl
   subst hA
   go_wp2_with (first
    | (go_at_call 28; refine (HTX _ (HX.out.alloc _)).out.mono ?_; rintro e W3 ⟨rfl, x⟩; have X3 := Lib.hid ((HX.out.alloc _).trans x); have B3 := Lib.hid (bd_ext HB.out (((Ext.refl _).alloc _).trans x)); have hs3 := X3.out.size; clear x)
    | (go_at_call 27; refine (Tryz.Builder_WriteString w.heap.size _ _ _ _ B3.out (by rw [hts]; omega) hs3).mono ?_; rintro e W4 ⟨rfl, hb, hx⟩; have B4 := Lib.hid (show Lib.IsBuilder 63 5 w.heap.size w.heap.size _ W4 from .inr hb); have X4 := Lib.hid (Below.trans X3.out hx); clear hb hx))
   go_roundw
   case rel => exact ⟨j + 1, hlt, by go_num, by rw [HTK.out, ← HS.out]; exact B4, X4⟩
   case measure => simp [intOf]; omega
  ·obtain rfl : j = L.length := by omega
   rw [List.take_length] at HB
   go_wp2_with (go_at_call 29; refine (Tryz.Builder_String_any w.heap.size _ _ _ HB.out hws).mono ?_; rintro e w6 ⟨rfl, hx⟩; have HX6 := Lib.hid (Below.trans HX.out hx); clear hx)
   go_ret
   exact ⟨rfl, HX6.out⟩
set_option maxRecDepth 100000 in
set_option maxHeartbeats 4000000 in
theorem rSame_any (L : List Ins) (A B : Option Addr) (c d : Nat) (w : World) (h : El.Src w A L.length 5 (flat insCells L)) (h2 : El.Src w B L.length 5 (flat insCells L)) (hl : L.length ≤ 100000) :
  Calls Tryz.prog 19 #[.slice A L.length c, .slice B L.length d] w fun e w' => e = .returned (.bool true) ∧ Ext w w' := by
 have H := Lib.hid h
 have H2 := Lib.hid h2
 clear h h2
 go_enter Tryz.func19, Tryz.ntmps19
 go_wp2_with fail
 go_loopw [5] (fun iv wr => ∃ j : Nat, j ≤ L.length ∧ iv = .int .i64 j ∧ Hid (Ext w wr)) (fun iv _ => L.length - (intOf iv).toNat)
 case atStart => exact ⟨0, Nat.zero_le _, rfl, Lib.hid (Ext.refl _)⟩
 case round =>
  obtain ⟨j, hj, rfl, HX⟩ := hrel
  by_cases hlt : j < L.length
  ·obtain ⟨b, off, hA, d0, d1, d2, d3, d4⟩ := src_ins (H.out.ext HX.out) hlt
   obtain ⟨b2, off2, hB, e0, e1, e2, e3, e4⟩ := src_ins (H2.out.ext HX.out) hlt
   generalize L[j] = i at *
   subst hA
   subst hB
   go_upto_region 6 with fail
   go_quiet (fail)
   go_wp2_with fail
   go_roundw
   case rel => exact ⟨j + 1, hlt, by go_num, Lib.hid (HX.out.drewN _)⟩
   case measure => simp [intOf]; omega
  ·obtain rfl : j = L.length := by omega
   go_wp2_with fail
   go_ret
   exact ⟨rfl, HX.out⟩
end Go.Proofs.YtmnnhdegoapfcaaGreatDoor

/- Law 15: the walks of call, One. -/
namespace Go.El
def vP (n : Int) : TmP := (vT n, none, 0)
theorem vP_map (s : ByteArray) (V : List Int) : (Tm.mk 4 0 s ((V.map vP).map (·.1))) = .mk 4 0 s (V.map vT) := by
 rw [List.map_map]
 rfl
end Go.El
namespace Go.Proofs.YtmnnhdegoapfcaaGreatDoor
open Go.RowKit Go.El
structure CaAt (V : World) (L : List Int) (j : Nat) (wr : World) (v : Value) : Prop where
 own : wr.ownsRow 0 30 4 v j (flat tmC ((L.take j).map vP))
 new : ∀ b, v.ownBlock = some b → V.heap.size ≤ b
 ext : Ext V wr
theorem CaAt.more {V : World} {L : List Int} {j : Nat} {wr w1 w2 : World} {v v2 : Value} {n : Int} (h : CaAt V L j wr v) (hp : L[j]? = some n) (x : Ext wr w1) (ho : w2.ownsRow 0 30 4 v2 (j + 1) (flat tmC ((L.take j).map vP) ++ tmC (vP n))) (hm : Mods (ownL v) w1 w2) (hb : v2.ownBlock = v.ownBlock ∨ v2.ownBlock = some w1.heap.size) : CaAt V L (j + 1) w2 v2 := by
 have ht : L.take (j + 1) = L.take j ++ [n] := by
  obtain ⟨hj, he⟩ := List.getElem?_eq_some_iff.1 hp
  rw [List.take_succ_eq_append_getElem hj, he]
 have hx := h.ext.trans x
 refine ⟨?_, fun b hbb => ?_, ext_mods hx hm (fun k hk => h.new k (mem_ownL hk))⟩
 ·rw [ht]
  simpa [flat] using ho
 ·rcases hb with hb | hb
  ·exact h.new b (hb ▸ hbb)
  ·have := hb.symm.trans hbb
   injection this with this
   have := hx.size
   omega
set_option maxRecDepth 100000 in
set_option maxHeartbeats 4000000 in
theorem call15_any (s : ByteArray) (L : List Int) (A : Option Addr) (c : Nat) (w : World) (h : El.Src w A L.length 1 (L.map iV)) (hne : L ≠ []) (hl : L.length ≤ 100) :
  Calls Tryz.prog 65 #[.string s, .slice A L.length c] w fun e w' => ∃ A' c', e = .returned (.agg #[.int .i64 1, .int .i64 4, .int .i64 0, .string s, .slice A' L.length c']) ∧ TmIn (fun k => w.heap.size ≤ k ∧ k < w'.heap.size) w' (.mk 4 0 s (L.map vT)) A' c' ∧ Ext w w' := by
 obtain ⟨i1, hi1, hz0, hz1, hz2⟩ := infoP tmInfo4
 have H := Lib.hid h
 clear h
 go_enter Tryz.func65, Tryz.ntmps65
 go_upto_region 1 with fail
 refine wp_abs (fun V => Hid (Blk V w.heap.size 42 #[.int .i64 0, .int .i64 0, .int .i64 0, .string ⟨#[]⟩, .slice none 0 0]) ∧ Hid (Ext w V)) ⟨Lib.hid (Blk.new w _ _), Lib.hid ((Ext.refl w).alloc _)⟩ ?_
 rintro V ⟨HB, HX⟩
 have hvl := HB.out.lt
 go_wp2_with fail
 go_loopw [5, 6] (fun ov iv wr => ∃ (j : Nat) (v : Value), j ≤ L.length ∧ iv = .int .i64 j ∧ ov = v ∧ Hid (CaAt V L j wr v)) (fun _ iv _ => L.length - (intOf iv).toNat)
 case atStart => exact ⟨0, .slice none 0 0, Nat.zero_le _, rfl, rfl, Lib.hid ⟨World.ownsRow_nil _ _ _ _, fun b hb => by simp [Value.ownBlock] at hb, Ext.refl _⟩⟩
 case round =>
  obtain ⟨j, v, hj, rfl, rfl, HR⟩ := hrel
  by_cases hlt : j < L.length
  ·have ho : L[j]? = some L[j] := List.getElem?_eq_getElem hlt
   obtain ⟨b, off, hA, d0⟩ := src_int (H.out.ext (HX.out.trans HR.out.ext)) hlt
   generalize L[j] = n at *
   have HO := Lib.hid ho
   obtain ⟨Av, cv, rfl⟩ := own_value HR.out.own
   clear ho
   subst hA
   go_wp2_with (first
    | (go_at_call 17; refine (refVar_any _ _).mono ?_; rintro e W3 ⟨rfl, x⟩; have X3 := Lib.hid x; clear x)
    | (at_builtin; refine wpList_append_src (P := Tryz.prog) rfl (.tmp 13) (.tmp 19) 28 rfl 30 i1 _ 4 56 Tryz.underlying28 hi1 hz0 hz1 hz2 rfl (by omega) (.slice Av j cv) rfl _ _ _ rfl j (flat tmC ((L.take j).map vP)) (own_ext HR.out.own (X3.out.alloc _)) (tmC (vP n)) (El.Src.new W3 #[.int .i64 1, .int .i64 n, .string ⟨#[]⟩, .slice none 0 0] 30 1 4 rfl) (tmC_one _) (by unfold maxLen; omega) (by omega) ?_; intro v3 w3 ho3 hm3 hb3; have R3 := Lib.hid (HR.out.more HO.out (X3.out.alloc _) ho3 hm3 hb3); clear ho3 hm3 hb3))
   go_roundw
   case rel => exact ⟨j + 1, v3, hlt, by go_num, rfl, R3⟩
   case measure => simp [intOf]; omega
  ·obtain rfl : j = L.length := by omega
   have hown := HR.out.own
   have hnew := HR.out.new
   have hxr := HR.out.ext
   rw [List.take_length] at hown
   obtain ⟨Av, cv, rfl⟩ := own_value hown
   have hml : (L.map vP).length = L.length := List.length_map _
   have hM : L.map vP ≠ [] := by simpa using hne
   have hso := El.Src.of_own hown
   rw [← hml] at hso
   have hC := refComp_any s (L.map vP) Av cv wr (fun k => w.heap.size + 1 ≤ k ∧ k < wr.heap.size) hso (fun p hp => by obtain ⟨n, _, rfl⟩ := List.mem_map.1 hp; exact TmsIn.term (TmsIn.nil _ _ _ _) _ _ _) hM (by rw [hml]; omega) (fun k hk => hk.2)
   rw [vP_map, hml] at hC
   have HC := Lib.hid hC
   have HB2 := Lib.hid (HB.out.ext hxr)
   have HX2 := Lib.hid (HX.out.trans hxr)
   clear hC hso hown hnew hxr HR hml hM
   go_wp2_with (go_at_call 24; refine HC.out.mono ?_; rintro e W4 ⟨A', c', rfl, ht, x⟩; have T4 := Lib.hid ht; have b4 := HB2.out.ext x; have B4 := Lib.hid b4; have X4 := Lib.hid (HX2.out.trans x); have zc := b4.cell; have zf := b4.frozen; have hs4 := x.size; clear ht x b4)
   have hw := HX2.out.size
   have hb2 := HB2.out.lt
   have kb := ((((B4.out.set_ 0 (.int .i64 1)).set_ 1 (.int .i64 4)).set_ 2 (.int .i64 0)).set_ 3 (.string s)).set_ 4 (.slice A' L.length c')
   have kx := (((((X4.out.setCell (p := ⟨w.heap.size, 0, none⟩) (Nat.le_refl _) (.int .i64 1)).setCell (p := ⟨w.heap.size, 1, none⟩) (Nat.le_refl _) (.int .i64 4)).setCell (p := ⟨w.heap.size, 2, none⟩) (Nat.le_refl _) (.int .i64 0)).setCell (p := ⟨w.heap.size, 3, none⟩) (Nat.le_refl _) (.string s)).setCell (p := ⟨w.heap.size, 4, none⟩) (Nat.le_refl _) (.slice A' L.length c'))
   have kt := TmIn.mods (S := [w.heap.size]) (D' := fun k => w.heap.size ≤ k ∧ k < (((((W4.setCell ⟨w.heap.size, 0, none⟩ (.int .i64 1)).setCell ⟨w.heap.size, 1, none⟩ (.int .i64 4)).setCell ⟨w.heap.size, 2, none⟩ (.int .i64 0)).setCell ⟨w.heap.size, 3, none⟩ (.string s)).setCell ⟨w.heap.size, 4, none⟩ (.slice A' L.length c')).heap.size) ((((((Mods.refl _ W4).setCell (p := ⟨w.heap.size, 0, none⟩) (.inl (by simp)) (.int .i64 1)).setCell (p := ⟨w.heap.size, 1, none⟩) (.inl (by simp)) (.int .i64 4)).setCell (p := ⟨w.heap.size, 2, none⟩) (.inl (by simp)) (.int .i64 0)).setCell (p := ⟨w.heap.size, 3, none⟩) (.inl (by simp)) (.string s)).setCell (p := ⟨w.heap.size, 4, none⟩) (.inl (by simp)) (.slice A' L.length c')) (fun k hk => by simp; omega) (fun k hk => ⟨by omega, by simp only [World.size_setCell]; omega⟩) T4.out
   have kc := kb.cell
   exact bodyPost_ret (v := .agg #[.int .i64 1, .int .i64 4, .int .i64 0, .string s, .slice A' L.length c']) (by simp [results, Tryz.results65, go_sem, kc]) rfl ⟨A', c', rfl, kt, kx⟩
theorem callL (W : World) (s : ByteArray) (L : List Int) (cs : Array Value) (n : Nat) (hn : L.length = n) (hcs : cs = (L.map iV).toArray) (hne : L ≠ []) (hl : L.length ≤ 100) :
  Calls Tryz.prog 65 #[.string s, .slice (some ⟨W.heap.size, 0, none⟩) n n] (W.alloc (.cells cs 3)) fun e w' => ∃ A' c', e = .returned (.agg #[.int .i64 1, .int .i64 4, .int .i64 0, .string s, .slice A' n c']) ∧ TmIn (fun k => W.heap.size ≤ k ∧ k < w'.heap.size) w' (.mk 4 0 s (L.map vT)) A' c' ∧ Ext W w' := by
 subst hcs
 subst hn
 have hs := El.Src.new W (L.map iV).toArray 3 L.length 1 (by simp)
 refine (call15_any s L _ _ _ (by simpa using hs) hne hl).mono ?_
 rintro e w' ⟨A', c', rfl, ht, x⟩
 exact ⟨A', c', rfl, ht.mono (fun _ hk => ⟨Nat.le_trans (by rw [World.size_alloc]; omega) hk.1, hk.2⟩), ((Ext.refl W).alloc _).trans x⟩
end Go.Proofs.YtmnnhdegoapfcaaGreatDoor

/- Law 15: the walk of One. -/
namespace Go.El
def tmP' : Tm := .mk 4 0 (nmB 112) [vT 0, vT 1]
def tmQ' : Tm := .mk 4 0 (nmB 113) [vT 0, vT 2]
def tmR' : Tm := .mk 4 0 (nmB 114) [vT 2, vT 1]
def tmS' : Tm := .mk 4 0 (nmB 115) [vT 1]
theorem one_gs : ([(tmQ', (none : Option Addr), 0), (tmR', none, 0), (tmS', none, 0)].map fun p => (goalK p.1, p.1)) = oneC.gs := by
 have h1 : goalK tmQ' = 1 := by decide +kernel
 have h2 : goalK tmR' = 1 := by decide +kernel
 have h3 : goalK tmS' = 1 := by decide +kernel
 simp only [List.map_cons, List.map_nil, h1, h2, h3]
 rfl
end Go.El
namespace Go.Proofs.YtmnnhdegoapfcaaGreatDoor
open Go.RowKit Go.El
def OnePost (w : World) (e : Ending) (w' : World) : Prop :=
 ∃ (hA : Option Addr) (hc : Nat) (gA : Option Addr) (gc : Nat), e = .returned (.agg #[.int .i64 4, .int .i64 0, .string ⟨#[112]⟩, .slice hA 2 hc, .slice gA 3 gc, .int .i64 3]) ∧ ClIn (fun k => k < w'.heap.size) w' oneC hA hc gA gc ∧ Ext w w'
theorem tl_go {V U : World} {lo : Nat} {t : Tm} {A : Option Addr} {c : Nat} (h : TmIn (fun k => lo ≤ k ∧ k < V.heap.size) V t A c) (x : Ext V U) : TmIn (fun k => lo ≤ k ∧ k < U.heap.size) U t A c := (h.ext x).mono (fun _ hk => ⟨hk.1, Nat.lt_of_lt_of_le hk.2 x.size⟩)
theorem goals_lit (W : World) (lo : Nat) (hlo : lo ≤ W.heap.size) (M : List TmP) (cs : Array Value) (n : Nat) (hn : M.length = n) (hcs : cs = (flat goC M).toArray) (hk : ∀ p ∈ M, TmIn (fun k => lo ≤ k ∧ k < W.heap.size) W p.1 p.2.1 p.2.2) (hl : M.length ≤ 1000) : GoalsIn (fun k => lo ≤ k ∧ k < W.heap.size + 1) (W.alloc (.cells cs 42)) (M.map fun p => (goalK p.1, p.1)) (some ⟨W.heap.size, 0, none⟩) n := by
 subst hcs
 subst hn
 have hlen : (flat goC M).toArray.size = M.length * 5 := by simpa using flat_len (enc := goC) (k := 5) (fun _ => rfl) M
 have own := World.ownsRow_lit (base := 0) (e := 42) (size := 5) W (flat goC M).toArray M.length (Nat.zero_le _) (by unfold maxLen; omega) hlen
 exact goals_done (by simpa using own) (fun p hp => ((hk p hp).ext ((Ext.refl W).alloc _)).mono (fun k h => ⟨h.1, by omega⟩)) (fun b hb => by simp [Value.ownBlock] at hb; subst hb; exact ⟨hlo, by omega⟩)
set_option maxRecDepth 100000 in
set_option maxHeartbeats 4000000 in
theorem one_any (w : World) :
  Calls Tryz.prog 25 #[] w (OnePost w) := by
 have C1 := fun W => Lib.hid (callL W ⟨#[112]⟩ [0, 1] #[.int .i64 0, .int .i64 1] 2 rfl rfl (by simp) (by simp))
 have C2 := fun W => Lib.hid (callL W ⟨#[113]⟩ [0, 2] #[.int .i64 0, .int .i64 2] 2 rfl rfl (by simp) (by simp))
 have C3 := fun W => Lib.hid (callL W ⟨#[114]⟩ [2, 1] #[.int .i64 2, .int .i64 1] 2 rfl rfl (by simp) (by simp))
 have C4 := fun W => Lib.hid (callL W ⟨#[115]⟩ [1] #[.int .i64 1] 1 rfl rfl (by simp) (by simp))
 go_enter Tryz.func25, Tryz.ntmps25
 go_upto_region 1 with fail
 refine wp_abs (fun V => Hid (Blk V w.heap.size 34 #[.int .i64 0, .int .i64 0, .string ⟨#[]⟩, .slice none 0 0, .slice none 0 0, .int .i64 0]) ∧ Hid (Ext w V)) ⟨Lib.hid (Blk.new w _ _), Lib.hid ((Ext.refl w).alloc _)⟩ ?_
 rintro V ⟨HB, HX⟩
 have hvl := HB.out.lt
 have F1 := fun (p q : Int) (A : Option Addr) (m c : Nat) (s : ByteArray) (W : World) => (show (Instr.field 42 (.agg #[.int .i64 1, .int .i64 p, .int .i64 q, .string s, .slice A m c]) 1).run Tryz.prog W = .ok (.agg #[.int .i64 p, .int .i64 q, .string s, .slice A m c]) W from by kernel_rfl)
 go_wp2_with (first
  | (go_at_call 65; (with_reducible refine (C1 _).out.mono ?_); rintro e W1 ⟨A1, c1, rfl, t1, x⟩; have T1 : Hid (TmIn (fun k => w.heap.size + 1 ≤ k ∧ k < W1.heap.size) W1 tmP' A1 c1) := Lib.hid (t1.mono (fun _ hk => ⟨Nat.le_trans hvl hk.1, hk.2⟩)); have hs1 := Nat.lt_of_lt_of_le hvl x.size; have X1 := Lib.hid (HX.out.trans x); have B1 := Lib.hid (HB.out.ext x); clear t1 x)
  | (go_at_call 65; (with_reducible refine (C2 _).out.mono ?_); rintro e W2 ⟨A2, c2, rfl, t2, x⟩; have T12 := Lib.hid (tl_go T1.out x); have T2 : Hid (TmIn (fun k => w.heap.size + 1 ≤ k ∧ k < W2.heap.size) W2 tmQ' A2 c2) := Lib.hid (t2.mono (fun _ hk => ⟨Nat.le_trans hs1 hk.1, hk.2⟩)); have hs2 := Nat.lt_of_lt_of_le hs1 x.size; have X2 := Lib.hid (X1.out.trans x); have B2 := Lib.hid (B1.out.ext x); clear t2 x)
  | (go_at_call 65; (with_reducible refine (C3 _).out.mono ?_); rintro e W3 ⟨A3, c3, rfl, t3, x⟩; have T13 := Lib.hid (tl_go T12.out x); have T23 := Lib.hid (tl_go T2.out x); have T3 : Hid (TmIn (fun k => w.heap.size + 1 ≤ k ∧ k < W3.heap.size) W3 tmR' A3 c3) := Lib.hid (t3.mono (fun _ hk => ⟨Nat.le_trans hs2 hk.1, hk.2⟩)); have hs3 := Nat.lt_of_lt_of_le hs2 x.size; have X3 := Lib.hid (X2.out.trans x); have B3 := Lib.hid (B2.out.ext x); clear t3 x)
  | (go_at_call 65; (with_reducible refine (C4 _).out.mono ?_); rintro e W4 ⟨A4, c4, rfl, t4, x⟩; have T14 := Lib.hid (tl_go T13.out x); have T24 := Lib.hid (tl_go T23.out x); have T34 := Lib.hid (tl_go T3.out x); have T4 : Hid (TmIn (fun k => w.heap.size + 1 ≤ k ∧ k < W4.heap.size) W4 tmS' A4 c4) := Lib.hid (t4.mono (fun _ hk => ⟨Nat.le_trans hs3 hk.1, hk.2⟩)); have hs4 := Nat.lt_of_lt_of_le hs3 x.size; have X4 := Lib.hid (X3.out.trans x); have b4 := (B3.out.ext x).alloc (.cells #[.int .i64 1, .int .i64 4, .int .i64 0, .string ⟨#[113]⟩, .slice A2 2 c2, .int .i64 1, .int .i64 4, .int .i64 0, .string ⟨#[114]⟩, .slice A3 2 c3, .int .i64 1, .int .i64 4, .int .i64 0, .string ⟨#[115]⟩, .slice A4 1 c4] 42); have B4 := Lib.hid (B3.out.ext x); have zc := b4.cell; have zf := b4.frozen; have zl := (B3.out.ext x).lt; have zc4 := (B3.out.ext x).cell; have zf4 := (B3.out.ext x).frozen; clear t4 x b4))
 have kb := (((((B4.out.set_ 0 (.int .i64 4)).set_ 1 (.int .i64 0)).set_ 2 (.string ⟨#[112]⟩)).set_ 3 (.slice A1 2 c1)).set_ 4 (.slice (some ⟨W4.heap.size, 0, none⟩) 3 3)).set_ 5 (.int .i64 3)
 have kx := (((((X4.out.setCell (p := ⟨w.heap.size, 0, none⟩) (Nat.le_refl _) (.int .i64 4)).setCell (p := ⟨w.heap.size, 1, none⟩) (Nat.le_refl _) (.int .i64 0)).setCell (p := ⟨w.heap.size, 2, none⟩) (Nat.le_refl _) (.string ⟨#[112]⟩)).setCell (p := ⟨w.heap.size, 3, none⟩) (Nat.le_refl _) (.slice A1 2 c1)).setCell (p := ⟨w.heap.size, 4, none⟩) (Nat.le_refl _) (.slice (some ⟨W4.heap.size, 0, none⟩) 3 3)).setCell (p := ⟨w.heap.size, 5, none⟩) (Nat.le_refl _) (.int .i64 3)
 have km := ((((((Mods.refl [w.heap.size] W4).setCell (p := ⟨w.heap.size, 0, none⟩) (.inl (by simp)) (.int .i64 4)).setCell (p := ⟨w.heap.size, 1, none⟩) (.inl (by simp)) (.int .i64 0)).setCell (p := ⟨w.heap.size, 2, none⟩) (.inl (by simp)) (.string ⟨#[112]⟩)).setCell (p := ⟨w.heap.size, 3, none⟩) (.inl (by simp)) (.slice A1 2 c1)).setCell (p := ⟨w.heap.size, 4, none⟩) (.inl (by simp)) (.slice (some ⟨W4.heap.size, 0, none⟩) 3 3)).setCell (p := ⟨w.heap.size, 5, none⟩) (.inl (by simp)) (.int .i64 3)
 have kz : ((((((W4.setCell ⟨w.heap.size, 0, none⟩ (.int .i64 4)).setCell ⟨w.heap.size, 1, none⟩ (.int .i64 0)).setCell ⟨w.heap.size, 2, none⟩ (.string ⟨#[112]⟩)).setCell ⟨w.heap.size, 3, none⟩ (.slice A1 2 c1)).setCell ⟨w.heap.size, 4, none⟩ (.slice (some ⟨W4.heap.size, 0, none⟩) 3 3)).setCell ⟨w.heap.size, 5, none⟩ (.int .i64 3)).heap.size = W4.heap.size := by simp
 clear zc zf zc4 zf4 B4 X4 X3 X2 X1 B1 B2 B3 C1 C2 C3 C4 F1
 generalize (((((W4.setCell ⟨w.heap.size, 0, none⟩ (.int .i64 4)).setCell ⟨w.heap.size, 1, none⟩ (.int .i64 0)).setCell ⟨w.heap.size, 2, none⟩ (.string ⟨#[112]⟩)).setCell ⟨w.heap.size, 3, none⟩ (.slice A1 2 c1)).setCell ⟨w.heap.size, 4, none⟩ (.slice (some ⟨W4.heap.size, 0, none⟩) 3 3)).setCell ⟨w.heap.size, 5, none⟩ (.int .i64 3) = U at *
 have hm : ∀ {t : Tm} {A : Option Addr} {c : Nat}, TmIn (fun k => w.heap.size + 1 ≤ k ∧ k < W4.heap.size) W4 t A c → TmIn (fun k => w.heap.size + 1 ≤ k ∧ k < U.heap.size) U t A c := fun h => TmIn.mods km (fun k hk => by have := hk.1; simp; omega) (fun k hk => by rw [kz]; exact hk) h
 have hg := goals_lit U (w.heap.size + 1) (by rw [kz]; exact hs4) [(tmQ', A2, c2), (tmR', A3, c3), (tmS', A4, c4)] #[.int .i64 1, .int .i64 4, .int .i64 0, .string ⟨#[113]⟩, .slice A2 2 c2, .int .i64 1, .int .i64 4, .int .i64 0, .string ⟨#[114]⟩, .slice A3 2 c3, .int .i64 1, .int .i64 4, .int .i64 0, .string ⟨#[115]⟩, .slice A4 1 c4] 3 rfl rfl (fun p hp => by simp only [List.mem_cons, List.not_mem_nil, or_false] at hp; rcases hp with rfl | rfl | rfl; exact hm T24.out; exact hm T34.out; exact hm T4.out) (by simp)
 have hgs : ([(tmQ', A2, c2), (tmR', A3, c3), (tmS', A4, c4)].map fun p => (goalK p.1, p.1)) = oneC.gs := one_gs
 rw [hgs, kz] at hg
 have ht := hm T14.out
 generalize W4.heap.size = g4 at *
 have kc := (kb.alloc (.cells #[.int .i64 1, .int .i64 4, .int .i64 0, .string ⟨#[113]⟩, .slice A2 2 c2, .int .i64 1, .int .i64 4, .int .i64 0, .string ⟨#[114]⟩, .slice A3 2 c3, .int .i64 1, .int .i64 4, .int .i64 0, .string ⟨#[115]⟩, .slice A4 1 c4] 42)).cell
 have hk0 := kb.cell
 have klt := kb.lt
 refine bodyPost_ret (v := .agg #[.int .i64 4, .int .i64 0, .string ⟨#[112]⟩, .slice A1 2 c1, .slice (some ⟨g4, 0, none⟩) 3 3, .int .i64 3]) (by simp [results, Tryz.results25, go_sem, kc]) rfl ⟨A1, c1, some ⟨g4, 0, none⟩, 3, rfl, ⟨?_, ?_⟩, kx.alloc _⟩
 ·exact (ht.ext ((Ext.refl U).alloc _)).mono (fun k hk => by rw [World.size_alloc]; have := hk.2; omega)
 ·exact hg.mods (S := []) (Mods.refl _ _) (fun _ _ => by simp) (fun k hk => by rw [World.size_alloc]; have := hk.2; omega)
end Go.Proofs.YtmnnhdegoapfcaaGreatDoor

/- Layer 15, the program: the walk of may, whole. -/
namespace Go.Proofs.YtmnnhdegoapfcaaGreatDoor
open Go.RowKit Go.El
structure ClSz (c : Cls) : Prop where
 h : szT c.h ≤ 1000000000
 g : ∀ (j : Nat) (k : Int) (t : Tm), c.gs[j]? = some (k, t) → szT t ≤ 1000000000
 l : c.gs.length ≤ 1000000000
set_option maxRecDepth 100000 in
set_option maxHeartbeats 4000000 in
theorem pMay (c : Cls) (hA : Option Addr) (hc : Nat) (gA : Option Addr) (gc : Nat) (D : Nat → Prop) (w : World) (h : ClIn D w c hA hc gA gc) (hz : ClSz c) :
  Calls Tryz.prog 80 #[.agg (clC c hA hc gA gc)] w fun e w' => e = .returned (.int .i64 (mayC c)) ∧ Ext w w' := by
 have H := Lib.hid h
 have HZ := Lib.hid hz
 have HK := fun W (x : Ext w W) => Lib.hid (check_any c.h hA hc W D (TmIn.ext x h.hd) hz.h)
 have HB0 := Blk.new w 34 (clC c hA hc gA gc)
 have HX0 := ext_box w (.cells (clC c hA hc gA gc) 34)
 clear h hz
 unfold tmVal at HK
 unfold clC at *
 have hll := HZ.out.l
 by_cases h0 : chkT c.h ≠ 0
 ·have HR := Lib.hid (may_head h0)
  go_enter Tryz.func80, Tryz.ntmps80
  go_upto_region 1 with fail
  refine wp_abs (fun V => Hid (Blk V w.heap.size 34 #[.int .i64 c.h.k, .int .i64 c.h.n, .string c.h.s, .slice hA c.h.l.length hc, .slice gA c.gs.length gc, .int .i64 c.vars]) ∧ Hid (Ext w V)) ⟨HB0, HX0⟩ ?_
  clear HB0 HX0
  rintro V ⟨HB, HX⟩
  have x9 := HB.out.cell
  have HK1 := HK V HX.out
  go_wp2_with (go_at_call 118; refine HK1.out.mono ?_; rintro e W1 ⟨rfl, x1⟩; have X1 := Lib.hid (HX.out.trans x1); clear x1)
  go_ret
  exact ⟨by rw [HR.out]; rfl, X1.out⟩
 ·have h0 : chkT c.h = 0 := Decidable.byContradiction h0
  rw [h0] at HK
  have H0 := Lib.hid h0
  clear h0
  go_enter Tryz.func80, Tryz.ntmps80
  go_upto_region 1 with fail
  refine wp_abs (fun V => Hid (Blk V w.heap.size 34 #[.int .i64 c.h.k, .int .i64 c.h.n, .string c.h.s, .slice hA c.h.l.length hc, .slice gA c.gs.length gc, .int .i64 c.vars]) ∧ Hid (Ext w V)) ⟨HB0, HX0⟩ ?_
  clear HB0 HX0
  rintro V ⟨HB, HX⟩
  have x9 := HB.out.cell
  have HK1 := HK V HX.out
  clear HK
  go_upto_region 4 with (go_at_call 118; refine HK1.out.mono ?_; rintro e W1 ⟨rfl, x1⟩; have X1 := Lib.hid (HX.out.trans x1); have HB1 := Lib.hid (HB.out.ext x1); clear x1)
  have y9 := HB1.out.cell
  clear x9 HB HX HK1
  go_upto_region 5 with fail
  go_loopw [17] (fun i wr => ∃ j : Nat, j ≤ c.gs.length ∧ i = .int .i64 j ∧ Hid (Ext w wr) ∧ Hid (Blk wr w.heap.size 34 #[.int .i64 c.h.k, .int .i64 c.h.n, .string c.h.s, .slice hA c.h.l.length hc, .slice gA c.gs.length gc, .int .i64 c.vars]) ∧ Hid (∀ (i : Nat) (y : Int × Tm), i < j → c.gs[i]? = some y → chkT y.2 = 0)) (fun i _ => c.gs.length - (intOf i).toNat)
  case atStart => exact ⟨0, by omega, rfl, X1, HB1, Lib.hid (fun i y hi => by omega)⟩
  case round =>
   clear X1 HB1 y9
   obtain ⟨j, hj, rfl, HX, HB, HN⟩ := hrel
   by_cases hlt : j < c.gs.length
   ·have ho : c.gs[j]? = some c.gs[j] := List.getElem?_eq_getElem hlt
    generalize c.gs[j] = g at ho
    obtain ⟨kg, t⟩ := g
    have HO := Lib.hid ho
    obtain ⟨bb, off, A', c', rfl, _, ht, q0, q1, q2, q3, q4⟩ := (H.out.gs.ext HX.out).at_ j kg t ho
    have HKT := fun W (x : Ext wr W) => Lib.hid (check_any t A' c' W D (TmIn.ext x ht) (HZ.out.g j kg t ho))
    unfold tmVal at HKT
    clear ho ht
    go_upto_region 7 with fail
    refine wp_abs (fun W => Hid (Ext wr W) ∧ Hid (Blk W wr.heap.size 42 #[.int .i64 kg, .int .i64 t.k, .int .i64 t.n, .string t.s, .slice A' t.l.length c'])) ⟨ext_box _ _, Blk.new _ _ _⟩ ?_
    rintro W ⟨HE, HU⟩
    have u9 := HU.out.cell
    have HKW := HKT W HE.out
    clear q0 q1 q2 q3 q4 HKT
    by_cases hz : chkT t = 0
    ·rw [hz] at HKW
     have HZ0 := Lib.hid hz
     clear hz
     go_wp2_with (go_at_call 118; refine HKW.out.mono ?_; rintro e W1 ⟨rfl, x1⟩; have X1 := Lib.hid (HX.out.trans (HE.out.trans x1)); have HB1 := Lib.hid (HB.out.ext (HE.out.trans x1)); clear x1)
     go_roundw
     case rel => exact ⟨j + 1, hlt, by go_num, X1, HB1, Lib.hid (fun i y hi hy => by
       rcases Nat.lt_succ_iff_lt_or_eq.1 hi with h | rfl
       ·exact HN.out i y h hy
       ·rw [HO.out] at hy
        injection hy with hy
        rw [← hy]
        exact HZ0.out)⟩
     case measure => simp [intOf]; omega
    ·have HR := Lib.hid (may_goal H0.out HN.out HO.out hz)
     have hz2 : (chkT t == 0) = false := by simpa using hz
     go_wp2_with (go_at_call 118; refine HKW.out.mono ?_; rintro e W1 ⟨rfl, x1⟩; have X1 := Lib.hid (HX.out.trans (HE.out.trans x1)); clear x1)
     go_ret
     exact ⟨by rw [HR.out]; rfl, X1.out⟩
   ·obtain rfl : j = c.gs.length := by omega
    have HR := Lib.hid (may_rest H0.out HN.out)
    have HC := Lib.hid (gContainsF c.gs gA gc D wr (H.out.gs.ext HX.out) hll)
    have z9 := HB.out.cell
    have hP : Hid (∀ (b : Bool), c.gs.any oddP = b → mayC c = if b = true ∨ c.h.k < 3 ∨ 64 < c.gs.length then 1 else 0) := Lib.hid (fun b hb => by rw [HR.out]; unfold mayR; rw [hb])
    have z0 : wr.cell? ⟨w.heap.size, 0, none⟩ = some (.int .i64 c.h.k) := HB.out.cell 0
    clear hj hlt
    cases hb : c.gs.any oddP with
    | true =>
     have HPB := Lib.hid ((hP.out _ hb).trans (if_pos (.inl rfl)))
     rw [hb] at HC
     clear hb hP
     go_wp2_with (go_at_call 119; refine HC.out.mono ?_; rintro e W1 ⟨rfl, x1⟩; have X1 := Lib.hid (HX.out.trans x1); have k9 := (HB.out.ext x1).cell; clear x1)
     go_ret
     exact ⟨by rw [HPB.out]; rfl, X1.out⟩
    | false =>
     rw [hb] at HC
     by_cases h3 : c.h.k < 3
     ·have HPB := Lib.hid ((hP.out _ hb).trans (if_pos (.inr (.inl h3))))
      have d3 : decide (c.h.k < 3) = true := decide_eq_true h3
      clear hb hP
      go_wp2_with (go_at_call 119; refine HC.out.mono ?_; rintro e W1 ⟨rfl, x1⟩; have X1 := Lib.hid (HX.out.trans x1); have k9 := (HB.out.ext x1).cell; clear x1)
      go_ret
      exact ⟨by rw [HPB.out]; rfl, X1.out⟩
     ·have d3 : decide (c.h.k < 3) = false := decide_eq_false h3
      by_cases h64 : 64 < c.gs.length
      ·have HPB := Lib.hid ((hP.out _ hb).trans (if_pos (.inr (.inr h64))))
       have d4 : decide ((c.gs.length : Int) > 64) = true := decide_eq_true (by omega)
       clear hb hP
       go_wp2_with (go_at_call 119; refine HC.out.mono ?_; rintro e W1 ⟨rfl, x1⟩; have X1 := Lib.hid (HX.out.trans x1); have k9 := (HB.out.ext x1).cell; clear x1)
       go_ret
       exact ⟨by rw [HPB.out]; rfl, X1.out⟩
      ·have HPB := Lib.hid ((hP.out _ hb).trans (if_neg (fun h => h.elim (fun h => Bool.noConfusion h) (fun h => h.elim h3 h64))))
       have d4 : decide ((c.gs.length : Int) > 64) = false := decide_eq_false (by omega)
       clear hb hP
       go_wp2_with (go_at_call 119; refine HC.out.mono ?_; rintro e W1 ⟨rfl, x1⟩; have X1 := Lib.hid (HX.out.trans x1); have k9 := (HB.out.ext x1).cell; clear x1)
       go_ret
       exact ⟨by rw [HPB.out]; rfl, X1.out⟩
end Go.Proofs.YtmnnhdegoapfcaaGreatDoor
