/- The reference of layer 16: the walk of Text. -/
import Derived.Test.YtmnnhdegoapfcaaGreatDoorQ11
import Derived.Deep.RegionLaw
import Derived.Test.YtmnnhdegoapfcaaGreatDoorQ07
import Derived.Test.YtmnnhdegoapfcaaGreatDoorQ04
import Derived.Test.YtmnnhdegoapfcaaGreatDoorQ01
import Derived.Test.YtmnnhdegoapfcaaGreatDoorQ02
import Derived.Lib.ItoaNum
namespace Go.Proofs.YtmnnhdegoapfcaaGreatDoor
open Go.RowKit Go.El
theorem str_out (a b : List UInt8) : Value.string (mkB a ++ ⟨#[32]⟩ ++ mkB b) = .string (mkB (a ++ ([32] ++ b))) := by
 rw [show (⟨#[32]⟩ : ByteArray) = strB [32] from rfl]
 show Value.string (strB a ++ strB [32] ++ strB b) = .string (strB _)
 rw [app_str, app_str, List.append_assoc]
theorem str_outA (a b : List UInt8) : Value.string (mkB a ++ ⟨#[32]⟩ ++ ⟨#[65]⟩ ++ mkB b) = .string (mkB (a ++ ([32] ++ (65 :: b)))) := by
 rw [show (⟨#[32]⟩ : ByteArray) = strB [32] from rfl, show (⟨#[65]⟩ : ByteArray) = strB [65] from rfl]
 show Value.string (strB a ++ strB [32] ++ strB [65] ++ strB b) = .string (strB _)
 rw [app_str, app_str, app_str]
 simp
theorem str_outF (a b c : List UInt8) {d : List UInt8} (hd : d = b ++ [47] ++ c) : Value.string (mkB a ++ ⟨#[32]⟩ ++ mkB b ++ ⟨#[47]⟩ ++ mkB c) = .string (mkB (a ++ ([32] ++ d))) := by
 subst hd
 rw [show (⟨#[32]⟩ : ByteArray) = strB [32] from rfl, show (⟨#[47]⟩ : ByteArray) = strB [47] from rfl]
 show Value.string (strB a ++ strB [32] ++ strB b ++ strB [47] ++ strB c) = .string (strB _)
 rw [app_str, app_str, app_str, app_str]
 simp
def cOf (c : UInt8) : Nat := if c = 118 then 1 else if c = 97 then 2 else if c = 115 then 8 else if c = 110 then 16 else if c = 101 then 128 else if c = 108 then 4 else if c = 102 then 32 else 64
def outT (i : Ins) (k : Nat) : List UInt8 := nameF i.op ++ ((formL i.op).take k).flatMap (fun c => 32 :: fldT i (cOf c))
theorem join_flat (n : List UInt8) (fs : List (List UInt8)) : Lib.join (n :: fs) [32] = n ++ fs.flatMap (fun f => 32 :: f) := by
 induction fs generalizing n with
 | nil => rw [join_one]; simp
 | cons f fs ih =>
  rw [join_cons, if_neg (by simp), ih f]
  simp
theorem form_fields : ∀ o ∈ List.range 31, (formL o).map cOf = ordF.filter (hasF o) ∧ (formL o).length ≤ 2 ∧ ∀ c ∈ formL o, c = 118 ∨ c = 97 ∨ c = 115 ∨ c = 110 ∨ c = 101 ∨ c = 108 ∨ c = 102 ∨ c = 112 := by decide +kernel
theorem out_all {i : Ins} (h : insMay i = true) : outT i (formL i.op).length = insT i := by
 obtain ⟨k, hk, h1, h3⟩ := may_op h
 obtain ⟨hf, _, _⟩ := form_fields k (by simp; omega)
 rw [← hk] at hf
 unfold outT insT
 rw [if_pos h, insTs_eq, join_flat, List.take_length]
 unfold fldL
 rw [← hf, List.map_map, List.flatMap_map]
 rfl
theorem out_step {i : Ins} {k : Nat} {c : UInt8} (hc : (formL i.op)[k]? = some c) : outT i (k + 1) = outT i k ++ ([32] ++ fldT i (cOf c)) := by
 unfold outT
 rw [List.take_add_one, hc]
 simp
theorem out_len {i : Ins} (h : insMay i = true) (k : Nat) : (outT i k).length ≤ 900 := by
 obtain ⟨o, ho, h1, h3⟩ := may_op h
 obtain ⟨_, hf, _⟩ := form_fields o (by simp; omega)
 obtain ⟨_, _, n3⟩ := name_ok o (by simp; omega)
 rw [← ho] at hf n3
 have key : ∀ l : List UInt8, (l.flatMap (fun c => 32 :: fldT i (cOf c))).length ≤ l.length * 401 := by
  intro l
  induction l with
  | nil => simp
  | cons c l ih =>
   have := fld_len h (cOf c)
   simp only [List.flatMap_cons, List.length_append, List.length_cons]
   omega
 have := key ((formL i.op).take k)
 have h2 := List.length_take_le' k (formL i.op)
 unfold outT
 rw [List.length_append]
 omega
set_option maxRecDepth 100000 in
set_option maxHeartbeats 1000000 in
theorem rText_no (i : Ins) (w : World) (h : insMay i = false) :
  Calls Tryz.prog 30 #[insVal i] w fun e w' => e = .returned (.string (mkB (insT i))) ∧ Ext w w' := by
 have hT : insT i = [] := by unfold insT; rw [h]; rfl
 rw [hT]
 have hx := ext_boxI w (.cells #[.int .i64 i.op, .string i.s, .int .i64 i.n, .int .i64 i.v, .int .i64 i.a] 25)
 have HM := Lib.hid (rMay_any i (w.alloc (.cells #[.int .i64 i.op, .string i.s, .int .i64 i.n, .int .i64 i.v, .int .i64 i.a] 25)))
 rw [h] at HM
 have hb := Blk.new w 25 #[.int .i64 i.op, .string i.s, .int .i64 i.n, .int .i64 i.v, .int .i64 i.a]
 have q0 := hb.cell 0
 have q1 := hb.cell 1
 have q2 := hb.cell 2
 have q3 := hb.cell 3
 have q4 := hb.cell 4
 have HX := Lib.hid hx
 unfold insVal at HM ⊢
 clear h hT hx hb
 go_enter Tryz.func30, Tryz.ntmps30
 go_wp2_with (go_at_call 72; refine HM.out.mono ?_; rintro e W1 ⟨rfl, x1⟩)
 go_ret
 exact ⟨rfl, HX.out.trans x1⟩
set_option maxRecDepth 100000 in
set_option maxHeartbeats 8000000 in
theorem rText_yes (i : Ins) (w : World) (h : insMay i = true) :
  Calls Tryz.prog 30 #[insVal i] w fun e w' => e = .returned (.string (mkB (insT i))) ∧ Ext w w' := by
 have hx := ext_boxI w (.cells #[.int .i64 i.op, .string i.s, .int .i64 i.n, .int .i64 i.v, .int .i64 i.a] 25)
 have HM := Lib.hid (rMay_any i (w.alloc (.cells #[.int .i64 i.op, .string i.s, .int .i64 i.n, .int .i64 i.v, .int .i64 i.a] 25)))
 rw [h] at HM
 obtain ⟨k0, hk0, hk1, hk2⟩ := may_op h
 have ho : 0 ≤ i.op ∧ i.op < 31 := by omega
 obtain ⟨_, hfl, hfc⟩ := form_fields k0 (by simp; omega)
 rw [← hk0] at hfl hfc
 have HALL := Lib.hid (out_all h)
 have hol := out_len h
 have hfd := fld_len h
 have hbd := may_bd h
 have hbl : i.s.data.toList.length = i.s.size := by simp
 have HN := fun W => Lib.hid (rName_any i.op W)
 have HF := fun W => Lib.hid (rForm_any i.op ho.1 ho.2 W)
 have HQ := fun W => Lib.hid (rQuote_any i.s.data.toList W (by omega))
 rw [strB_mk] at HQ
 have HIN := fun W => Lib.hid (refDigits_any i.n (by omega) (by omega) W)
 have HIA := fun W => Lib.hid (refDigits_any i.a (by omega) (by omega) W)
 have HRG := fun W => Lib.hid (rReg_any i.v W hbd.2.1.1 hbd.2.1.2)
 have HB := Lib.hid (show InsBlk (w.alloc (.cells #[.int .i64 i.op, .string i.s, .int .i64 i.n, .int .i64 i.v, .int .i64 i.a] 25)) w.heap.size i from Blk.new w _ _)
 have q0 := HB.out.c0
 have q1 := HB.out.c1
 have q2 := HB.out.c2
 have q3 := HB.out.c3
 have q4 := HB.out.c4
 have HX0 := Lib.hid hx
 have h00 : outT i 0 = nameF i.op := by unfold outT; simp
 have H00 := Lib.hid h00
 have hfsz := mkB_size (formL i.op)
 have s1 := quo_len i.s.data.toList
 have s2 := Lib.itoa_length_le i.n (by omega) (by omega)
 have s3 := Lib.itoa_length_le i.a (by omega) (by omega)
 have s4 := hfd 1
 rw [f1T] at s4
 have z1 := strB_size (quoF i.s.data.toList)
 have z2 := strB_size (Lib.itoa i.n)
 have z3 := strB_size (Lib.itoa i.a)
 have z4 : (mkB (regT i.v)).size ≤ 400 := by rw [mkB_size]; exact s4
 have b1 : (strB (Lib.itoa i.a)).size ≤ 400 := by omega
 have b2 : (strB (Lib.itoa i.n)).size ≤ 400 := by omega
 have b3 : (strB (quoF i.s.data.toList)).size ≤ 400 := by omega
 clear s1 s2 s3 s4 z1 z2 z3 hbd hbl ho hk0 hk1 hk2 hx h h00
 unfold insVal at HM ⊢
 go_enter Tryz.func30, Tryz.ntmps30
 go_upto_region 3 with (go_at_call 72; refine HM.out.mono ?_; rintro e W1 ⟨rfl, x1⟩; have HX1 := Lib.hid (HX0.out.trans x1); have HB1 := Lib.hid (HB.out.ext x1); clear x1)
 have p0 := HB1.out.c0
 go_upto_region 4 with (go_at_call 14; refine (HN _).out.mono ?_; rintro e W2 ⟨rfl, x1⟩; have HX2 := Lib.hid (HX1.out.trans x1); have HB2 := Lib.hid (HB1.out.ext x1); clear x1)
 clear q0 q1 q2 q3 q4 p0
 have p0 := HB2.out.c0
 go_upto_region 5 with (go_at_call 73; refine (HF _).out.mono ?_; rintro e W3 ⟨rfl, x1⟩; have HX := Lib.hid (HX2.out.trans x1); have HI := Lib.hid (HB2.out.ext x1); clear x1)
 clear p0 HX0 HX1 HX2 HB HB1 HB2 HM HN HF
 rw [← H00.out]
 have hidx : ∀ (k : Nat) (hk : k < (mkB (formL i.op)).size), (mkB (formL i.op))[k]'hk = (formL i.op)[k]'(by rw [← hfsz]; exact hk) := fun k hk => by simp [mkB]; rfl
 have HIDX := Lib.hid hidx
 clear hidx
 go_wp2_with fail
 go_loopw [3, 5] (fun out ix wr => ∃ k : Nat, k ≤ (formL i.op).length ∧ out = .string (mkB (outT i k)) ∧ ix = .int .i64 k ∧ Hid (Ext w wr) ∧ Hid (InsBlk wr w.heap.size i)) (fun _ ix _ => (formL i.op).length - (intOf ix).toNat)
 case atStart => exact ⟨0, Nat.zero_le _, rfl, rfl, HX, HI⟩
 case round =>
  clear HX HI
  obtain ⟨k, hk, rfl, rfl, HX, HI⟩ := hrel
  by_cases hlt : k < (formL i.op).length
  ·have hk8 : (k : Int) < ((formL i.op).length : Int) := by omega
   obtain ⟨c, hce⟩ : ∃ c, c = (formL i.op)[k] := ⟨_, rfl⟩
   have hc := hfc (formL i.op)[k] (List.getElem_mem hlt)
   have hst := out_step (i := i) (List.getElem?_eq_getElem hlt)
   rw [← hce] at hc hst
   have hix : ∀ hq : k < (mkB (formL i.op)).size, (mkB (formL i.op))[k]'hq = c := fun hq => by rw [hce]; exact HIDX.out k hq
   clear hce
   have y1 : wr.cell? ⟨w.heap.size, 1, none⟩ = some (.string i.s) := HI.out.c1
   have y2 : wr.cell? ⟨w.heap.size, 2, none⟩ = some (.int .i64 i.n) := HI.out.c2
   have y3 : wr.cell? ⟨w.heap.size, 3, none⟩ = some (.int .i64 i.v) := HI.out.c3
   have y4 : wr.cell? ⟨w.heap.size, 4, none⟩ = some (.int .i64 i.a) := HI.out.c4
   have ol := hol k
   have osz := mkB_size (outT i k)
   have HST := Lib.hid hst
   clear hst hfc hol hfd
   have r1 : ¬ 9223372036854775807 < (outT i k).length + 1 := by omega
   rcases hc with rfl | rfl | rfl | rfl | rfl | rfl | rfl | rfl
   ·have r2 : ¬ 9223372036854775807 < (outT i k).length + 1 + (mkB (regT i.v)).size := by omega
    go_wp2_with (go_at_call 74; refine (HRG _).out.mono ?_; rintro e W4 ⟨rfl, rfl⟩)
    go_roundw
    case rel => exact ⟨k + 1, hlt, by rw [HST.out]; exact str_out _ _, by go_num, HX, HI⟩
    case measure => simp [intOf]; omega
   ·have r2 : ¬ 9223372036854775807 < (outT i k).length + 1 + 1 + (strB (Lib.itoa i.a)).size := by omega
    have r3 : ¬ 9223372036854775807 < (outT i k).length + 1 + 1 := by omega
    have r4 : ¬ 9223372036854775807 < (outT i k).length + 1 + 1 + (strB (Lib.itoa i.a)).size := by omega
    go_wp2_with (go_at_call 75; refine (HIA _).out.mono ?_; rintro e W4 ⟨rfl, rfl⟩)
    go_roundw
    case rel => exact ⟨k + 1, hlt, by rw [HST.out]; exact str_outA _ _, by go_num, HX, HI⟩
    case measure => simp [intOf]; omega
   ·have r2 : ¬ 9223372036854775807 < (outT i k).length + 1 + (strB (quoF i.s.data.toList)).size := by omega
    go_wp2_with (go_at_call 76; refine (HQ _).out.mono ?_; rintro e W4 ⟨rfl, hx⟩; have HX4 := Lib.hid (HX.out.trans hx); have HI4 := Lib.hid (HI.out.ext hx); clear hx)
    go_roundw
    case rel => exact ⟨k + 1, hlt, by rw [HST.out]; exact str_out _ _, by go_num, HX4, HI4⟩
    case measure => simp [intOf]; omega
   ·have r2 : ¬ 9223372036854775807 < (outT i k).length + 1 + (strB (Lib.itoa i.n)).size := by omega
    go_wp2_with (go_at_call 75; refine (HIN _).out.mono ?_; rintro e W4 ⟨rfl, rfl⟩)
    go_roundw
    case rel => exact ⟨k + 1, hlt, by rw [HST.out]; exact str_out _ _, by go_num, HX, HI⟩
    case measure => simp [intOf]; omega
   ·have r2 : ¬ 9223372036854775807 < (outT i k).length + 1 + (strB (Lib.itoa i.n)).size := by omega
    go_wp2_with (go_at_call 75; refine (HIN _).out.mono ?_; rintro e W4 ⟨rfl, rfl⟩)
    go_roundw
    case rel => exact ⟨k + 1, hlt, by rw [HST.out]; exact str_out _ _, by go_num, HX, HI⟩
    case measure => simp [intOf]; omega
   ·have r2 : ¬ 9223372036854775807 < (outT i k).length + 1 + (strB (Lib.itoa i.a)).size := by omega
    go_wp2_with (go_at_call 75; refine (HIA _).out.mono ?_; rintro e W4 ⟨rfl, rfl⟩)
    go_roundw
    case rel => exact ⟨k + 1, hlt, by rw [HST.out]; exact str_out _ _, by go_num, HX, HI⟩
    case measure => simp [intOf]; omega
   ·have r2 : ¬ 9223372036854775807 < (outT i k).length + 1 + (strB (quoF i.s.data.toList)).size := by omega
    have r3 : ¬ 9223372036854775807 < (outT i k).length + 1 + (strB (quoF i.s.data.toList)).size + 1 := by omega
    have r4 : ¬ 9223372036854775807 < (outT i k).length + 1 + (strB (quoF i.s.data.toList)).size + 1 + (strB (Lib.itoa i.n)).size := by omega
    go_upto_region 10 with fail
    go_region_law ((first | (go_simp; go_at_call 76; refine (HQ _).out.mono ?_; rintro e V2 ⟨rfl, hx⟩; have HX4 := Lib.hid (HX.out.drew.trans hx); have HI4 := Lib.hid (HI.out.ext ((Ext.refl _).drew.trans hx)); have u2 := HI4.out.c2; clear hx) | (go_simp; go_at_call 75; refine (HIN _).out.mono ?_; rintro e V3 ⟨rfl, rfl⟩)))
    all_goals
     go_wp2_with fail
     go_roundw
     case rel => exact ⟨k + 1, hlt, by rw [HST.out]; exact str_outF _ _ _ rfl, by go_num, HX4, HI4⟩
     case measure => simp [intOf]; omega
   ·have r2 : ¬ 9223372036854775807 < (outT i k).length + 1 + (strB (quoF i.s.data.toList)).size := by omega
    have r3 : ¬ 9223372036854775807 < (outT i k).length + 1 + (strB (quoF i.s.data.toList)).size + 1 := by omega
    have r4 : ¬ 9223372036854775807 < (outT i k).length + 1 + (strB (quoF i.s.data.toList)).size + 1 + (strB (Lib.itoa i.n)).size := by omega
    go_upto_region 10 with fail
    go_region_law ((first | (go_simp; go_at_call 76; refine (HQ _).out.mono ?_; rintro e V2 ⟨rfl, hx⟩; have HX4 := Lib.hid (HX.out.drew.trans hx); have HI4 := Lib.hid (HI.out.ext ((Ext.refl _).drew.trans hx)); have u2 := HI4.out.c2; clear hx) | (go_simp; go_at_call 75; refine (HIN _).out.mono ?_; rintro e V3 ⟨rfl, rfl⟩)))
    all_goals
     go_wp2_with fail
     go_roundw
     case rel => exact ⟨k + 1, hlt, by rw [HST.out]; exact str_outF _ _ _ rfl, by go_num, HX4, HI4⟩
     case measure => simp [intOf]; omega
  ·obtain rfl : k = (formL i.op).length := by omega
   clear hfc hol hfd
   go_wp2_with fail
   go_ret
   exact ⟨by rw [← HALL.out]; rfl, HX.out⟩
theorem rText_any (i : Ins) (w : World) :
  Calls Tryz.prog 30 #[insVal i] w fun e w' => e = .returned (.string (mkB (insT i))) ∧ Ext w w' := by
 cases h : insMay i
 ·exact rText_no i w h
 ·exact rText_yes i w h
end Go.Proofs.YtmnnhdegoapfcaaGreatDoor

/- Layer 17: the walks of Listing, the program's and the reference's. -/
namespace Go.El
open Go.Proofs.YtmnnhdegoapfcaaGreatDoor
def listS (L : List Ins) : List UInt8 := L.flatMap fun i => insT i ++ [10]
theorem text_len0 (i : Ins) : (insT i).length ≤ 3700 := by
 cases h : insMay i
 ·have : insT i = [] := by unfold insT; rw [h]; rfl
  rw [this]
  simp
 ·exact text_len h
theorem listS_take {L : List Ins} {j : Nat} {i : Ins} (h : L[j]? = some i) : listS (L.take (j + 1)) = listS (L.take j) ++ (insT i ++ [10]) := by
 obtain ⟨hj, he⟩ := List.getElem?_eq_some_iff.1 h
 unfold listS
 rw [List.take_succ_eq_append_getElem hj, he, List.flatMap_append]
 simp
theorem listS_len : ∀ L : List Ins, (listS L).length ≤ 3701 * L.length
 | [] => by simp [listS]
 | i :: L => by
  have h1 := listS_len L
  have h2 := text_len0 i
  unfold listS at h1 ⊢
  simp only [List.flatMap_cons, List.length_append, List.length_cons, List.length_nil]
  omega
theorem str_add (l : List UInt8) : mkB l ++ ⟨#[10]⟩ = mkB (l ++ [10]) := by
 have h : (mkB l ++ (⟨#[10]⟩ : ByteArray)).data = (mkB (l ++ [10])).data := by
  rw [ByteArray.data_append]
  simp [mkB]
 exact ByteArray.ext h
theorem str_add2 (l m : List UInt8) : mkB l ++ mkB m = mkB (l ++ m) := by
 have h : (mkB l ++ mkB m).data = (mkB (l ++ m)).data := by
  rw [ByteArray.data_append]
  simp [mkB]
 exact ByteArray.ext h
theorem cells_add (F l : List UInt8) : Lib.byteCells F ++ Lib.strCells (mkB l ++ ⟨#[10]⟩) = Lib.byteCells (F ++ (l ++ [10])) := by
 rw [str_add]
 unfold Lib.byteCells Lib.strCells
 simp [mkB]
theorem byteCells_len (F : List UInt8) : (Lib.byteCells F).length = F.length := by simp [Lib.byteCells]
theorem mkB_sz (l : List UInt8) : (mkB l).size = l.length := by simp [mkB, ByteArray.size]
end Go.El
namespace Go.Proofs.YtmnnhdegoapfcaaGreatDoor
open Go.RowKit Go.El
theorem bd_ext {B b : Nat} {bs : List Value} {w w' : World} (h : Lib.IsBuilder 63 5 B b bs w) (x : Ext w w') : Lib.IsBuilder 63 5 B b bs w' := by
 rcases h with ⟨h1, v, h2, h3, h4⟩ | ⟨h1, v, h2, h3, h4⟩
 ·exact .inl ⟨h1, v, x.heap h2, own_ext h3 x, h4⟩
 ·exact .inr ⟨h1, v, x.heap h2, own_ext h3 x, h4⟩
set_option maxRecDepth 100000 in
set_option maxHeartbeats 4000000 in
theorem eList_any (L : List Ins) (A : Option Addr) (c : Nat) (w : World) (h : El.Src w A L.length 5 (flat insCells L)) (hl : L.length ≤ 1000) (he : EnvT w) :
  Calls Tryz.prog 9 #[.slice A L.length c] w fun e w' => e = .returned (.string (mkB (listS L))) ∧ Ext w w' := by
 have H := Lib.hid h
 have HE := Lib.hid he
 have HB0 := Lib.hid (show Lib.IsBuilder 63 5 w.heap.size w.heap.size [] (w.alloc (.cells #[.pointer none, .slice none 0 0] 63)) from .inl ⟨Nat.le_refl _, .slice none 0 0, Blk.new _ _ _, World.ownsRow_nil _ _ _ _, by simp [Value.ownBlock]⟩)
 have HX0 := Lib.hid (ext_boxI w (.cells #[.pointer none, .slice none 0 0] 63))
 clear h he
 go_enter Tryz.func9, Tryz.ntmps9
 go_wp2_with fail
 go_loopw [8] (fun iv wr => ∃ j : Nat, j ≤ L.length ∧ iv = .int .i64 j ∧ Hid (Lib.IsBuilder 63 5 w.heap.size w.heap.size (Lib.byteCells (listS (L.take j))) wr) ∧ Hid (Ext w wr)) (fun iv _ => L.length - (intOf iv).toNat)
 case atStart => exact ⟨0, Nat.zero_le _, rfl, HB0, HX0⟩
 case round =>
  clear HB0 HX0
  obtain ⟨j, hj, rfl, HB, HX⟩ := hrel
  have hws := HX.out.size
  by_cases hlt : j < L.length
  ·have ho : L[j]? = some L[j] := List.getElem?_eq_getElem hlt
   obtain ⟨b, off, hA, d0, d1, d2, d3, d4⟩ := src_ins (H.out.ext HX.out) hlt
   have HTK := Lib.hid (listS_take ho)
   have hln := listS_len (L.take j)
   have hlt2 : (L.take j).length ≤ 1000 := by rw [List.length_take]; omega
   generalize L[j] = i at *
   have htl := text_len0 i
   have hsz : (mkB (insT i)).size ≤ 3700 := by rw [mkB_sz]; exact htl
   have hbl : (Lib.byteCells (listS (L.take j))).length ≤ 4000000 := by rw [byteCells_len]; omega
   have HTX := fun (W : World) (x : Ext w W) => Lib.hid (text_any i W (HE.out.ext x))
   unfold insVal at HTX
   generalize listS (L.take j) = F at *
   have HS := Lib.hid (cells_add F (insT i))
   generalize mkB (insT i) = T at *
   have hts : (T ++ (⟨#[10]⟩ : ByteArray)).size = T.size + 1 := by rw [ByteArray.size_append]; rfl
   clear ho hln htl
   subst hA
   go_wp2_with (first
    | (go_at_call 28; refine (HTX _ (HX.out.alloc _)).out.mono ?_; rintro e W3 ⟨rfl, x⟩; have X3 := Lib.hid ((HX.out.alloc _).trans x); have B3 := Lib.hid (bd_ext HB.out (((Ext.refl _).alloc _).trans x)); have hs3 := X3.out.size; clear x)
    | (go_at_call 27; refine (Tryz.Builder_WriteString w.heap.size _ _ _ _ B3.out (by rw [hts]; omega) hs3).mono ?_; rintro e W4 ⟨rfl, hb, hx⟩; have B4 := Lib.hid (show Lib.IsBuilder 63 5 w.heap.size w.heap.size _ W4 from .inr hb); have X4 := Lib.hid (Below.trans X3.out hx); clear hb hx))
   go_roundw
   case rel => exact ⟨j + 1, hlt, by go_num, by rw [HTK.out, ← HS.out]; exact B4, X4⟩
   case measure => simp [intOf]; omega
  ·obtain rfl : j = L.length := by omega
   rw [List.take_length] at HB
   go_wp2_with (go_at_call 29; refine (Tryz.Builder_String_any w.heap.size _ _ _ HB.out hws).mono ?_; rintro e w6 ⟨rfl, hx⟩; have HX6 := Lib.hid (Below.trans HX.out hx); clear hx)
   go_ret
   exact ⟨rfl, HX6.out⟩
set_option maxRecDepth 100000 in
set_option maxHeartbeats 4000000 in
theorem rList_any (L : List Ins) (A : Option Addr) (c : Nat) (w : World) (h : El.Src w A L.length 5 (flat insCells L)) (hl : L.length ≤ 1000) :
  Calls Tryz.prog 10 #[.slice A L.length c] w fun e w' => e = .returned (.string (mkB (listS L))) ∧ Ext w w' := by
 have H := Lib.hid h
 clear h
 go_enter Tryz.func10, Tryz.ntmps10
 go_wp2_with fail
 go_loopw [3, 4] (fun sv iv wr => ∃ j : Nat, j ≤ L.length ∧ iv = .int .i64 j ∧ sv = .string (mkB (listS (L.take j))) ∧ Hid (Ext w wr)) (fun _ iv _ => L.length - (intOf iv).toNat)
 case atStart => exact ⟨0, Nat.zero_le _, rfl, rfl, Lib.hid (Ext.refl _)⟩
 case round =>
  obtain ⟨j, hj, rfl, rfl, HX⟩ := hrel
  by_cases hlt : j < L.length
  ·have ho : L[j]? = some L[j] := List.getElem?_eq_getElem hlt
   obtain ⟨b, off, hA, d0, d1, d2, d3, d4⟩ := src_ins (H.out.ext HX.out) hlt
   have HTK := Lib.hid (listS_take ho)
   have hln := listS_len (L.take j)
   have hlt2 : (L.take j).length ≤ 1000 := by rw [List.length_take]; omega
   generalize L[j] = i at *
   have htl := text_len0 i
   have hsz : (mkB (insT i)).size ≤ 3700 := by rw [mkB_sz]; exact htl
   have hfz : (mkB (listS (L.take j))).size ≤ 4000000 := by rw [mkB_sz]; omega
   have HTX := fun (W : World) => Lib.hid (rText_any i W)
   unfold insVal at HTX
   have HS : Hid (mkB (listS (L.take j)) ++ mkB (insT i) ++ ⟨#[10]⟩ = mkB (listS (L.take (j + 1)))) := Lib.hid (by rw [str_add2, str_add, HTK.out, List.append_assoc])
   generalize mkB (listS (L.take j)) = F at *
   generalize mkB (insT i) = T at *
   have hts : (F ++ T).size = F.size + T.size := ByteArray.size_append
   clear ho hln htl HTK
   subst hA
   go_wp2_with (go_at_call 30; refine (HTX _).out.mono ?_; rintro e W3 ⟨rfl, x⟩; have X3 := Lib.hid (HX.out.trans x); clear x)
   go_roundw
   case rel => exact ⟨j + 1, hlt, by go_num, by rw [HS.out], X3⟩
   case measure => simp [intOf]; omega
  ·obtain rfl : j = L.length := by omega
   rw [List.take_length]
   go_wp2_with fail
   go_ret
   exact ⟨rfl, HX.out⟩
end Go.Proofs.YtmnnhdegoapfcaaGreatDoor

/- Maps in memory: 'MapAt kv d w m ps': block m is a map whose entries are ps, in their order. The operations, as equations and in the walk's form. Over any program. -/
namespace Go.El
open Go.RowKit Go.MapKept
section
variable {α : Type}
def findP [DecidableEq α] (k : α) : List (α × Value) → Option Value
 | [] => none
 | p :: ps => if p.1 = k then some p.2 else findP k ps
def setP [DecidableEq α] (k : α) (v : Value) : List (α × Value) → List (α × Value)
 | [] => [(k, v)]
 | p :: ps => if p.1 = k then (k, v) :: ps else p :: setP k v ps
def delP [DecidableEq α] (k : α) : List (α × Value) → List (α × Value)
 | [] => []
 | p :: ps => if p.1 = k then ps else p :: delP k ps
structure KeyKind (kv : α → Value) (d : TypeDesc) : Prop where
 key : ∀ a, IsKey d (kv a)
 inj : ∀ a b, kv a = kv b → a = b
theorem intKind (k : IntKind) : KeyKind (Value.int k) (.int k) := ⟨fun _ => rfl, fun a b h => by injection h⟩
def MapAt (kv : α → Value) (w : World) (m : Nat) (ps : List (α × Value)) : Prop :=
 ∃ es clock, w.heap[m]? = some (.map es clock) ∧ Stamped es clock ∧ es.toList.map (fun e => (e.key, e.val)) = ps.map (fun p => (kv p.1, p.2))
variable {kv : α → Value} {d : TypeDesc} {w w' : World} {m : Nat} {ps : List (α × Value)}
theorem MapAt.lt (h : MapAt kv w m ps) : m < w.heap.size := by obtain ⟨es, c, hb, _⟩ := h; exact heap_lt hb
theorem MapAt.ext (h : MapAt kv w m ps) (he : Ext w w') : MapAt kv w' m ps := by obtain ⟨es, c, hb, r⟩ := h; exact ⟨es, c, he.heap hb, r⟩
theorem MapAt.mods {S : List Nat} (h : MapAt kv w m ps) (he : Mods S w w') (hS : m ∉ S) : MapAt kv w' m ps := by obtain ⟨es, c, hb, r⟩ := h; exact ⟨es, c, he.heap hb hS, r⟩
theorem MapAt.ne_cell (h : MapAt kv w m ps) {p : Addr} {v : Value} (hc : w.cell? p = some v) : p.block ≠ m := by
 rintro rfl
 obtain ⟨es, c, hb, _⟩ := h
 simp [World.cell?, hb] at hc
theorem MapAt.new (kv : α → Value) (w : World) : MapAt kv (w.alloc (.map #[] 0)) w.heap.size [] := ⟨#[], 0, (MapKept.heap_alloc w _).1, stamped_empty 0, by simp⟩
theorem MapAt.setCell (h : MapAt kv w m ps) (p : Addr) (u : Value) : MapAt kv (w.setCell p u) m ps := by
 obtain ⟨es, c, hb, r⟩ := h
 refine ⟨es, c, ?_, r⟩
 by_cases e : m = p.block
 ·subst e; simp [World.setCell, Array.getElem?_modify, hb]
 ·exact (Below.heap_setCell w p u m e).trans hb
theorem findNow_find [DecidableEq α] (K : KeyKind kv d) (k : α) : ∀ (l : List MapEntry) (ps : List (α × Value)) (i : Nat), l.map (fun e => (e.key, e.val)) = ps.map (fun p => (kv p.1, p.2)) →
  (findP k ps = none ∧ Instr.findNow d (kv k) l i = some none ∧ (∀ x ∈ l, x.key ≠ kv k) ∧ delP k ps = ps ∧ ∀ v, setP k v ps = ps ++ [(k, v)]) ∨
  ∃ j v, findP k ps = some v ∧ Instr.findNow d (kv k) l i = some (some (i + j, v)) ∧ (∃ e, l[j]? = some e ∧ e.key = kv k ∧ e.val = v) ∧ delP k ps = ps.eraseIdx j ∧ ∀ v, setP k v ps = ps.set j (k, v)
 | [], [], _, _ => .inl ⟨rfl, rfl, by simp, rfl, fun _ => rfl⟩
 | [], p :: ps, _, h => by simp at h
 | e :: es, [], _, h => by simp at h
 | e :: es, p :: ps, i, h => by
  simp only [List.map_cons, List.cons.injEq, Prod.mk.injEq] at h
  obtain ⟨⟨hk, hv⟩, ht⟩ := h
  obtain ⟨r, hr, hiff⟩ := sameNow_of_keys (K.key k) (by rw [hk]; exact K.key p.1 : IsKey d e.key)
  by_cases hpk : p.1 = k
  ·have hr' : r = true := hiff.2 (by rw [hk, hpk])
   subst hr'
   exact .inr ⟨0, p.2, by simp [findP, hpk], by simp [Instr.findNow, hr, hv], ⟨e, rfl, by rw [hk, hpk], hv⟩, by simp [delP, hpk], fun v => by simp [setP, hpk]⟩
  ·have hr' : r = false := by
    cases r with
    | false => rfl
    | true => exact absurd (K.inj _ _ (by rw [← hk]; exact (hiff.1 rfl).symm)) hpk
   subst hr'
   have hne : e.key ≠ kv k := fun q => hpk (K.inj _ _ (by rw [← hk]; exact q))
   rcases findNow_find K k es ps (i + 1) ht with ⟨h1, h2, h3, h4, h5⟩ | ⟨j, v, h1, h2, ⟨e', h3, h4, h5⟩, h6, h7⟩
   ·exact .inl ⟨by simp [findP, hpk, h1], by simp [Instr.findNow, hr, h2], fun x hx => by
     cases hx with
     | head => exact hne
     | tail _ hx => exact h3 x hx, by simp [delP, hpk, h4], fun v => by simp [setP, hpk, h5]⟩
   ·exact .inr ⟨j + 1, v, by simp [findP, hpk, h1], by simp [Instr.findNow, hr, h2]; omega, ⟨e', by simpa using h3, h4, h5⟩, by simp [delP, hpk, h6], fun v => by simp [setP, hpk, h7]⟩
variable {P : Program} {mty kt et : TypeId}
theorem MapAt.run_lookup [DecidableEq α] (h : MapAt kv w m ps) (K : KeyKind kv d) (hm : P.underlying mty = some (.map kt et)) (hd : P.underlying kt = some d) {z : Value} (hz : (zeroValue et).run P w = .ok z w) (k : α) (ok : Bool) :
  (Instr.lookup mty (.map (some m)) (kv k) ok).run P w = .ok (if ok then .tuple #[(findP k ps).getD z, .bool (findP k ps).isSome] else (findP k ps).getD z) w := by
 obtain ⟨es, c, hb, _, hes⟩ := h
 rcases findNow_find K k es.toList ps 0 hes with ⟨h1, h2, _⟩ | ⟨j, v, h1, h2, _⟩
 ·simp [Instr.lookup, run_underlying hm, MapKept.run_getObj_map hb, run_checkKey hd (K.key k), run_findKey hd h2, Result.andThen, hz, h1]
 ·simp [Instr.lookup, run_underlying hm, MapKept.run_getObj_map hb, run_checkKey hd (K.key k), run_findKey hd h2, Result.andThen, h1]
theorem mods_setHeap {w : World} {r : Nat} {o o' : Obj} (_hb : w.heap[r]? = some o) : Mods [r] w { w with heap := w.heap.setIfInBounds r o' } :=
 ⟨rfl, rfl, rfl, by simp, fun k _ hS => by
  have : k ≠ r := fun e => hS (by simp [e])
  simp [Ne.symm this]⟩
theorem MapAt.run_update [DecidableEq α] (h : MapAt kv w m ps) (K : KeyKind kv d) (hm : P.underlying mty = some (.map kt et)) (hd : P.underlying kt = some d) (k : α) (v : Value) :
  ∃ w', (Instr.mapUpdate mty (.map (some m)) (kv k) v).run P w = .ok () w' ∧ MapAt kv w' m (setP k v ps) ∧ Mods [m] w w' ∧ w'.heap.size = w.heap.size := by
 obtain ⟨es, c, hb, hs, hes⟩ := h
 rcases findNow_find K k es.toList ps 0 hes with ⟨h1, h2, h3, _, h5⟩ | ⟨j, v', h1, h2, ⟨e, h3, h4, h6⟩, _, h5⟩
 ·refine ⟨_, by simp [Instr.mapUpdate, run_underlying hm, MapKept.run_getObj_map hb, run_checkKey hd (K.key k), run_findKey hd h2, MapKept.run_setObj_map _ hb, Result.andThen]; rfl, ?_, mods_setHeap hb, by simp⟩
  exact ⟨_, _, (heap_set hb).1, stamped_push hs h3, by simp [h5, hes]⟩
 ·have hj : es[j]? = some e := by simpa using h3
  refine ⟨_, by simp [Instr.mapUpdate, run_underlying hm, MapKept.run_getObj_map hb, run_checkKey hd (K.key k), run_findKey hd h2, hj, h4, run_keyThatStays (K.key k), MapKept.run_setObj_map _ hb, Result.andThen]; rfl, ?_, mods_setHeap hb, by simp⟩
  refine ⟨_, _, (heap_set hb).1, stamped_modify hs _ _ (fun _ _ => rfl) (fun e' _ he' => by rw [hj] at he'; cases he'; exact h4.symm), ?_⟩
  rw [h5]
  apply List.ext_getElem?
  intro i
  have hi := congrArg (fun l => l[i]?) hes
  simp only [List.getElem?_map, Array.getElem?_toList] at hi
  simp only [List.getElem?_map, Array.getElem?_toList, Array.getElem?_modify, List.getElem?_set]
  by_cases hij : j = i
  ·subst hij
   have hlt : j < ps.length := by
    rw [hj] at hi
    rcases Nat.lt_or_ge j ps.length with h | h
    ·exact h
    ·simp [List.getElem?_eq_none h] at hi
   simp [hj, hlt]
  ·simp only [hij, if_false]
   exact hi
theorem wpList_mapUpdate_at [DecidableEq α] (w : World) {ops : Array Oper} {rest : List Oper} {o : Oper} {a : Act} {Q : Exit → Act → World → Prop}
  (hg : o.guard = none) (mo xo vo : Operand) (t : TypeId) (hop : o.op = Op.mapUpdate t mo xo vo) (K : KeyKind kv d) (ht : P.underlying t = some (.map kt et)) (hd : P.underlying kt = some d)
  (hm : a.eval mo = .map (some m)) (hown : MapAt kv w m ps) (k : α) (v : Value) (hx : a.eval xo = kv k) (hv : a.eval vo = v)
  (hK : ∀ w', MapAt kv w' m (setP k v ps) → Mods [m] w w' → w'.heap.size = w.heap.size → wpList P ops Q rest (a.put o.dst undef) w') :
  wpList P ops Q (o :: rest) a w := by
 refine wpList_plain hg fun K' hK' => ?_
 obtain ⟨w', hrun, r1, r2, r3⟩ := hown.run_update K ht hd k v
 unfold Oper.wp
 simp [execOp, hop, hm, hx, hv, hrun, Result.andThen]
 exact hK' _ _ (hK w' r1 r2 r3)
end
end Go.El

/- Layer 9 (oper): operators as data, and what the calls compute, as plain functions. No program in sight. -/
namespace Go.El
open Go.RowKit
theorem wpList_lookup_at {α : Type} [DecidableEq α] {kv : α → Value} {d : TypeDesc} {P : Program} {mty kt et : TypeId} (w : World) {ops : Array Oper} {rest : List Oper} {o : Oper} {a : Act} {Q : Exit → Act → World → Prop}
  (hg : o.guard = none) (mo xo : Operand) (ok : Bool) (hop : o.op = Op.lookup mty mo xo ok) (K : KeyKind kv d) (ht : P.underlying mty = some (.map kt et)) (hd : P.underlying kt = some d)
  (m : Nat) (hm : a.eval mo = .map (some m)) (k : α) (hx : a.eval xo = kv k) (z : Value) (hz : ∀ W, (zeroValue et).run P W = .ok z W) (ps : List (α × Value)) (hown : MapAt kv w m ps)
  (hK : wpList P ops Q rest (a.put o.dst (if ok then .tuple #[(findP k ps).getD z, .bool (findP k ps).isSome] else (findP k ps).getD z)) w) :
  wpList P ops Q (o :: rest) a w := by
 refine wpList_plain hg fun K' hK' => ?_
 have hrun := hown.run_lookup K ht hd (hz w) k ok
 unfold Oper.wp
 simp [execOp, hop, hm, hx, hrun, Result.andThen]
 exact hK' _ _ hK
end Go.El

/- Layers 6 and 11, plain: terms, whether they may be, and their texts. No program in sight. -/
namespace Go.El
inductive Tm where
 | mk (k n : Int) (s : ByteArray) (l : List Tm)
def Tm.k : Tm → Int | .mk k _ _ _ => k
def Tm.n : Tm → Int | .mk _ n _ _ => n
def Tm.s : Tm → ByteArray | .mk _ _ s _ => s
def Tm.l : Tm → List Tm | .mk _ _ _ l => l
mutual
def szT : Tm → Nat
 | .mk _ _ _ l => 1 + szL l
def szL : List Tm → Nat
 | [] => 0
 | t :: r => szT t + szL r
end
mutual
def dpT : Tm → Nat
 | .mk _ _ _ l => 1 + dpL l
def dpL : List Tm → Nat
 | [] => 0
 | t :: r => max (dpT t) (dpL r)
end
def partK (k n : Int) (s : ByteArray) (m : Nat) : Bool :=
 if k = 1 then decide (0 ≤ n ∧ n < 1073741824 ∧ s.size = 0 ∧ m = 0)
 else if k = 2 then decide (-9007199254740991 ≤ n ∧ n ≤ 9007199254740991 ∧ s.size = 0 ∧ m = 0)
 else if k = 3 then decide (n = 0 ∧ s.size ≤ 64 ∧ m = 0)
 else if k = 4 then decide (n = 0 ∧ s.size ≤ 64 ∧ 1 ≤ m ∧ m ≤ 16)
 else false
mutual
def okT : Tm → Bool
 | .mk k n s l => partK k n s l.length && okL l
def okL : List Tm → Bool
 | [] => true
 | t :: r => okT t && okL r
end
def chkT (t : Tm) : Int := if okT t = false then 60 else if 200 < dpT t then 61 else if 4096 < szT t then 62 else 0
theorem szT_pos (t : Tm) : 1 ≤ szT t := by cases t; simp [szT]
theorem dpT_pos (t : Tm) : 1 ≤ dpT t := by cases t; simp [dpT]
theorem szL_get : ∀ {l : List Tm} {j : Nat} {t : Tm}, l[j]? = some t → szT t ≤ szL l
 | [], j, t, h => by simp at h
 | a :: r, 0, t, h => by
  simp at h
  subst h
  simp [szL]
 | a :: r, j + 1, t, h => by
  have := szL_get (l := r) (j := j) (t := t) (by simpa using h)
  simp only [szL]
  omega
theorem szL_take : ∀ {l : List Tm} {j : Nat} {t : Tm}, l[j]? = some t → szL (l.take (j + 1)) = szL (l.take j) + szT t
 | [], j, t, h => by simp at h
 | a :: r, 0, t, h => by
  simp at h
  subst h
  simp [szL]
 | a :: r, j + 1, t, h => by
  have := szL_take (l := r) (j := j) (t := t) (by simpa using h)
  simp only [List.take_succ_cons, szL]
  rw [this]
  omega
theorem szL_take_le : ∀ (l : List Tm) (j : Nat), szL (l.take j) ≤ szL l
 | [], j => by simp [szL]
 | a :: r, 0 => by simp [szL]
 | a :: r, j + 1 => by
  have := szL_take_le r j
  simp only [List.take_succ_cons, szL]
  omega
theorem len_szL : ∀ l : List Tm, l.length ≤ szL l
 | [] => Nat.le_refl _
 | t :: l => by
  have := len_szL l
  have := szT_pos t
  simp only [List.length_cons, szL]
  omega
theorem dpL_get : ∀ {l : List Tm} {j : Nat} {t : Tm}, l[j]? = some t → dpT t ≤ dpL l
 | [], j, t, h => by simp at h
 | a :: r, 0, t, h => by
  simp at h
  subst h
  simp only [dpL]
  omega
 | a :: r, j + 1, t, h => by
  have := dpL_get (l := r) (j := j) (t := t) (by simpa using h)
  simp only [dpL]
  omega
theorem dpL_take : ∀ {l : List Tm} {j : Nat} {t : Tm}, l[j]? = some t → dpL (l.take (j + 1)) = max (dpL (l.take j)) (dpT t)
 | [], j, t, h => by simp at h
 | a :: r, 0, t, h => by
  simp at h
  subst h
  simp [dpL]
 | a :: r, j + 1, t, h => by
  have := dpL_take (l := r) (j := j) (t := t) (by simpa using h)
  simp only [List.take_succ_cons, dpL]
  rw [this]
  omega
theorem okL_take : ∀ {l : List Tm} {j : Nat} {t : Tm}, l[j]? = some t → okL (l.take (j + 1)) = (okL (l.take j) && okT t)
 | [], j, t, h => by simp at h
 | a :: r, 0, t, h => by
  simp at h
  subst h
  simp [okL]
 | a :: r, j + 1, t, h => by
  have := okL_take (l := r) (j := j) (t := t) (by simpa using h)
  simp only [List.take_succ_cons, okL]
  rw [this, Bool.and_assoc]
theorem okL_get : ∀ {l : List Tm} {j : Nat} {t : Tm}, okL l = true → l[j]? = some t → okT t = true
 | [], j, t, _, h => by simp at h
 | a :: r, 0, t, ho, h => by
  simp at h
  subst h
  simp only [okL, Bool.and_eq_true] at ho
  exact ho.1
 | a :: r, j + 1, t, ho, h => by
  simp only [okL, Bool.and_eq_true] at ho
  exact okL_get (l := r) (j := j) ho.2 (by simpa using h)
def mayT (t : Tm) : Bool := chkT t == 0
theorem mayT_iff {t : Tm} : mayT t = true ↔ okT t = true ∧ dpT t ≤ 200 ∧ szT t ≤ 4096 := by
 unfold mayT chkT
 cases okT t
 ·simp
 ·by_cases h1 : 200 < dpT t
  ·simp [h1]; omega
  ·by_cases h2 : 4096 < szT t
   ·simp [h1, h2]
   ·simp [h1, h2]; omega
end Go.El
