/- The reference of layer 16: the walk of Text. -/
import Derived.Test.YtmnnhdegoapfcaaGreatDoorC38
import Derived.Deep.RegionLaw
namespace Go.Proofs.YtmnnhdegoapfcaaGreatDoor
open Go.RowKit Go.El

/-! ## Text -/
theorem str_out (a b : List UInt8) : Value.string (mkB a ++ ⟨#[32]⟩ ++ mkB b) = .string (mkB (a ++ ([32] ++ b))) := by
  rw [show (⟨#[32]⟩ : ByteArray) = strB [32] from rfl]
  show Value.string (strB a ++ strB [32] ++ strB b) = .string (strB _)
  rw [app_str, app_str, List.append_assoc]
theorem str_outA (a b : List UInt8) : Value.string (mkB a ++ ⟨#[32]⟩ ++ ⟨#[65]⟩ ++ mkB b) = .string (mkB (a ++ ([32] ++ (65 :: b)))) := by
  rw [show (⟨#[32]⟩ : ByteArray) = strB [32] from rfl, show (⟨#[65]⟩ : ByteArray) = strB [65] from rfl]
  show Value.string (strB a ++ strB [32] ++ strB [65] ++ strB b) = .string (strB _)
  rw [app_str, app_str, app_str]
  simp
theorem str_outF (a b c : List UInt8) {d : List UInt8} (hd : d = b ++ [47] ++ c) : Value.string (mkB a ++ ⟨#[32]⟩ ++ mkB b ++ ⟨#[47]⟩ ++ mkB c) = .string (mkB (a ++ ([32] ++ d))) := by
  subst hd
  rw [show (⟨#[32]⟩ : ByteArray) = strB [32] from rfl, show (⟨#[47]⟩ : ByteArray) = strB [47] from rfl]
  show Value.string (strB a ++ strB [32] ++ strB b ++ strB [47] ++ strB c) = .string (strB _)
  rw [app_str, app_str, app_str, app_str]
  simp
/-- The field that a sign of a form means. -/
def cOf (c : UInt8) : Nat := if c = 118 then 1 else if c = 97 then 2 else if c = 115 then 8 else if c = 110 then 16 else if c = 101 then 128 else if c = 108 then 4 else if c = 102 then 32 else 64
def outT (i : Ins) (k : Nat) : List UInt8 := nameF i.op ++ ((formL i.op).take k).flatMap (fun c => 32 :: fldT i (cOf c))
theorem join_flat (n : List UInt8) (fs : List (List UInt8)) : Lib.join (n :: fs) [32] = n ++ fs.flatMap (fun f => 32 :: f) := by
  induction fs generalizing n with
  | nil => rw [join_one]; simp
  | cons f fs ih =>
    rw [join_cons, if_neg (by simp), ih f]
    simp
theorem form_fields : ∀ o ∈ List.range 31, (formL o).map cOf = ordF.filter (hasF o) ∧ (formL o).length ≤ 2 ∧ ∀ c ∈ formL o, c = 118 ∨ c = 97 ∨ c = 115 ∨ c = 110 ∨ c = 101 ∨ c = 108 ∨ c = 102 ∨ c = 112 := by decide +kernel
theorem out_all {i : Ins} (h : insMay i = true) : outT i (formL i.op).length = insT i := by
  obtain ⟨k, hk, h1, h3⟩ := may_op h
  obtain ⟨hf, _, _⟩ := form_fields k (by simp; omega)
  rw [← hk] at hf
  unfold outT insT
  rw [if_pos h, insTs_eq, join_flat, List.take_length]
  unfold fldL
  rw [← hf, List.map_map, List.flatMap_map]
  rfl
theorem out_step {i : Ins} {k : Nat} {c : UInt8} (hc : (formL i.op)[k]? = some c) : outT i (k + 1) = outT i k ++ ([32] ++ fldT i (cOf c)) := by
  unfold outT
  rw [List.take_add_one, hc]
  simp
theorem out_len {i : Ins} (h : insMay i = true) (k : Nat) : (outT i k).length ≤ 900 := by
  obtain ⟨o, ho, h1, h3⟩ := may_op h
  obtain ⟨_, hf, _⟩ := form_fields o (by simp; omega)
  obtain ⟨_, _, n3⟩ := name_ok o (by simp; omega)
  rw [← ho] at hf n3
  have key : ∀ l : List UInt8, (l.flatMap (fun c => 32 :: fldT i (cOf c))).length ≤ l.length * 401 := by
    intro l
    induction l with
    | nil => simp
    | cons c l ih =>
      have := fld_len h (cOf c)
      simp only [List.flatMap_cons, List.length_append, List.length_cons]
      omega
  have := key ((formL i.op).take k)
  have h2 := List.length_take_le' k (formL i.op)
  unfold outT
  rw [List.length_append]
  omega

set_option maxRecDepth 100000 in
set_option maxHeartbeats 1000000 in
theorem rText_no (i : Ins) (w : World) (h : insMay i = false) :
    Calls Tryz.prog 30 #[insVal i] w fun e w' => e = .returned (.string (mkB (insT i))) ∧ Ext w w' := by
  have hT : insT i = [] := by unfold insT; rw [h]; rfl
  rw [hT]
  have hx := ext_boxI w (.cells #[.int .i64 i.op, .string i.s, .int .i64 i.n, .int .i64 i.v, .int .i64 i.a] 25)
  have HM := Lib.hid (rMay_any i (w.alloc (.cells #[.int .i64 i.op, .string i.s, .int .i64 i.n, .int .i64 i.v, .int .i64 i.a] 25)))
  rw [h] at HM
  have hb := Blk.new w 25 #[.int .i64 i.op, .string i.s, .int .i64 i.n, .int .i64 i.v, .int .i64 i.a]
  have q0 := hb.cell 0
  have q1 := hb.cell 1
  have q2 := hb.cell 2
  have q3 := hb.cell 3
  have q4 := hb.cell 4
  have HX := Lib.hid hx
  unfold insVal at HM ⊢
  clear h hT hx hb
  go_enter Tryz.func30, Tryz.ntmps30
  go_wp2_with (go_at_call 72; refine HM.out.mono ?_; rintro e W1 ⟨rfl, x1⟩)
  go_ret
  exact ⟨rfl, HX.out.trans x1⟩

set_option maxRecDepth 100000 in
set_option maxHeartbeats 8000000 in
theorem rText_yes (i : Ins) (w : World) (h : insMay i = true) :
    Calls Tryz.prog 30 #[insVal i] w fun e w' => e = .returned (.string (mkB (insT i))) ∧ Ext w w' := by
  have hx := ext_boxI w (.cells #[.int .i64 i.op, .string i.s, .int .i64 i.n, .int .i64 i.v, .int .i64 i.a] 25)
  have HM := Lib.hid (rMay_any i (w.alloc (.cells #[.int .i64 i.op, .string i.s, .int .i64 i.n, .int .i64 i.v, .int .i64 i.a] 25)))
  rw [h] at HM
  obtain ⟨k0, hk0, hk1, hk2⟩ := may_op h
  have ho : 0 ≤ i.op ∧ i.op < 31 := by omega
  obtain ⟨_, hfl, hfc⟩ := form_fields k0 (by simp; omega)
  rw [← hk0] at hfl hfc
  have HALL := Lib.hid (out_all h)
  have hol := out_len h
  have hfd := fld_len h
  have hbd := may_bd h
  have hbl : i.s.data.toList.length = i.s.size := by simp
  have HN := fun W => Lib.hid (rName_any i.op W)
  have HF := fun W => Lib.hid (rForm_any i.op ho.1 ho.2 W)
  have HQ := fun W => Lib.hid (rQuote_any i.s.data.toList W (by omega))
  rw [strB_mk] at HQ
  have HIN := fun W => Lib.hid (refDigits_any i.n (by omega) (by omega) W)
  have HIA := fun W => Lib.hid (refDigits_any i.a (by omega) (by omega) W)
  have HRG := fun W => Lib.hid (rReg_any i.v W hbd.2.1.1 hbd.2.1.2)
  have HB := Lib.hid (show InsBlk (w.alloc (.cells #[.int .i64 i.op, .string i.s, .int .i64 i.n, .int .i64 i.v, .int .i64 i.a] 25)) w.heap.size i from Blk.new w _ _)
  have q0 := HB.out.c0
  have q1 := HB.out.c1
  have q2 := HB.out.c2
  have q3 := HB.out.c3
  have q4 := HB.out.c4
  have HX0 := Lib.hid hx
  have h00 : outT i 0 = nameF i.op := by unfold outT; simp
  have H00 := Lib.hid h00
  have hfsz := mkB_size (formL i.op)
  have s1 := quo_len i.s.data.toList
  have s2 := Lib.itoa_length_le i.n (by omega) (by omega)
  have s3 := Lib.itoa_length_le i.a (by omega) (by omega)
  have s4 := hfd 1
  rw [f1T] at s4
  have z1 := strB_size (quoF i.s.data.toList)
  have z2 := strB_size (Lib.itoa i.n)
  have z3 := strB_size (Lib.itoa i.a)
  have z4 : (mkB (regT i.v)).size ≤ 400 := by rw [mkB_size]; exact s4
  have b1 : (strB (Lib.itoa i.a)).size ≤ 400 := by omega
  have b2 : (strB (Lib.itoa i.n)).size ≤ 400 := by omega
  have b3 : (strB (quoF i.s.data.toList)).size ≤ 400 := by omega
  clear s1 s2 s3 s4 z1 z2 z3 hbd hbl ho hk0 hk1 hk2 hx h h00
  unfold insVal at HM ⊢
  go_enter Tryz.func30, Tryz.ntmps30
  go_upto_region 3 with (go_at_call 72; refine HM.out.mono ?_; rintro e W1 ⟨rfl, x1⟩; have HX1 := Lib.hid (HX0.out.trans x1); have HB1 := Lib.hid (HB.out.ext x1); clear x1)
  have p0 := HB1.out.c0
  go_upto_region 4 with (go_at_call 14; refine (HN _).out.mono ?_; rintro e W2 ⟨rfl, x1⟩; have HX2 := Lib.hid (HX1.out.trans x1); have HB2 := Lib.hid (HB1.out.ext x1); clear x1)
  clear q0 q1 q2 q3 q4 p0
  have p0 := HB2.out.c0
  go_upto_region 5 with (go_at_call 73; refine (HF _).out.mono ?_; rintro e W3 ⟨rfl, x1⟩; have HX := Lib.hid (HX2.out.trans x1); have HI := Lib.hid (HB2.out.ext x1); clear x1)
  clear p0 HX0 HX1 HX2 HB HB1 HB2 HM HN HF
  rw [← H00.out]
  have hidx : ∀ (k : Nat) (hk : k < (mkB (formL i.op)).size), (mkB (formL i.op))[k]'hk = (formL i.op)[k]'(by rw [← hfsz]; exact hk) := fun k hk => by simp [mkB]; rfl
  have HIDX := Lib.hid hidx
  clear hidx
  go_wp2_with fail
  go_loopw [3, 5] (fun out ix wr => ∃ k : Nat, k ≤ (formL i.op).length ∧ out = .string (mkB (outT i k)) ∧ ix = .int .i64 k ∧ Hid (Ext w wr) ∧ Hid (InsBlk wr w.heap.size i)) (fun _ ix _ => (formL i.op).length - (intOf ix).toNat)
  case atStart => exact ⟨0, Nat.zero_le _, rfl, rfl, HX, HI⟩
  case round =>
    clear HX HI
    obtain ⟨k, hk, rfl, rfl, HX, HI⟩ := hrel
    by_cases hlt : k < (formL i.op).length
    · have hk8 : (k : Int) < ((formL i.op).length : Int) := by omega
      obtain ⟨c, hce⟩ : ∃ c, c = (formL i.op)[k] := ⟨_, rfl⟩
      have hc := hfc (formL i.op)[k] (List.getElem_mem hlt)
      have hst := out_step (i := i) (List.getElem?_eq_getElem hlt)
      rw [← hce] at hc hst
      have hix : ∀ hq : k < (mkB (formL i.op)).size, (mkB (formL i.op))[k]'hq = c := fun hq => by rw [hce]; exact HIDX.out k hq
      clear hce
      have y1 : wr.cell? ⟨w.heap.size, 1, none⟩ = some (.string i.s) := HI.out.c1
      have y2 : wr.cell? ⟨w.heap.size, 2, none⟩ = some (.int .i64 i.n) := HI.out.c2
      have y3 : wr.cell? ⟨w.heap.size, 3, none⟩ = some (.int .i64 i.v) := HI.out.c3
      have y4 : wr.cell? ⟨w.heap.size, 4, none⟩ = some (.int .i64 i.a) := HI.out.c4
      have ol := hol k
      have osz := mkB_size (outT i k)
      have HST := Lib.hid hst
      clear hst hfc hol hfd
      have r1 : ¬ 9223372036854775807 < (outT i k).length + 1 := by omega
      rcases hc with rfl | rfl | rfl | rfl | rfl | rfl | rfl | rfl
      · have r2 : ¬ 9223372036854775807 < (outT i k).length + 1 + (mkB (regT i.v)).size := by omega
        go_wp2_with (go_at_call 74; refine (HRG _).out.mono ?_; rintro e W4 ⟨rfl, rfl⟩)
        go_roundw
        case rel => exact ⟨k + 1, hlt, by rw [HST.out]; exact str_out _ _, by go_num, HX, HI⟩
        case measure => simp [intOf]; omega
      · have r2 : ¬ 9223372036854775807 < (outT i k).length + 1 + 1 + (strB (Lib.itoa i.a)).size := by omega
        have r3 : ¬ 9223372036854775807 < (outT i k).length + 1 + 1 := by omega
        have r4 : ¬ 9223372036854775807 < (outT i k).length + 1 + 1 + (strB (Lib.itoa i.a)).size := by omega
        go_wp2_with (go_at_call 75; refine (HIA _).out.mono ?_; rintro e W4 ⟨rfl, rfl⟩)
        go_roundw
        case rel => exact ⟨k + 1, hlt, by rw [HST.out]; exact str_outA _ _, by go_num, HX, HI⟩
        case measure => simp [intOf]; omega
      · have r2 : ¬ 9223372036854775807 < (outT i k).length + 1 + (strB (quoF i.s.data.toList)).size := by omega
        go_wp2_with (go_at_call 76; refine (HQ _).out.mono ?_; rintro e W4 ⟨rfl, hx⟩; have HX4 := Lib.hid (HX.out.trans hx); have HI4 := Lib.hid (HI.out.ext hx); clear hx)
        go_roundw
        case rel => exact ⟨k + 1, hlt, by rw [HST.out]; exact str_out _ _, by go_num, HX4, HI4⟩
        case measure => simp [intOf]; omega
      · have r2 : ¬ 9223372036854775807 < (outT i k).length + 1 + (strB (Lib.itoa i.n)).size := by omega
        go_wp2_with (go_at_call 75; refine (HIN _).out.mono ?_; rintro e W4 ⟨rfl, rfl⟩)
        go_roundw
        case rel => exact ⟨k + 1, hlt, by rw [HST.out]; exact str_out _ _, by go_num, HX, HI⟩
        case measure => simp [intOf]; omega
      · have r2 : ¬ 9223372036854775807 < (outT i k).length + 1 + (strB (Lib.itoa i.n)).size := by omega
        go_wp2_with (go_at_call 75; refine (HIN _).out.mono ?_; rintro e W4 ⟨rfl, rfl⟩)
        go_roundw
        case rel => exact ⟨k + 1, hlt, by rw [HST.out]; exact str_out _ _, by go_num, HX, HI⟩
        case measure => simp [intOf]; omega
      · have r2 : ¬ 9223372036854775807 < (outT i k).length + 1 + (strB (Lib.itoa i.a)).size := by omega
        go_wp2_with (go_at_call 75; refine (HIA _).out.mono ?_; rintro e W4 ⟨rfl, rfl⟩)
        go_roundw
        case rel => exact ⟨k + 1, hlt, by rw [HST.out]; exact str_out _ _, by go_num, HX, HI⟩
        case measure => simp [intOf]; omega
      · have r2 : ¬ 9223372036854775807 < (outT i k).length + 1 + (strB (quoF i.s.data.toList)).size := by omega
        have r3 : ¬ 9223372036854775807 < (outT i k).length + 1 + (strB (quoF i.s.data.toList)).size + 1 := by omega
        have r4 : ¬ 9223372036854775807 < (outT i k).length + 1 + (strB (quoF i.s.data.toList)).size + 1 + (strB (Lib.itoa i.n)).size := by omega
        go_upto_region 10 with fail
        go_region_law ((first | (go_simp; go_at_call 76; refine (HQ _).out.mono ?_; rintro e V2 ⟨rfl, hx⟩; have HX4 := Lib.hid (HX.out.drew.trans hx); have HI4 := Lib.hid (HI.out.ext ((Ext.refl _).drew.trans hx)); have u2 := HI4.out.c2; clear hx) | (go_simp; go_at_call 75; refine (HIN _).out.mono ?_; rintro e V3 ⟨rfl, rfl⟩)))
        all_goals
          go_wp2_with fail
          go_roundw
          case rel => exact ⟨k + 1, hlt, by rw [HST.out]; exact str_outF _ _ _ rfl, by go_num, HX4, HI4⟩
          case measure => simp [intOf]; omega
      · have r2 : ¬ 9223372036854775807 < (outT i k).length + 1 + (strB (quoF i.s.data.toList)).size := by omega
        have r3 : ¬ 9223372036854775807 < (outT i k).length + 1 + (strB (quoF i.s.data.toList)).size + 1 := by omega
        have r4 : ¬ 9223372036854775807 < (outT i k).length + 1 + (strB (quoF i.s.data.toList)).size + 1 + (strB (Lib.itoa i.n)).size := by omega
        go_upto_region 10 with fail
        go_region_law ((first | (go_simp; go_at_call 76; refine (HQ _).out.mono ?_; rintro e V2 ⟨rfl, hx⟩; have HX4 := Lib.hid (HX.out.drew.trans hx); have HI4 := Lib.hid (HI.out.ext ((Ext.refl _).drew.trans hx)); have u2 := HI4.out.c2; clear hx) | (go_simp; go_at_call 75; refine (HIN _).out.mono ?_; rintro e V3 ⟨rfl, rfl⟩)))
        all_goals
          go_wp2_with fail
          go_roundw
          case rel => exact ⟨k + 1, hlt, by rw [HST.out]; exact str_outF _ _ _ rfl, by go_num, HX4, HI4⟩
          case measure => simp [intOf]; omega
    · obtain rfl : k = (formL i.op).length := by omega
      clear hfc hol hfd
      go_wp2_with fail
      go_ret
      exact ⟨by rw [← HALL.out]; rfl, HX.out⟩

theorem rText_any (i : Ins) (w : World) :
    Calls Tryz.prog 30 #[insVal i] w fun e w' => e = .returned (.string (mkB (insT i))) ∧ Ext w w' := by
  cases h : insMay i
  · exact rText_no i w h
  · exact rText_yes i w h

end Go.Proofs.YtmnnhdegoapfcaaGreatDoor
