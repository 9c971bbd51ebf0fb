/- Layer 16: the walk of Text. -/
import Derived.Test.YtmnnhdegoapfcaaGreatDoorP04
import Derived.Test.YtmnnhdegoapfcaaGreatDoorP27
import Derived.Test.YtmnnhdegoapfcaaGreatDoorP28
import Derived.Lib.ItoaLen
namespace Go.Proofs.YtmnnhdegoapfcaaGreatDoor
open Go.RowKit Go.El
def wordV (l : List UInt8) : Value := .string (mkB l)
theorem strInfo : (Tryz.prog.info? 9).map (fun i => (i.zero, i.size, i.bytes)) = some (some (.string ⟨#[]⟩), 1, 16) := by kernel_rfl
theorem quo_len (l : List UInt8) : (quoF l).length ≤ 5 * l.length + 2 := by
 have := sgnW_lenR l
 unfold quoF
 split
 ·omega
 ·simp only [List.length_append, List.length_cons, List.length_nil]; omega
theorem join_len {M : Nat} : ∀ (l : List (List UInt8)), (∀ x ∈ l, x.length ≤ M) → (Lib.join l [32]).length ≤ l.length * (M + 1)
 | [], _ => by simp [join_none]
 | x :: l, h => by
  have h1 := h x (by simp)
  have h2 := join_len l (fun y hy => h y (by simp [hy]))
  rw [join_cons]
  split
  ·rename_i e
   subst e
   simp
   omega
  ·simp [Nat.add_mul]
   omega
theorem may_bd {i : Ins} (h : insMay i = true) : i.s.size ≤ 64 ∧ (-64 ≤ i.v ∧ i.v ≤ 255) ∧ (0 ≤ i.a ∧ i.a ≤ 255) ∧ (-9007199254740991 ≤ i.n ∧ i.n ≤ 9007199254740991) := by
 unfold insMay at h
 split at h
 ·cases h
 ·rename_i hn
  simp only [Bool.and_eq_true] at h
  obtain ⟨⟨⟨⟨hv, _⟩, ha⟩, hn2⟩, _⟩ := h
  refine ⟨by omega, ?_, ?_, ?_⟩
  ·unfold withinF at hv
   split at hv
   ·simpa using hv
   ·simp at hv; omega
  ·split at ha
   ·simp [withinF] at ha; omega
   ·unfold withinF at ha
    split at ha
    ·simp at ha; omega
    ·simp at ha; omega
  ·unfold numberF at hn2
   split at hn2
   ·simp [withinF] at hn2; omega
   ·split at hn2
    ·simp [withinF] at hn2; omega
    ·split at hn2
     ·simp [withinF] at hn2; omega
     ·unfold withinF at hn2
      split at hn2
      ·simp at hn2; omega
      ·simp at hn2; omega
theorem fld_len {i : Ins} (h : insMay i = true) (f : Nat) : (fldT i f).length ≤ 400 := by
 obtain ⟨h1, h2, h3, h4⟩ := may_bd h
 have q := quo_len i.s.data.toList
 have hs : i.s.data.toList.length = i.s.size := by simp
 have l1 := Lib.itoa_length_le i.v (by omega) (by omega)
 have l2 := Lib.itoa_length_le (-i.v) (by omega) (by omega)
 have l3 := Lib.itoa_length_le i.a (by omega) (by omega)
 have l4 := Lib.itoa_length_le i.n (by omega) (by omega)
 unfold fldT regT
 split
 ·split <;> simp <;> omega
 ·repeat' split
  all_goals simp
  all_goals omega
theorem text_len {i : Ins} (h : insMay i = true) : (insT i).length ≤ 3700 := by
 obtain ⟨k, hk, h1, h3⟩ := may_op h
 obtain ⟨_, _, n3⟩ := name_ok k (by simp; omega)
 rw [← hk] at n3
 unfold insT
 rw [if_pos h]
 have := join_len (M := 400) (insTs i 8) (by
  intro x hx
  simp only [insTs, List.mem_cons, List.mem_map] at hx
  rcases hx with rfl | ⟨f, _, rfl⟩
  ·omega
  ·exact fld_len h f)
 have hl : (insTs i 8).length ≤ 9 := by
  unfold insTs
  simp only [List.length_cons, List.length_map]
  have := List.length_filter_le (hasF i.op) (ordF.take 8)
  have e : (ordF.take 8).length = 8 := rfl
  omega
 have := Nat.mul_le_mul_right 401 hl
 omega
theorem ts_len (i : Ins) (k : Nat) : (insTs i k).length ≤ 9 := by
 unfold insTs
 simp only [List.length_cons, List.length_map]
 have h1 := List.length_filter_le (hasF i.op) (ordF.take k)
 have h2 := List.length_take_le' k ordF
 have e : ordF.length = 8 := rfl
 omega
theorem ts_yes {i : Ins} {k f : Nat} (hk : ordF[k]? = some f) (h : hasF i.op f = true) : insTs i (k + 1) = insTs i k ++ [fldT i f] := by
 unfold insTs
 rw [List.take_add_one, hk]
 simp [h]
theorem ts_no {i : Ins} {k f : Nat} (hk : ordF[k]? = some f) (h : hasF i.op f = false) : insTs i (k + 1) = insTs i k := by
 unfold insTs
 rw [List.take_add_one, hk]
 simp [h]
theorem ord_at : ∀ k ∈ List.range 8, ∃ f, ordF[k]? = some f ∧ ((f : Int), f) ∈ askL ∧ #[Value.int .i64 1, .int .i64 8, .int .i64 16, .int .i64 32, .int .i64 64, .int .i64 128, .int .i64 2, .int .i64 4][k]? = some (.int .i64 (f : Int)) ∧ (f = 1 ∨ f = 8 ∨ f = 16 ∨ f = 32 ∨ f = 64 ∨ f = 128 ∨ f = 2 ∨ f = 4) := by
 intro k hk
 have : k = 0 ∨ k = 1 ∨ k = 2 ∨ k = 3 ∨ k = 4 ∨ k = 5 ∨ k = 6 ∨ k = 7 := by
  simp only [List.mem_range] at hk
  omega
 rcases this with rfl | rfl | rfl | rfl | rfl | rfl | rfl | rfl
 all_goals exact ⟨_, rfl, by decide, rfl, by decide⟩
set_option maxRecDepth 100000 in
set_option maxHeartbeats 4000000 in
theorem text_no (i : Ins) (w : World) (he : EnvT w) (h : insMay i = false) :
  Calls Tryz.prog 28 #[insVal i] w fun e w' => e = .returned (.string (mkB (insT i))) ∧ Ext w w' := by
 have hT : insT i = [] := by unfold insT; rw [h]; rfl
 rw [hT]
 have hx := ext_boxI w (.cells #[.int .i64 i.op, .string i.s, .int .i64 i.n, .int .i64 i.v, .int .i64 i.a] 25)
 have HM := Lib.hid (may_ins i _ (he.ops.ext hx))
 rw [h] at HM
 have hb := Blk.new w 25 #[.int .i64 i.op, .string i.s, .int .i64 i.n, .int .i64 i.v, .int .i64 i.a]
 have q0 := hb.cell 0
 have q1 := hb.cell 1
 have q2 := hb.cell 2
 have q3 := hb.cell 3
 have q4 := hb.cell 4
 have HX := Lib.hid hx
 unfold insVal at HM ⊢
 clear he h hT hx hb
 go_enter Tryz.func28, Tryz.ntmps28
 go_wp2_with (go_at_call 53; refine HM.out.mono ?_; rintro e W1 ⟨rfl, x1⟩)
 go_ret
 exact ⟨rfl, HX.out.trans x1⟩
theorem one_str (x : ByteArray) : ∀ u ∈ [Value.string x], u.oneCell' = true := by
 intro u hu
 rw [List.mem_singleton] at hu
 subst hu
 rfl
theorem app_str (a b : List UInt8) : strB a ++ strB b = strB (a ++ b) := by
 apply ByteArray.ext
 simp [strB]
theorem slash_str (i : Ins) (f : Nat) (h : f = 32 ∨ f = 64) : Value.string (strB (quoF i.s.data.toList) ++ ⟨#[47]⟩ ++ strB (Lib.itoa i.n)) = wordV (fldT i f) := by
 have e : fldT i f = quoF i.s.data.toList ++ [47] ++ Lib.itoa i.n := by rcases h with rfl | rfl <;> rfl
 rw [e]
 show Value.string (strB (quoF i.s.data.toList) ++ strB [47] ++ strB (Lib.itoa i.n)) = .string (strB _)
 rw [app_str, app_str]
theorem own_capI {w : World} {base : Nat} {e : TypeId} {k : Nat} {A : Option Addr} {n c : Nat} {xs : List Value} (h : w.ownsRow base e k (.slice A n c) n xs) : n ≤ c := by
 rcases h.2 with ⟨hv, h0⟩ | ⟨g, cap, cur, hv, _, _, hc, _⟩
 ·omega
 ·injection hv with _ _ h3
  omega
theorem mk_maps (F : List (List UInt8)) : (F.map mkB).map (·.data.toList) = F := by
 rw [List.map_map]
 have : ((·.data.toList) ∘ mkB : List UInt8 → List UInt8) = id := by
  funext l
  exact mkB_list l
 rw [this, List.map_id]
theorem join_calls {w : World} {A : Option Addr} {c : Nat} {F : List (List UInt8)} (h : w.ownsRow 0 9 1 (.slice A F.length c) F.length (F.map wordV)) (h0 : 0 < F.length) (h1 : F.length ≤ 1000) (h2 : (Lib.join F [32]).length ≤ 1000000) :
  Calls Tryz.prog 71 #[.slice A F.length c, .string ⟨#[32]⟩] w fun e w' => e = .returned (.string (mkB (Lib.join F [32]))) ∧ Ext w w' := by
 have hc := own_capI h
 obtain ⟨b, off, rfl, hcell⟩ := (El.Src.of_own h).form h0 (by omega)
 have hb : b < w.heap.size := by
  have := hcell 0 (wordV F[0]) (by simp [h0])
  exact cell_lt this
 have hl : (F.map mkB).length = F.length := List.length_map ..
 have := Tryz.strings_Join b off c (F.map mkB) ⟨#[32]⟩ w (fun j x hx => by
  apply hcell
  rw [List.getElem?_map] at hx ⊢
  cases hj : F[j]? with
  | none => rw [hj] at hx; cases hx
  | some l =>
   rw [hj] at hx
   injection hx with hx
   rw [← hx]
   rfl) hb (by omega) (by omega) (by rw [mk_maps]; show (Lib.join F [32]).length ≤ _; omega)
 rw [hl, mk_maps] at this
 exact this
structure TxAt (i : Ins) (w wr : World) (bi : Nat) (v : Value) (F : List (List UInt8)) : Prop where
 own : wr.ownsRow 0 9 1 v F.length (F.map wordV)
 sep : ∀ b, v.ownBlock = some b → w.heap.size < b ∧ b ≠ bi
 lt : w.heap.size < bi
 box : Blk wr w.heap.size 25 #[.int .i64 i.op, .string i.s, .int .i64 i.n, .int .i64 i.v, .int .i64 i.a]
 ints : Blk wr bi 3 #[Value.int .i64 1, .int .i64 8, .int .i64 16, .int .i64 32, .int .i64 64, .int .i64 128, .int .i64 2, .int .i64 4]
 ext : Ext w wr
theorem TxAt.go {i : Ins} {w wr w' : World} {bi : Nat} {v : Value} {F : List (List UInt8)} (h : TxAt i w wr bi v F) (x : Ext wr w') : TxAt i w w' bi v F := ⟨own_ext h.own x, h.sep, h.lt, h.box.ext x, h.ints.ext x, h.ext.trans x⟩
theorem TxAt.step {i : Ins} {w wr V w' : World} {bi : Nat} {v v' : Value} {F : List (List UInt8)} {l : List UInt8} {u : Value} (h : TxAt i w wr bi v F) (x : Ext wr V) (ho : w'.ownsRow 0 9 1 v' (F.length + 1) (F.map wordV ++ [u])) (hu : u = wordV l) (hm : Mods (ownL v) V w') (hb : v'.ownBlock = v.ownBlock ∨ v'.ownBlock = some V.heap.size) : TxAt i w w' bi v' (F ++ [l]) := by
 have hV := h.go x
 have n1 : w.heap.size ∉ ownL v := fun hk => by have := (h.sep _ (mem_ownL hk)).1; omega
 have n2 : bi ∉ ownL v := fun hk => (h.sep _ (mem_ownL hk)).2 rfl
 have l1 := hV.box.lt
 have l2 := hV.ints.lt
 refine ⟨?_, fun b hb' => ?_, h.lt, hV.box.mods hm n1, hV.ints.mods hm n2, ext_mods hV.ext hm (fun k hk => by have := (h.sep _ (mem_ownL hk)).1; omega)⟩
 ·subst hu
  rw [List.length_append, List.map_append]
  exact ho
 ·rcases hb with e | e
  ·exact h.sep b (e.symm.trans hb')
  ·rw [e] at hb'
   injection hb' with hb'
   subst hb'
   omega
theorem TxAt.new (i : Ins) {w W1 : World} (hx : Ext (w.alloc (.cells #[.int .i64 i.op, .string i.s, .int .i64 i.n, .int .i64 i.v, .int .i64 i.a] 25)) W1) (l : List UInt8) :
  TxAt i w ((W1.alloc (.cells #[.string (mkB l)] 9)).alloc (.cells #[Value.int .i64 1, .int .i64 8, .int .i64 16, .int .i64 32, .int .i64 64, .int .i64 128, .int .i64 2, .int .i64 4] 3)) (W1.heap.size + 1) (.slice (some ⟨W1.heap.size, 0, none⟩) 1 1) [l] := by
 have hs := hx.size
 rw [World.size_alloc] at hs
 have hb := (Blk.new w 25 #[.int .i64 i.op, .string i.s, .int .i64 i.n, .int .i64 i.v, .int .i64 i.a]).ext hx
 have hy : Ext W1 ((W1.alloc (.cells #[.string (mkB l)] 9)).alloc (.cells #[Value.int .i64 1, .int .i64 8, .int .i64 16, .int .i64 32, .int .i64 64, .int .i64 128, .int .i64 2, .int .i64 4] 3)) := ((Ext.refl W1).alloc _).alloc _
 have hbi := Blk.new (W1.alloc (.cells #[.string (mkB l)] 9)) 3 #[Value.int .i64 1, .int .i64 8, .int .i64 16, .int .i64 32, .int .i64 64, .int .i64 128, .int .i64 2, .int .i64 4]
 rw [World.size_alloc] at hbi
 refine ⟨own_ext (World.ownsRow_lit W1 #[.string (mkB l)] 1 (Nat.zero_le _) (by unfold maxLen; omega) rfl) ((Ext.refl _).alloc _), fun b hb' => ?_, by omega, hb.ext hy, hbi, (((Ext.refl w).alloc _).trans hx).trans hy⟩
 have e1 : W1.heap.size = b := by simpa [Value.ownBlock] using hb'
 omega
set_option maxRecDepth 100000 in
set_option maxHeartbeats 8000000 in
theorem text_yes (i : Ins) (w : World) (he : EnvT w) (h : insMay i = true) :
  Calls Tryz.prog 28 #[insVal i] w fun e w' => e = .returned (.string (mkB (insT i))) ∧ Ext w w' := by
 obtain ⟨i1, hi1, hz0, hz1, hz2⟩ := infoP strInfo
 have hx := ext_boxI w (.cells #[.int .i64 i.op, .string i.s, .int .i64 i.n, .int .i64 i.v, .int .i64 i.a] 25)
 have HM := Lib.hid (may_ins i _ (he.ops.ext hx))
 rw [h] at HM
 have hT : insT i = Lib.join (insTs i 8) [32] := by unfold insT; rw [if_pos h]
 have htl := text_len h
 rw [hT] at htl
 obtain ⟨k0, hk0, hk1, hk2⟩ := may_op h
 have ho : 0 ≤ i.op ∧ i.op < 31 := by omega
 have hbd := may_bd h
 have hbl : i.s.data.toList.length = i.s.size := by simp
 have hE := fun W (x : Ext w W) => he.ext x
 have HN := fun W (x : Ext w W) => Lib.hid (name_any i.op W (hE W x).ops)
 have HH := fun f g hf W (x : Ext w W) => Lib.hid (has_any i.op ho.1 ho.2 f g hf W (hE W x).ops)
 have HQ := fun W (x : Ext w W) => Lib.hid (quoteF_any i.s.data.toList W (by omega) (hE W x).tz)
 rw [strB_mk] at HQ
 have HIN := fun W (x : Ext w W) => Lib.hid (itoa_calls i.n (by omega) (by omega) W (hE W x))
 have HIA := fun W (x : Ext w W) => Lib.hid (itoa_calls i.a (by omega) (by omega) W (hE W x))
 have HRG := fun W (x : Ext w W) => Lib.hid (reg_any i.v W (hE W x) hbd.2.1.1 hbd.2.1.2)
 have hb := Blk.new w 25 #[.int .i64 i.op, .string i.s, .int .i64 i.n, .int .i64 i.v, .int .i64 i.a]
 have q0 := hb.cell 0
 have q1 := hb.cell 1
 have q2 := hb.cell 2
 have q3 := hb.cell 3
 have q4 := hb.cell 4
 have HX := Lib.hid hx
 have HTN := fun (W1 : World) (x : Ext _ W1) => TxAt.new i (w := w) (W1 := W1) x (nameF i.op)
 have s1 := quo_len i.s.data.toList
 have s2 := Lib.itoa_length_le i.n (by omega) (by omega)
 have s3 := Lib.itoa_length_le i.a (by omega) (by omega)
 have z1 := strB_size (quoF i.s.data.toList)
 have z2 := strB_size (Lib.itoa i.n)
 have z3 := strB_size (Lib.itoa i.a)
 have b1 : ¬ 9223372036854775807 < 1 + (strB (Lib.itoa i.a)).size := by omega
 have b2 : ¬ 9223372036854775807 < (strB (quoF i.s.data.toList)).size + 1 := by omega
 have b3 : ¬ 9223372036854775807 < (strB (quoF i.s.data.toList)).size + 1 + (strB (Lib.itoa i.n)).size := by omega
 clear s1 s2 s3 z1 z2 z3 hE hbd hbl ho hk0 hk1 hk2 he hx hb
 unfold insVal at HM ⊢
 go_enter Tryz.func28, Tryz.ntmps28
 go_upto_region 3 with (go_at_call 53; refine HM.out.mono ?_; rintro e W1 ⟨rfl, x1⟩)
 have HX1 := Lib.hid (HX.out.trans x1)
 have p0 := x1.cell q0
 have HT1 := Lib.hid (HTN W1 x1)
 clear HTN x1 q0 q1 q2 q3 q4
 go_wp2_with (go_at_call 55; refine (HN _ HX1.out).out.mono ?_; rintro e W2 ⟨rfl, rfl⟩)
 rw [show ((⟨(nameF i.op).toArray⟩ : ByteArray)) = mkB (nameF i.op) from rfl]
 refine wp_abs (fun V => Hid (TxAt i w V (W1.heap.size + 1) (.slice (some ⟨W1.heap.size, 0, none⟩) 1 1) (insTs i 0))) HT1 ?_
 rintro V HG
 clear HT1 HX HM HN HX1 p0
 generalize W1.heap.size + 1 = bi at HG ⊢
 generalize W1.heap.size = b0 at HG ⊢
 go_loopw [3, 15] (fun v idx wr => ∃ k : Nat, k ≤ 8 ∧ idx = .int .i64 k ∧ Hid (TxAt i w wr bi v (insTs i k))) (fun _ idx _ => 8 - (intOf idx).toNat)
 case atStart => exact ⟨0, by omega, rfl, HG⟩
 case round =>
  clear HG
  obtain ⟨k, hk, rfl, HG⟩ := hrel
  obtain ⟨A1, c1, rfl⟩ := own_value HG.out.own
  have hfl := ts_len i k
  by_cases hlt : k < 8
  ·obtain ⟨f, of, ak, ck, fs⟩ := ord_at k (by simpa using hlt)
   have cK := (HG.out.ints.cell k).trans ck
   have y0 : wr.cell? ⟨w.heap.size, 0, none⟩ = some (.int .i64 i.op) := HG.out.box.cell 0
   have y1 : wr.cell? ⟨w.heap.size, 1, none⟩ = some (.string i.s) := HG.out.box.cell 1
   have y2 : wr.cell? ⟨w.heap.size, 2, none⟩ = some (.int .i64 i.n) := HG.out.box.cell 2
   have y3 : wr.cell? ⟨w.heap.size, 3, none⟩ = some (.int .i64 i.v) := HG.out.box.cell 3
   have y4 : wr.cell? ⟨w.heap.size, 4, none⟩ = some (.int .i64 i.a) := HG.out.box.cell 4
   have hk8 : (k : Int) < 8 := by omega
   cases hh : hasF i.op f
   ·have HTS := Lib.hid (ts_no of hh)
    have HHF := Lib.hid hh
    clear hh fs of ck
    go_wp2_with (go_at_call 59; refine (HH f f ak _ HG.out.ext).out.mono ?_; rintro e W3 ⟨rfl, rfl⟩; rw [HHF.out])
    go_roundw
    case rel => exact ⟨k + 1, by omega, by go_num, by rw [HTS.out]; exact HG⟩
    case measure => simp [intOf]; omega
   ·have HTS := Lib.hid (ts_yes of hh)
    clear of ck ak
    generalize hF : insTs i k = F at *
    clear hF
    rcases fs with rfl | rfl | rfl | rfl | rfl | rfl | rfl | rfl
    ·-- 1
     go_wp2_with (first | (go_at_call 59; refine (HH 1 1 (by decide) _ HG.out.ext).out.mono ?_; rintro e W3 ⟨rfl, rfl⟩; rw [hh]) | (go_at_call 68; refine (HRG _ HG.out.ext).out.mono ?_; rintro e W4 ⟨rfl, hx⟩; have HV := Lib.hid hx; clear hx) | (at_builtin; refine wpList_append_src (P := Tryz.prog) rfl _ _ 93 rfl 9 i1 _ 1 16 Tryz.underlying93 hi1 hz0 hz1 hz2 rfl (by omega) _ rfl _ _ _ rfl F.length (F.map wordV) (own_ext HG.out.own (HV.out.alloc _)) [.string (strB (regT i.v))] (El.Src.new _ #[.string (strB (regT i.v))] 9 1 1 rfl) (one_str _) (by unfold maxLen; omega) (by omega) ?_; intro v3 w3 ho3 hm3 hb3; have HG3 := Lib.hid (HG.out.step (HV.out.alloc _) ho3 rfl hm3 hb3); clear ho3 hm3 hb3))
     go_roundw
     case rel => exact ⟨k + 1, by omega, by go_num, by rw [HTS.out]; exact HG3⟩
     case measure => simp [intOf]; omega
    ·-- 8
     go_wp2_with (first | (go_at_call 59; refine (HH 8 8 (by decide) _ HG.out.ext).out.mono ?_; rintro e W3 ⟨rfl, rfl⟩; rw [hh]) | (go_at_call 69; refine (HQ _ HG.out.ext).out.mono ?_; rintro e W4 ⟨rfl, hx⟩; have HV := Lib.hid hx; clear hx) | (at_builtin; refine wpList_append_src (P := Tryz.prog) rfl _ _ 93 rfl 9 i1 _ 1 16 Tryz.underlying93 hi1 hz0 hz1 hz2 rfl (by omega) _ rfl _ _ _ rfl F.length (F.map wordV) (own_ext HG.out.own (HV.out.alloc _)) [.string (strB (quoF i.s.data.toList))] (El.Src.new _ #[.string (strB (quoF i.s.data.toList))] 9 1 1 rfl) (one_str _) (by unfold maxLen; omega) (by omega) ?_; intro v3 w3 ho3 hm3 hb3; have HG3 := Lib.hid (HG.out.step (HV.out.alloc _) ho3 rfl hm3 hb3); clear ho3 hm3 hb3))
     go_roundw
     case rel => exact ⟨k + 1, by omega, by go_num, by rw [HTS.out]; exact HG3⟩
     case measure => simp [intOf]; omega
    ·-- 16
     go_wp2_with (first | (go_at_call 59; refine (HH 16 16 (by decide) _ HG.out.ext).out.mono ?_; rintro e W3 ⟨rfl, rfl⟩; rw [hh]) | (go_at_call 70; refine (HIN _ HG.out.ext).out.mono ?_; rintro e W4 ⟨rfl, hx⟩; have HV := Lib.hid hx; clear hx) | (at_builtin; refine wpList_append_src (P := Tryz.prog) rfl _ _ 93 rfl 9 i1 _ 1 16 Tryz.underlying93 hi1 hz0 hz1 hz2 rfl (by omega) _ rfl _ _ _ rfl F.length (F.map wordV) (own_ext HG.out.own (HV.out.alloc _)) [.string (strB (Lib.itoa i.n))] (El.Src.new _ #[.string (strB (Lib.itoa i.n))] 9 1 1 rfl) (one_str _) (by unfold maxLen; omega) (by omega) ?_; intro v3 w3 ho3 hm3 hb3; have HG3 := Lib.hid (HG.out.step (HV.out.alloc _) ho3 rfl hm3 hb3); clear ho3 hm3 hb3))
     go_roundw
     case rel => exact ⟨k + 1, by omega, by go_num, by rw [HTS.out]; exact HG3⟩
     case measure => simp [intOf]; omega
    ·-- 32
     go_upto_region 9 with (go_at_call 59; refine (HH 32 32 (by decide) _ HG.out.ext).out.mono ?_; rintro e W3 ⟨rfl, rfl⟩; rw [hh])
     go_region_law ((first | (go_simp; go_at_call 69; refine (HQ _ HG.out.ext.drew).out.mono ?_; rintro e V2 ⟨rfl, hx⟩; have HV2 := Lib.hid ((Ext.refl wr).drew.trans hx); have u2 := HV2.out.cell y2; clear hx) | (go_simp; go_at_call 70; refine (HIN _ (HG.out.ext.trans HV2.out)).out.mono ?_; rintro e V3 ⟨rfl, hx⟩; have HV := Lib.hid (HV2.out.trans hx); clear hx) | (refine step_append_src (P := Tryz.prog) rfl _ _ 93 rfl 9 i1 _ 1 16 Tryz.underlying93 hi1 hz0 hz1 hz2 rfl (by omega) _ rfl _ _ _ rfl F.length (F.map wordV) (own_ext HG.out.own (HV.out.alloc _)) [.string (strB (quoF i.s.data.toList) ++ ⟨#[47]⟩ ++ strB (Lib.itoa i.n))] (El.Src.new _ #[.string (strB (quoF i.s.data.toList) ++ ⟨#[47]⟩ ++ strB (Lib.itoa i.n))] 9 1 1 rfl) (one_str _) (by unfold maxLen; omega) (by omega) ?_; intro v3 w3 ho3 hm3 hb3; have HG3 := Lib.hid (HG.out.step (HV.out.alloc _) ho3 (slash_str i 32 (.inl rfl)) hm3 hb3); clear ho3 hm3 hb3)))
     all_goals
      go_wp2_with fail
      go_roundw
      case rel => exact ⟨k + 1, by omega, by go_num, by rw [HTS.out]; exact HG3⟩
      case measure => simp [intOf]; omega
    ·-- 64
     go_upto_region 9 with (go_at_call 59; refine (HH 64 64 (by decide) _ HG.out.ext).out.mono ?_; rintro e W3 ⟨rfl, rfl⟩; rw [hh])
     go_region_law ((first | (go_simp; go_at_call 69; refine (HQ _ HG.out.ext.drew).out.mono ?_; rintro e V2 ⟨rfl, hx⟩; have HV2 := Lib.hid ((Ext.refl wr).drew.trans hx); have u2 := HV2.out.cell y2; clear hx) | (go_simp; go_at_call 70; refine (HIN _ (HG.out.ext.trans HV2.out)).out.mono ?_; rintro e V3 ⟨rfl, hx⟩; have HV := Lib.hid (HV2.out.trans hx); clear hx) | (refine step_append_src (P := Tryz.prog) rfl _ _ 93 rfl 9 i1 _ 1 16 Tryz.underlying93 hi1 hz0 hz1 hz2 rfl (by omega) _ rfl _ _ _ rfl F.length (F.map wordV) (own_ext HG.out.own (HV.out.alloc _)) [.string (strB (quoF i.s.data.toList) ++ ⟨#[47]⟩ ++ strB (Lib.itoa i.n))] (El.Src.new _ #[.string (strB (quoF i.s.data.toList) ++ ⟨#[47]⟩ ++ strB (Lib.itoa i.n))] 9 1 1 rfl) (one_str _) (by unfold maxLen; omega) (by omega) ?_; intro v3 w3 ho3 hm3 hb3; have HG3 := Lib.hid (HG.out.step (HV.out.alloc _) ho3 (slash_str i 64 (.inr rfl)) hm3 hb3); clear ho3 hm3 hb3)))
     all_goals
      go_wp2_with fail
      go_roundw
      case rel => exact ⟨k + 1, by omega, by go_num, by rw [HTS.out]; exact HG3⟩
      case measure => simp [intOf]; omega
    ·-- 128
     go_wp2_with (first | (go_at_call 59; refine (HH 128 128 (by decide) _ HG.out.ext).out.mono ?_; rintro e W3 ⟨rfl, rfl⟩; rw [hh]) | (go_at_call 70; refine (HIN _ HG.out.ext).out.mono ?_; rintro e W4 ⟨rfl, hx⟩; have HV := Lib.hid hx; clear hx) | (at_builtin; refine wpList_append_src (P := Tryz.prog) rfl _ _ 93 rfl 9 i1 _ 1 16 Tryz.underlying93 hi1 hz0 hz1 hz2 rfl (by omega) _ rfl _ _ _ rfl F.length (F.map wordV) (own_ext HG.out.own (HV.out.alloc _)) [.string (strB (Lib.itoa i.n))] (El.Src.new _ #[.string (strB (Lib.itoa i.n))] 9 1 1 rfl) (one_str _) (by unfold maxLen; omega) (by omega) ?_; intro v3 w3 ho3 hm3 hb3; have HG3 := Lib.hid (HG.out.step (HV.out.alloc _) ho3 rfl hm3 hb3); clear ho3 hm3 hb3))
     go_roundw
     case rel => exact ⟨k + 1, by omega, by go_num, by rw [HTS.out]; exact HG3⟩
     case measure => simp [intOf]; omega
    ·-- 2
     go_wp2_with (first | (go_at_call 59; refine (HH 2 2 (by decide) _ HG.out.ext).out.mono ?_; rintro e W3 ⟨rfl, rfl⟩; rw [hh]) | (go_at_call 70; refine (HIA _ HG.out.ext).out.mono ?_; rintro e W4 ⟨rfl, hx⟩; have HV := Lib.hid hx; clear hx) | (at_builtin; refine wpList_append_src (P := Tryz.prog) rfl _ _ 93 rfl 9 i1 _ 1 16 Tryz.underlying93 hi1 hz0 hz1 hz2 rfl (by omega) _ rfl _ _ _ rfl F.length (F.map wordV) (own_ext HG.out.own (HV.out.alloc _)) [.string (⟨#[65]⟩ ++ strB (Lib.itoa i.a))] (El.Src.new _ #[.string (⟨#[65]⟩ ++ strB (Lib.itoa i.a))] 9 1 1 rfl) (one_str _) (by unfold maxLen; omega) (by omega) ?_; intro v3 w3 ho3 hm3 hb3; have HG3 := Lib.hid (HG.out.step (HV.out.alloc _) ho3 rfl hm3 hb3); clear ho3 hm3 hb3))
     go_roundw
     case rel => exact ⟨k + 1, by omega, by go_num, by rw [HTS.out]; exact HG3⟩
     case measure => simp [intOf]; omega
    ·-- 4
     go_wp2_with (first | (go_at_call 59; refine (HH 4 4 (by decide) _ HG.out.ext).out.mono ?_; rintro e W3 ⟨rfl, rfl⟩; rw [hh]) | (go_at_call 70; refine (HIA _ HG.out.ext).out.mono ?_; rintro e W4 ⟨rfl, hx⟩; have HV := Lib.hid hx; clear hx) | (at_builtin; refine wpList_append_src (P := Tryz.prog) rfl _ _ 93 rfl 9 i1 _ 1 16 Tryz.underlying93 hi1 hz0 hz1 hz2 rfl (by omega) _ rfl _ _ _ rfl F.length (F.map wordV) (own_ext HG.out.own (HV.out.alloc _)) [.string (strB (Lib.itoa i.a))] (El.Src.new _ #[.string (strB (Lib.itoa i.a))] 9 1 1 rfl) (one_str _) (by unfold maxLen; omega) (by omega) ?_; intro v3 w3 ho3 hm3 hb3; have HG3 := Lib.hid (HG.out.step (HV.out.alloc _) ho3 rfl hm3 hb3); clear ho3 hm3 hb3))
     go_roundw
     case rel => exact ⟨k + 1, by omega, by go_num, by rw [HTS.out]; exact HG3⟩
     case measure => simp [intOf]; omega
  ·obtain rfl : k = 8 := by omega
   have HJ := Lib.hid (join_calls HG.out.own (by unfold insTs; simp) (by omega) (by omega))
   rw [← hT] at HJ
   have HX := Lib.hid HG.out.ext
   clear hk hlt hT htl hfl HG
   go_wp2_with (go_at_call 71; refine HJ.out.mono ?_; rintro e W3 ⟨rfl, hx⟩)
   go_ret
   exact ⟨rfl, HX.out.trans hx⟩
theorem text_any (i : Ins) (w : World) (he : EnvT w) :
  Calls Tryz.prog 28 #[insVal i] w fun e w' => e = .returned (.string (mkB (insT i))) ∧ Ext w w' := by
 cases h : insMay i
 ·exact text_no i w he h
 ·exact text_yes i w he h
end Go.Proofs.YtmnnhdegoapfcaaGreatDoor
