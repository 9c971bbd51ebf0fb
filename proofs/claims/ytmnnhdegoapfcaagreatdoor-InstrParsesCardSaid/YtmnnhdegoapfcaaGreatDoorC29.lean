/- Layer 8, the program: the walk of sign at bytes that want no hex. -/
import Derived.Test.YtmnnhdegoapfcaaGreatDoorC17
import Derived.Test.YtmnnhdegoapfcaaGreatDoorC28
import Derived.Lib.AppendStr
import Derived.Lib.OwnKind
namespace Go.Proofs.YtmnnhdegoapfcaaGreatDoor
open Go.RowKit Go.El

/-- How a byte stands between quotes, where it wants no hex digits. -/
def sgnS (c : UInt8) : List UInt8 := if c = 10 then [92, 110] else if c = 9 then [92, 116] else if c = 39 ∨ c = 92 then [92, c] else [c]
def isCtl (c : UInt8) : Bool := (c < 32 && c != 10 && c != 9) || c == 127
theorem str_app (a b : List UInt8) : (strB a) ++ (strB b) = strB (a ++ b) := by
  have h : ((strB a) ++ (strB b)).data.toList = a ++ b := by
    rw [ByteArray.data_append, Array.toList_append, strB_toList, strB_toList]
  rw [← strB_mk ((strB a) ++ (strB b)), h]

set_option maxRecDepth 100000 in
set_option maxHeartbeats 2000000 in
theorem sgn_any (c : UInt8) (w : World) (hc : isCtl c = false) :
    Calls Tryz.prog 113 #[.int .u8 (c.toNat : Int)] w fun e w' => e = .returned (.string (strB (sgnS c))) ∧ Ext w w' := by
  have hcl := c.toNat_lt
  by_cases h10 : c = 10
  · subst h10
    go_enter Tryz.func113, Tryz.ntmps113
    go_wp2_with fail
    go_ret
    exact ⟨rfl, Ext.refl _⟩
  by_cases h9 : c = 9
  · subst h9
    go_enter Tryz.func113, Tryz.ntmps113
    go_wp2_with fail
    go_ret
    exact ⟨rfl, Ext.refl _⟩
  have q10 := u8_ne' (c := c) (n := 10) (z := 10) rfl (by omega) h10
  have q9 := u8_ne' (c := c) (n := 9) (z := 9) rfl (by omega) h9
  have hb1 : BytesAt (w.alloc (.cells #[.int .u8 (c.toNat : Int)] 5)) (some ⟨w.heap.size, 0, none⟩) [c] := El.Src.new w #[.int .u8 (c.toNat : Int)] 5 1 1 rfl
  have hcv : (convert 61 9 (.slice (some ⟨w.heap.size, 0, none⟩) 1 1)).run Tryz.prog (w.alloc (.cells #[.int .u8 (c.toNat : Int)] 5)) = .ok (.string (strB [c])) _ := conv_str 1 hb1
  clear hb1
  by_cases hq : c = 39 ∨ c = 92
  · have HN := Lib.hid (show sgnS c = [92] ++ [c] from by unfold sgnS; rw [if_neg h10, if_neg h9, if_pos hq]; rfl)
    have hd : ((c.toNat : Int) == (39 : Int)) = true ∨ (((c.toNat : Int) == (39 : Int)) = false ∧ ((c.toNat : Int) == (92 : Int)) = true) := by
      rcases hq with rfl | rfl
      · exact .inl rfl
      · exact .inr ⟨rfl, rfl⟩
    have happ := str_app [92] [c]
    generalize hgs : strB [c] = s at hcv happ
    have hsz : s.size = 1 := by rw [← hgs]; exact strB_size [c]
    have HA := Lib.hid happ
    clear hq h10 h9 hc hgs happ
    rcases hd with h | ⟨h1, h2⟩
    all_goals
      go_enter Tryz.func113, Tryz.ntmps113
      go_wp2_with fail
      go_ret
      refine ⟨?_, ext_box _ _⟩
      rw [HN.out, ← HA.out]
      rfl
  · have HN := Lib.hid (show sgnS c = [c] from by unfold sgnS; rw [if_neg h10, if_neg h9, if_neg hq])
    have q39 := u8_ne' (c := c) (n := 39) (z := 39) rfl (by omega) (fun e => hq (.inl e))
    have q92 := u8_ne' (c := c) (n := 92) (z := 92) rfl (by omega) (fun e => hq (.inr e))
    have g1 : 32 ≤ c.toNat ∧ c ≠ 127 := by
      have := all_bytes (p := fun c => (isCtl c || c == 10 || c == 9 || (decide (32 ≤ c.toNat) && c != 127)) = true) (by decide +kernel) c
      rw [hc] at this
      simpa [h10, h9] using this
    obtain ⟨g1, g2⟩ := g1
    have q127 := u8_ne' (c := c) (n := 127) (z := 127) rfl (by omega) g2
    generalize hgs : strB [c] = s at hcv
    have HGS := Lib.hid hgs
    clear hq h10 h9 hc hgs g2
    go_enter Tryz.func113, Tryz.ntmps113
    go_wp2_with fail
    go_ret
    refine ⟨?_, ext_box _ _⟩
    rw [HN.out, HGS.out]
    rfl

end Go.Proofs.YtmnnhdegoapfcaaGreatDoor

/- strings.Builder: WriteString at a builder that was written to, with the blocks that it turns. -/
namespace Go.Proofs.YtmnnhdegoapfcaaGreatDoor
open Go.RowKit Go.El

/-- A builder that was written to. -/
structure BuAt (base : Nat) (w : World) (b : Nat) (v : Value) (F : List UInt8) : Prop where
  blk : Blk w b 63 #[.pointer (some ⟨b, 0, none⟩), v]
  own : w.ownsRow base 5 1 v F.length (F.map u8V)
theorem own_heap {w : World} {base : Nat} {e : TypeId} {k : Nat} {v : Value} {n : Nat} {xs : List Value} {g : Nat} {t : TypeId} {cs : Array Value} {m : Nat × Nat} (h : w.ownsRow base e k v n xs) (hg : w.heap[g]? = some (.cells cs t m)) (ht : t ≠ e ∨ m ≠ (0, 0)) : g ∉ ownL v := by
  intro hm
  have hb := mem_ownL hm
  rcases h.2 with ⟨rfl, _⟩ | ⟨g', cap, cur, rfl, _, hc, _⟩
  · simp [Value.ownBlock] at hb
  · have e1 : g' = g := by simpa [Value.ownBlock] using hb
    subst e1
    rw [hg] at hc
    injection hc with hc
    injection hc with h1 h2 h3
    rcases ht with ht | ht
    · exact ht h2
    · exact ht h3
theorem BuAt.far {base : Nat} {w : World} {b : Nat} {v : Value} {F : List UInt8} (h : BuAt base w b v F) : ∀ x ∈ ownL v, base ≤ x := by
  intro x hx
  have hb := mem_ownL hx
  rcases h.own.2 with ⟨rfl, _⟩ | ⟨g', cap, cur, rfl, hg, _⟩
  · simp [Value.ownBlock] at hb
  · have e1 : g' = x := by simpa [Value.ownBlock] using hb
    omega
theorem BuAt.no {base : Nat} {w : World} {b : Nat} {v : Value} {F : List UInt8} (h : BuAt base w b v F) : b ∉ ownL v := own_heap h.own h.blk (.inl (by decide))

set_option maxRecDepth 100000 in
set_option maxHeartbeats 4000000 in
theorem writeString_any (base b : Nat) (v : Value) (F : List UInt8) (s : ByteArray) (w : World) (h : BuAt base w b v F) (hbw : base ≤ w.heap.size) (hl : F.length + s.size ≤ 1000000) :
    Calls Tryz.prog 27 #[.pointer (some ⟨b, 0, none⟩), .string s] w fun e w' => e = .returned (.tuple #[.int .i64 s.size, .nilIface]) ∧ ∃ v', BuAt base w' b v' (F ++ s.data.toList) ∧ Mods (b :: ownL v) w w' := by
  obtain ⟨i1, hi1, hz0, hz1, hz2⟩ := infoP u8Info
  obtain ⟨A, c, rfl⟩ := own_value h.own
  have d0 : w.cell? ⟨b, 0, none⟩ = some (.pointer (some ⟨b, 0, none⟩)) := h.blk.cell 0
  have d1 : w.cell? ⟨b, 1, none⟩ = some (.slice A F.length c) := h.blk.cell 1
  have hsl : s.size ≤ 9223372036854775807 := by omega
  have H := Lib.hid h
  have HN := Lib.hid h.no
  clear h
  go_enter Tryz.func27, Tryz.ntmps27
  go_wp2_with (first | (go_at_call 67; refine (Tryz.copyCheck_used b w (H.out.blk.cell 0)).mono ?_; rintro e w' ⟨rfl, rfl⟩) | (at_builtin; refine Lib.wpList_append_own_string (P := Tryz.prog) _ rfl _ _ 61 9 rfl base 5 i1 Tryz.underlying61 Tryz.underlying9 hi1 hz0 hz1 hz2 _ F.length (F.map u8V) rfl H.out.own s rfl (by unfold maxLen; omega) (by omega) hbw ?_; intro v3 w3 ho3 hm3 _; obtain ⟨A3, c3, rfl⟩ := own_value ho3; have hM := grown_mods hm3; have hbk := H.out.blk.mods hM HN.out; have k1 : w3.cell? ⟨b, 1, none⟩ = some (.slice A F.length c) := hbk.cell 1; have kf := hbk.frozen 1; have HO := Lib.hid ho3; have HM := Lib.hid hM; have HBK := Lib.hid hbk; clear ho3 hm3 hM hbk))
  go_ret2
  refine ⟨rfl, _, ⟨HBK.out.set_ 1 _, ?_⟩, ?_⟩
  · have hno := own_heap HO.out HBK.out (.inl (by decide))
    rw [List.length_append, List.map_append]
    have h1 := own_mods HO.out ((Mods.refl [b] w3).setCell (p := ⟨b, 1, none⟩) (.inl (by simp)) (.slice A3 (F.length + s.size) c3)) (fun x hx hm => by
      rw [List.mem_singleton] at hm
      exact hno (by simp [ownL, hx, hm]))
    have e : s.data.toList.length = s.size := by simp
    rw [e]
    exact h1
  · exact (HM.out.mono (fun x hx => List.mem_cons_of_mem _ hx)).setCell (.inl (by simp)) _

end Go.Proofs.YtmnnhdegoapfcaaGreatDoor

/- Layer 8, the program: the walk of Quote at names that want no hex digits. -/
namespace Go.Proofs.YtmnnhdegoapfcaaGreatDoor
open Go.RowKit Go.El

def sgnL (l : List UInt8) : List UInt8 := l.flatMap sgnS
def quoL (l : List UInt8) : List UInt8 := if plainL l then l else [39] ++ sgnL l ++ [39]
theorem bld_ext {w w' : World} {B b : Nat} {bs : List Value} (h : Lib.IsBuilder 63 5 B b bs w) (x : Ext w w') : Lib.IsBuilder 63 5 B b bs w' := by
  have key : ∀ p, Lib.BuilderAt 63 5 B b p bs w → Lib.BuilderAt 63 5 B b p bs w' := by
    rintro p ⟨h1, v, h2, h3, h4⟩
    exact ⟨h1, v, x.heap h2, own_ext h3 x, h4⟩
  exact h.imp (key _) (key _)
theorem sgnS_len (c : UInt8) : (sgnS c).length ≤ 2 := by
  unfold sgnS
  split
  · decide
  · split
    · decide
    · split <;> simp
theorem sgnL_len : ∀ l : List UInt8, (sgnL l).length ≤ 2 * l.length
  | [] => Nat.le_refl _
  | c :: l => by
    have := sgnL_len l
    have := sgnS_len c
    simp only [sgnL, List.flatMap_cons, List.length_append, List.length_cons] at *
    omega
theorem sgnL_step (l : List UInt8) (k : Nat) (c : UInt8) (h : l[k]? = some c) : sgnL (l.take (k + 1)) = sgnL (l.take k) ++ sgnS c := by
  rw [List.take_add_one, h]
  simp [sgnL]

set_option maxRecDepth 100000 in
set_option maxHeartbeats 4000000 in
theorem quote_any (l : List UInt8) (w : World) (hl : l.length ≤ 1000) (hc : ∀ c ∈ l, isCtl c = false) :
    Calls Tryz.prog 69 #[.string (strB l)] w fun e w' => e = .returned (.string (strB (quoL l))) ∧ Ext w w' := by
  have hpl : plainB (strB l) = plainL l := by unfold plainB; rw [strB_toList]
  have hP := plain_any (strB l) w
  rw [hpl] at hP
  cases hp : plainL l
  · rw [hp] at hP
    have HN := Lib.hid (show quoL l = [39] ++ sgnL l ++ [39] from by unfold quoL; rw [hp]; rfl)
    have HC := Lib.hid hc
    have hsz := strB_size l
    have hcv := fun W : World => Lib.run_convert_string_bytes (P := Tryz.prog) W 9 61 5 (strB l) Tryz.underlying9 Tryz.underlying61 Tryz.underlying5
    have hcells : ∀ (W : World) k c, l[k]? = some c → (Lib.bytesWorld W 5 (strB l)).cell? ⟨W.heap.size, k, none⟩ = some (.int .u8 (c.toNat : Int)) := fun W k c hk => by
      have hlt := (List.getElem?_eq_some_iff.1 hk).1
      rw [Lib.bytesWorld_cell W _ _ k (by rw [hsz]; exact hlt), strB_toList]
      simp [List.getD, hk]
    generalize hgs : strB l = s at *
    have HL := Lib.hid hcells
    have HP := Lib.hid hP
    clear hcells hP hgs hc hp hpl
    go_enter Tryz.func69, Tryz.ntmps69
    go_upto_region 3 with (go_at_call 111; refine HP.out.mono ?_; rintro e w1 ⟨rfl, hx⟩; have HX := Lib.hid (show Ext w w1 from hx); clear hx)
    have HB0 := Lib.hid (show Lib.IsBuilder 63 5 w1.heap.size w1.heap.size [] (w1.alloc (.cells #[.pointer none, .slice none 0 0] 63)) from .inl ⟨Nat.le_refl _, .slice none 0 0, Blk.new _ _ _, World.ownsRow_nil _ _ _ _, by simp [Value.ownBlock]⟩)
    go_upto_region 5 with (go_at_call 112; refine (Tryz.Builder_WriteByte w1.heap.size _ _ _ _ HB0.out (by simp) (by simp)).mono ?_; rintro e w2 ⟨rfl, hb, hx⟩; have HB := Lib.hid (show Lib.BuilderAt 63 5 w1.heap.size w1.heap.size (.pointer (some ⟨w1.heap.size, 0, none⟩)) (Lib.byteCells [39]) w2 from hb); have HY := Lib.hid (show Ext w1 w2 from Below.trans (ext_box w1 _) hx); clear hb hx)
    have hcv2 := hcv w2
    have hl2 := HL.out w2
    have HCL := Lib.hid hl2
    have hnew := Lib.bytesWorld_at_new w2 5 s
    have hbu : ∃ v, BuAt w1.heap.size (Lib.bytesWorld w2 5 s) w1.heap.size v [39] := by
      obtain ⟨_, v, h2, h3, _⟩ := HB.out
      have hx := ext_bytes w2 5 s
      exact ⟨v, hx.heap h2, own_ext h3 hx⟩
    obtain ⟨v0, hv0⟩ := hbu
    have HB1 := Lib.hid hv0
    have HX1 := Lib.hid (Ext.trans HX.out (Ext.trans HY.out (ext_bytes w2 5 s)))
    have hw1 : w1.heap.size ≤ w2.heap.size := HY.out.size
    have hww : w.heap.size ≤ w1.heap.size := HX.out.size
    have hbs := Lib.bytesWorld_size w2 5 s
    have HNEW := Lib.hid hnew
    have hlt2 : w1.heap.size < w2.heap.size := by
      obtain ⟨_, v, h2, _⟩ := HB.out
      exact heap_lt h2
    clear hcv hl2 HL hv0 hnew HB
    go_wp2_with fail
    go_loopw [13] (fun i wr => ∃ k : Nat, ∃ v : Value, k ≤ l.length ∧ i = .int .i64 k ∧ Hid (BuAt w1.heap.size wr w1.heap.size v ([39] ++ sgnL (l.take k))) ∧ Hid (Ext w wr) ∧ Hid (wr.heap[w2.heap.size]? = (Lib.bytesWorld w2 5 s).heap[w2.heap.size]?) ∧ w2.heap.size < wr.heap.size) (fun i _ => l.length - (intOf i).toNat)
    case atStart => exact ⟨0, v0, Nat.zero_le _, rfl, HB1.out, HX1.out, rfl, by omega⟩
    case round =>
      obtain ⟨k, v, hk, rfl, HV, HW, HK, hkw⟩ := hrel
      by_cases hlt : k < l.length
      · have ho : l[k]? = some l[k] := List.getElem?_eq_getElem hlt
        have hcc := HC.out l[k] (List.getElem_mem hlt)
        generalize l[k] = c at ho hcc
        have d0 : wr.cell? ⟨w2.heap.size, k, none⟩ = some (.int .u8 (c.toNat : Int)) := (World.cell?_of_block (a := ⟨w2.heap.size, k, none⟩) HK.out).trans (HCL.out k c ho)
        have HST := Lib.hid (sgnL_step l k c ho)
        have HSG := fun W => Lib.hid (sgn_any c W hcc)
        have hs2 := sgnS_len c
        have hs3 := sgnL_len (l.take k)
        have hs4 : (l.take k).length ≤ 1000 := by rw [List.length_take]; omega
        have hs5 := strB_size (sgnS c)
        have hs6 : ([39] ++ sgnL (l.take k)).length ≤ 2001 := by simp; omega
        have HS5 := Lib.hid hs5
        clear ho hcc
        go_wp2_with (first | (go_at_call 113; refine (HSG _).out.mono ?_; rintro e w3 ⟨rfl, hx⟩; have HV3 := Lib.hid (show BuAt w1.heap.size w3 w1.heap.size v ([39] ++ sgnL (l.take k)) from ⟨HV.out.blk.ext hx, own_ext HV.out.own hx⟩); have HW3 := Lib.hid (HW.out.trans hx); have HK3 := Lib.hid ((hx.block _ hkw).trans HK.out); have hk3 : w2.heap.size < w3.heap.size := Nat.lt_of_lt_of_le hkw hx.size; clear hx) | (go_at_call 27; refine (writeString_any w1.heap.size _ v _ _ _ HV3.out (by omega) (by rw [HS5.out]; omega)).mono ?_; rintro e w4 ⟨rfl, v4, h4, hm4⟩; have HV4 := Lib.hid h4; have HM4 := Lib.hid hm4; clear h4 hm4))
        have hfar := HV3.out.far
        have hno := own_heap HV3.out.own (HK3.out.trans HNEW.out) (.inr (by simp))
        go_roundw
        case rel =>
          refine ⟨k + 1, v4, hlt, by go_num, ?_, ext_mods HW3.out HM4.out (fun x hx => ?_), (HM4.out.block _ hk3 ?_).trans HK3.out, Nat.lt_of_lt_of_le hk3 HM4.out.size⟩
          · have h4 := HV4.out
            rw [strB_toList] at h4
            rw [HST.out, ← List.append_assoc]
            exact h4
          · rcases List.mem_cons.1 hx with rfl | hx
            · exact hww
            · exact Nat.le_trans hww (hfar x hx)
          · intro hm
            rcases List.mem_cons.1 hm with h | h
            · omega
            · exact hno h
        case measure => simp [intOf]; omega
      · obtain rfl : k = l.length := by omega
        rw [List.take_length] at HV
        have hlen := sgnL_len l
        have hbl : Lib.IsBuilder 63 5 w1.heap.size w1.heap.size (Lib.byteCells ([39] ++ sgnL l)) wr := by
          refine .inr ⟨Nat.le_refl _, v, HV.out.blk, ?_, fun h => HV.out.no (by simp [ownL, h])⟩
          have h1 := HV.out.own
          rw [show (Lib.byteCells ([39] ++ sgnL l)).length = ([39] ++ sgnL l).length from by simp [Lib.byteCells]]
          exact h1
        have HBL := Lib.hid hbl
        have hbw : w1.heap.size ≤ wr.heap.size := by omega
        have hbl2 : (Lib.byteCells ([39] ++ sgnL l)).length + 1 ≤ 140737488355328 := by simp [Lib.byteCells]; omega
        clear hbl
        go_wp2_with (first | (go_at_call 112; refine (Tryz.Builder_WriteByte w1.heap.size _ _ _ _ HBL.out hbl2 hbw).mono ?_; rintro e w5 ⟨rfl, hb, hx⟩; have HB5 := Lib.hid (show Lib.IsBuilder 63 5 w1.heap.size w1.heap.size (Lib.byteCells ([39] ++ sgnL l ++ [39])) w5 from .inr (by simpa [Lib.byteCells] using hb)); have HX5 := Lib.hid hx; have hs5 := hx.size; clear hb hx) | (go_at_call 29; refine (Tryz.Builder_String_any w1.heap.size _ _ _ HB5.out (by omega)).mono ?_; rintro e w6 ⟨rfl, hx⟩; have HX6 := Lib.hid hx; clear hx))
        go_ret
        refine ⟨by rw [HN.out]; rfl, ?_⟩
        exact Below.trans HW.out (Below.mono (Below.trans HX5.out HX6.out) hww)
  · rw [hp] at hP
    have HN := Lib.hid (show quoL l = l from by unfold quoL; rw [hp]; rfl)
    generalize hgs : strB l = s at *
    have HGS := Lib.hid hgs
    have HP := Lib.hid hP
    clear hP hgs hc hp hpl
    go_enter Tryz.func69, Tryz.ntmps69
    go_wp2_with (go_at_call 111; refine HP.out.mono ?_; rintro e w1 ⟨rfl, hx⟩; have HX := Lib.hid (show Ext w w1 from hx); clear hx)
    go_ret
    exact ⟨by rw [HN.out, HGS.out]; rfl, HX.out⟩

end Go.Proofs.YtmnnhdegoapfcaaGreatDoor
