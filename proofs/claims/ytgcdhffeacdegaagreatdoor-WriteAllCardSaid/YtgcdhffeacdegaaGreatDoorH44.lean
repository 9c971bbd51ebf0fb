/- Layer 11, the program: the walk of Bindings. -/
import Derived.Test.YtgcdhffeacdegaaGreatDoorH20
import Derived.Test.YtgcdhffeacdegaaGreatDoorH43
import Derived.Test.YtgcdhffeacdegaaGreatDoorH39
import Derived.Test.YtgcdhffeacdegaaGreatDoorH22
import Derived.Test.YtgcdhffeacdegaaGreatDoorH38
import Derived.BigQuiet
namespace Go.Proofs.YtgcdhffeacdegaaGreatDoor
open Go.RowKit Go.El
theorem WrSt.mods1 {base : Nat} {w w' : World} {b m : Nat} {v : Value} {F : List UInt8} (h : WrSt base w b v F none (.pointer none)) (x : Mods [m] w w') (hb : m ≠ b) (hm : m < base) : WrSt base w' b v F none (.pointer none) := by
 obtain ⟨⟨p, h1, h2, h3, h4⟩, ho, hl, hlim⟩ := h
 refine ⟨⟨p, h1, h2.mods x (by simp; omega), own_mods h3 x (fun k hk => ?_), h4⟩, ho, Nat.le_trans hl x.size, hlim⟩
 have := h4 k hk
 simp
 omega
theorem env_in {base : Nat} {w wr : World} {b : Nat} {v : Value} {F : List UInt8} {o : OpsV} {op : Value} (he : Env w) (x : Ext w wr) (h : WrSt base wr b v F o op) (hb : w.heap.size ≤ b) (hB : w.heap.size ≤ base) : EnvIn wr b v := by
 have hc : ∀ g, g < w.heap.size → Clr wr b v g := fun g hg => ⟨by omega, fun e => by have := h.bld.choose_spec.far g e; omega, Nat.lt_of_lt_of_le hg x.size⟩
 exact ⟨he.ext x, hc _ (cell_lt he.tz), hc _ (var_lt pwNamed he.pw), hc _ (cell_lt he.ty.h0)⟩
theorem tm_in {base : Nat} {w wr : World} {b : Nat} {v : Value} {F : List UInt8} {o : OpsV} {op : Value} {t : Tm} {A : Option Addr} {c : Nat} (h : WrSt base w b v F o op) (ht : TmIn (fun k => w.heap.size ≤ k ∧ k < wr.heap.size) wr t A c) : TmIn (Clr wr b v) wr t A c :=
 ht.mono (fun k hk => ⟨by have := h.bld.choose_spec.blk.lt; omega, fun e => by have := (h.bld.choose_spec.own.lt k e).2; omega, hk.2⟩)
theorem wrLen {base : Nat} {w : World} {b : Nat} {v : Value} {F : List UInt8} {o : OpsV} {op : Value} (h : WrSt base w b v F o op) :
  Calls Tryz.prog 76 #[.pointer (some ⟨b, 0, none⟩)] w fun e w' => e = .returned (.int .i64 F.length) ∧ w = w' := by
 obtain ⟨⟨p, hb⟩, _, _, _⟩ := h
 exact (bldLen_any _ _ _ _ _ _ _ _ hb).mono (fun _ _ h => ⟨h.1, h.2.symm⟩)
theorem wr_ext {base : Nat} {w wr w' : World} {b : Nat} {v v' : Value} {F : List UInt8} {o : OpsV} {op : Value} (x : Ext w wr) (h : WrSt base wr b v F o op) (hb : w.heap.size ≤ b) (hB : w.heap.size ≤ base) (s : WStep b v wr v' w') : Ext w w' := by
 refine ext_mods x s.mods (fun k hk => ?_)
 rcases List.mem_cons.1 hk with e | e
 ·omega
 ·have := h.bld.choose_spec.far k (by simpa [ownL] using e)
  omega
theorem wr_map {base : Nat} {wr w' : World} {b m : Nat} {v v' : Value} {F : List UInt8} {o : OpsV} {op : Value} {ps : List (Int × Value)} (hM : MapAt (Value.int .i64) wr m ps) (h : WrSt base wr b v F o op) (hb : m ≠ b) (hm : m < base) (s : WStep b v wr v' w') : MapAt (Value.int .i64) w' m ps := by
 refine hM.mods s.mods (fun hk => ?_)
 rcases List.mem_cons.1 hk with e | e
 ·omega
 ·have := h.bld.choose_spec.far m (by simpa [ownL] using e)
  omega
theorem ret_2 {s s' : ByteArray} {n n' : Int} (h : s = s') (k : n = n') : Ending.returned (.tuple #[.string s, .int .i64 n]) = .returned (.tuple #[.string s', .int .i64 n']) := by rw [h, k]
def bndS (ns : List ByteArray) (l : List Tm) : ByteArray := if ns.length ≠ l.length then ⟨#[]⟩ else if fstBad l ≠ 0 then ⟨#[]⟩ else txtS (bndF ns l)
def bndE (ns : List ByteArray) (l : List Tm) : Int := if ns.length ≠ l.length then 1 else if fstBad l ≠ 0 then fstBad l else txtE (bndF ns l)
set_option maxRecDepth 100000 in
set_option maxHeartbeats 8000000 in
theorem bindings_even (ns : List ByteArray) (l : List Tm) (An A : Option Addr) (cn c : Nat) (w : World) (D : Nat → Prop) (hne : ns.length = l.length) (hn : El.Src w An ns.length 1 (ns.map Value.string)) (ht : TmsIn D w l A c) (he : Env w) (hl : l.length ≤ 100) (hns : ∀ s ∈ ns, s.size ≤ 1000) (hsz : ∀ t ∈ l, szT t ≤ 1000000000) :
  Calls Tryz.prog 47 #[.slice An ns.length cn, .slice A l.length c] w fun e w' => e = .returned (.tuple #[.string (bndS ns l), .int .i64 (bndE ns l)]) ∧ Ext w w' := by
 have hmm := @run_makeMap Tryz.prog
 have hneg : ¬ ns.length ≠ l.length := fun h => h hne
 rw [show bndS ns l = (if fstBad l ≠ 0 then ⟨#[]⟩ else txtS (bndF ns l)) from if_neg hneg, show bndE ns l = (if fstBad l ≠ 0 then fstBad l else txtE (bndF ns l)) from if_neg hneg]
 generalize hbS : (if fstBad l ≠ 0 then (⟨#[]⟩ : ByteArray) else txtS (bndF ns l)) = bS
 generalize hbE : (if fstBad l ≠ 0 then fstBad l else txtE (bndF ns l)) = bE
 have HBS0 := Lib.hid hbS
 have HBE0 := Lib.hid hbE
 have HNE := Lib.hid hne
 have HN := Lib.hid hn
 have HT := Lib.hid ht.lt
 have HE := Lib.hid he
 have HNS := Lib.hid hns
 have HSZ := Lib.hid hsz
 rw [hne]
 clear hne hneg hn ht he hns hsz hbS hbE
 go_enter Tryz.func47, Tryz.ntmps47
 go_upto_region 4 with fail
 go_loopw [20] (fun i wr => ∃ j : Nat, j ≤ l.length ∧ i = .int .i64 j ∧ Hid (∀ t ∈ l.take j, chkT t = 0) ∧ Hid (Ext w wr)) (fun i _ => l.length - (intOf i).toNat)
 case atStart => exact ⟨0, Nat.zero_le _, rfl, Lib.hid (by simp), Lib.hid (Ext.refl _)⟩
 case round =>
  obtain ⟨j, hj, rfl, HC, HX⟩ := hrel
  by_cases hlt : j < l.length
  ·have ho : l[j]? = some l[j] := List.getElem?_eq_getElem hlt
   have hsu := HSZ.out _ (List.getElem_mem hlt)
   have HFB := Lib.hid (fun h => fstBad_first HC.out ho h)
   have HTK := Lib.hid (List.take_succ_eq_append_getElem hlt)
   generalize l[j] = u at ho hsu HFB HTK
   obtain ⟨bb, off, A', c', rfl, _, hu, q0, q1, q2, q3⟩ := (HT.out.ext HX.out).child (j := j) ho
   have HK := Lib.hid (check_any u A' c' _ _ (hu.ext (ext_box wr (.cells #[.int .i64 u.k, .int .i64 u.n, .string u.s, .slice A' u.l.length c'] 32))) hsu)
   clear ho hu hsu
   unfold tmVal at HK
   by_cases hc : chkT u = 0
   ·rw [hc] at HK
    have HCU := Lib.hid hc
    clear hc HFB
    go_wp2_with (go_at_call 43; refine HK.out.mono ?_; rintro e W1 ⟨rfl, h1⟩; have HX1 := Lib.hid ((HX.out.trans (ext_box _ _)).trans h1); clear h1)
    go_roundw
    case rel =>
     refine ⟨j + 1, hlt, by go_num, Lib.hid (fun t ht => ?_), HX1⟩
     rw [HTK.out] at ht
     rcases List.mem_append.1 ht with h | h
     ·exact HC.out t h
     ·simp at h
      rw [h]
      exact HCU.out
    case measure => simp [intOf]; omega
   ·have hfb := HFB.out hc
    have hf0 : fstBad l ≠ 0 := by rw [hfb]; exact hc
    have E1 : Hid (bS = ⟨#[]⟩) := by
     rw [← HBS0.out]
     exact if_pos hf0
    have E2 : Hid (bE = chkT u) := by
     rw [← HBE0.out, ← hfb]
     exact if_pos hf0
    have p1 : (chkT u == 0) = false := by simpa using hc
    have p2 : (chkT u != 0) = true := by simpa using hc
    clear hc hfb hf0 HFB
    generalize chkT u = r at HK E2 p1 p2
    go_wp2_with (go_at_call 43; refine HK.out.mono ?_; rintro e W1 ⟨rfl, h1⟩; have HX1 := Lib.hid ((HX.out.trans (ext_box _ _)).trans h1); clear h1)
    go_ret2
    exact ⟨ret_2 E1.out.symm E2.out.symm, HX1.out⟩
  ·obtain rfl : j = l.length := by omega
   rw [List.take_length] at HC
   have hf0 := fstBad_none HC.out
   have hfn : ¬ fstBad l ≠ 0 := fun h => h hf0
   have E1 : Hid (bS = txtS (bndF ns l)) := by
    rw [← HBS0.out]
    exact if_neg hfn
   have E2 : Hid (bE = txtE (bndF ns l)) := by
    rw [← HBE0.out]
    exact if_neg hfn
   have HMAY := Lib.hid (fun t (ht : t ∈ l) => (show mayT t = true by unfold mayT; simp [HC.out t ht]))
   have HZL : Hid (∀ x ∈ ns.zip l, x.1.size ≤ 1000 ∧ mayT x.2 = true) := fun x hx => by
    obtain ⟨h1, h2⟩ := List.of_mem_zip (a := x.1) (b := x.2) hx
    exact ⟨HNS.out _ h1, HMAY.out _ h2⟩
   have hzl : (ns.zip l).length = l.length := by rw [List.length_zip, HNE.out]; simp
   have HZ := Lib.hid hzl
   clear hf0 hfn HC hzl hj
   go_upto_region 13 with fail
   refine wp_abs (fun V => Hid (Blk V wr.heap.size 122 #[.pointer none, .slice none 0 0, .pointer none]) ∧ Hid (MapAt (Value.int .i64) V (wr.heap.size + 1) []) ∧ Hid (Ext w V)) ⟨(Blk.new wr _ _).alloc _, ?_, (HX.out.alloc _).alloc _⟩ ?_
   ·have := MapAt.new (Value.int .i64) (wr.alloc (.cells #[.pointer none, .slice none 0 0, .pointer none] 122))
    rw [World.size_alloc] at this
    exact this
   rintro V ⟨HW, HM, HV⟩
   have hbV : w.heap.size ≤ wr.heap.size := HX.out.size
   have hmV : wr.heap.size + 1 < V.heap.size := HM.out.lt
   clear HX hlt
   generalize wr.heap.size = b at *
   clear wr
   go_loopw [35] (fun i wr => ∃ (j : Nat) (v : Value), j ≤ l.length ∧ i = .int .i64 j ∧ Hid (WrSt V.heap.size wr b v (bdL ((ns.zip l).take j)).1 none (.pointer none)) ∧ Hid (MapAt (Value.int .i64) wr (b + 1) (numP (bdL ((ns.zip l).take j)).2)) ∧ Hid (Ext w wr)) (fun i _ => l.length - (intOf i).toNat)
   case atStart => exact ⟨0, .slice none 0 0, Nat.zero_le _, rfl, ⟨⟨.pointer none, .inl rfl, HW.out, World.ownsRow_nil _ _ _ _, fun k hk => by simp [Value.ownBlock] at hk⟩, rfl, Nat.le_refl _, Nat.zero_le _⟩, HM.out, HV⟩
   case round =>
    obtain ⟨j, v, hj, rfl, HS, HP, HX⟩ := hrel
    have hbB : w.heap.size ≤ V.heap.size := by omega
    by_cases hlt : j < l.length
    ·have hln : j < ns.length := by rw [HNE.out]; exact hlt
     have ho : l[j]? = some l[j] := List.getElem?_eq_getElem hlt
     have hs : ns[j]? = some ns[j] := List.getElem?_eq_getElem hln
     have hz : (ns.zip l)[j]? = some (ns[j], l[j]) := by rw [List.getElem?_zip_eq_some]; exact ⟨hs, ho⟩
     have HTK := Lib.hid (bdL_take hz)
     have hbl := bdL_len (j := j) HZL.out (by rw [HZ.out]; omega)
     have hmu := HMAY.out _ (List.getElem_mem hlt)
     have hnu := HNS.out _ (List.getElem_mem hln)
     obtain ⟨bn, on, rfl, hcn⟩ := El.Src.form HN.out (by omega) (by omega)
     have n0 : w.cell? ⟨bn, on + j, none⟩ = some (.string ns[j]) := hcn j _ (by simp [hs])
     clear hcn hs hz
     generalize ns[j] = nm at *
     generalize l[j] = u at *
     generalize bdL ((ns.zip l).take j) = a at *
     obtain ⟨F, vs⟩ := a
     dsimp only at HS HP hbl
     obtain ⟨bb, off, A', c', rfl, _, hu, q0, q1, q2, q3⟩ := HT.out.child (j := j) ho
     have HU := Lib.hid hu
     have HN0 := Lib.hid n0
     have hx := ext_box wr (.cells #[.int .i64 u.k, .int .i64 u.n, .string u.s, .slice A' u.l.length c'] 32)
     have p0 := HX.out.cell q0
     have p1 := HX.out.cell q1
     have p2 := HX.out.cell q2
     have p3 := HX.out.cell q3
     have n1 := HX.out.cell n0
     have n2 := hx.cell n1
     clear q0 q1 q2 q3 n0 ho hu
     by_cases h95 : nm.data.toList = [95]
     ·have s2 : (nm.toList == [95]) = true := by rw [ByteArray.toList_eq]; simpa using h95
      have HBS : Hid (bdS (F, vs) (nm, u) = (F, vs)) := if_pos h95
      clear h95
      go_wp2_with fail
      go_roundw
      case rel =>
       refine ⟨j + 1, v, hlt, by go_num, ?_, ?_, Lib.hid (HX.out.trans hx)⟩
       ·rw [HTK.out, HBS.out]
        exact Lib.hid (HS.out.go hx)
       ·rw [HTK.out, HBS.out]
        exact Lib.hid (HP.out.ext hx)
      case measure => simp [intOf]; omega
     ·have s2 := lit_ne h95
      have HBS : Hid (bdS (F, vs) (nm, u) = (F ++ sepF F ++ (nm.data.toList ++ [32, 61, 32]) ++ txT none (rnT u vs) 1200, vsT u vs)) := if_neg h95
      have hmr := rnT_may hmu (show vs.length ≤ 1000000000 by omega)
      obtain ⟨hok, _, hsz⟩ := mayT_iff.1 hmu
      have hszr := (rnT_size u vs hok).1
      have HMR := Lib.hid hmr
      have HOK := Lib.hid hok
      have HS2 := Lib.hid (HS.out.go hx)
      have hsep : (sepF F).length ≤ 2 := by unfold sepF; split <;> simp
      have hbig : nm.size ≤ 1000 := hnu
      have hbg : ¬ 9223372036854775807 < nm.size + 3 := by omega
      have HCL := Lib.hid (new_clr (W := wr.alloc (.cells #[.int .i64 u.k, .int .i64 u.n, .string u.s, .slice A' u.l.length c'] 32)) HS.out (Nat.le_refl _) (by rw [World.size_alloc]; omega))
      clear h95 hmr hok
      by_cases hF : F = []
      case' pos =>
       have hsp : sepF F = [] := if_pos hF
       have hfl : (F.length : Int) = 0 := by rw [hF]; rfl
       have hfp : ¬ (0 : Int) < (F.length : Int) := by omega
       have HSP := Lib.hid hsp
       clear hF hfl hsp
       go_upto_region 18 with (go_at_call 76; refine (wrLen HS2.out).mono ?_; rintro e w' ⟨rfl, rfl⟩)
       refine wp_abs (fun W => ∃ v2, Hid (WrSt V.heap.size W b v2 (F ++ sepF F) none (.pointer none)) ∧ Hid (Blk W wr.heap.size 32 #[.int .i64 u.k, .int .i64 u.n, .string u.s, .slice A' u.l.length c']) ∧ Hid (Clr W b v2 wr.heap.size) ∧ Hid (MapAt (Value.int .i64) W (b + 1) (numP vs)) ∧ Hid (Ext w W)) ⟨v, by rw [HSP.out, List.append_nil]; exact HS2, Lib.hid (Blk.new _ _ _), HCL, Lib.hid (HP.out.ext hx), Lib.hid (HX.out.trans hx)⟩ ?_
      case' neg =>
       have hsp : sepF F = [44, 32] := if_neg hF
       have hfl : F.length ≠ 0 := fun e => hF (List.eq_nil_of_length_eq_zero e)
       have hfp : (0 : Int) < (F.length : Int) := by omega
       have HSP := Lib.hid hsp
       clear hF hfl hsp
       go_upto_region 18 with (first | (go_at_call 76; refine (wrLen HS2.out).mono ?_; rintro e w' ⟨rfl, rfl⟩) | (go_at_call 77; refine (wrString HS2.out ⟨#[44, 32]⟩ (by rw [show (⟨#[44, 32]⟩ : ByteArray).size = 2 from rfl]; omega)).mono ?_; rintro e W2 ⟨rfl, v2, h2, s2'⟩; have H2 := Lib.hid h2; have S2 := Lib.hid s2'; clear h2 s2'))
       refine wp_abs (fun W => ∃ v2, Hid (WrSt V.heap.size W b v2 (F ++ sepF F) none (.pointer none)) ∧ Hid (Blk W wr.heap.size 32 #[.int .i64 u.k, .int .i64 u.n, .string u.s, .slice A' u.l.length c']) ∧ Hid (Clr W b v2 wr.heap.size) ∧ Hid (MapAt (Value.int .i64) W (b + 1) (numP vs)) ∧ Hid (Ext w W)) ⟨v2, by rw [HSP.out]; exact H2, Lib.hid (Blk.mods (Blk.new _ _ _) S2.out.mods HCL.out.no), Lib.hid (S2.out.clr HCL.out), Lib.hid (wr_map (HP.out.ext hx) HS2.out (by omega) (by omega) S2.out), Lib.hid (wr_ext (HX.out.trans hx) HS2.out (by omega) hbB S2.out)⟩ ?_
       clear H2 S2
      all_goals
       rintro W ⟨v2, HS3, HB3, HC3, HP3, HX3⟩
       clear p0 p1 p2 p3 n1 n2 hfp HSP HS2 HCL HS HP HX
       have n3 := HX3.out.cell HN0.out
       have hlF : (F ++ sepF F).length ≤ 200000002 := by rw [List.length_append]; omega
       generalize F ++ sepF F = G at *
       go_region_law ((go_simp; go_at_call 77; refine (wrString (HS3.out.go ((Ext.refl W).drew)) _ (by rw [ByteArray.size_append, show (⟨#[32, 61, 32]⟩ : ByteArray).size = 3 from rfl]; omega)).mono ?_; rintro e W4 ⟨rfl, v4, h4, s4⟩; have H4 := Lib.hid h4; have HX4 := Lib.hid (wr_ext HX3.out.drew (HS3.out.go ((Ext.refl W).drew)) (by omega) hbB s4); have HP4 := Lib.hid (wr_map (HP3.out.ext ((Ext.refl W).drew)) (HS3.out.go ((Ext.refl W).drew)) (by omega) (by omega) s4); have HB4 := Lib.hid (Blk.mods (HB3.out.ext ((Ext.refl W).drew)) s4.mods (show wr.heap.size ∉ b :: ownL v2 from HC3.out.no)); clear h4 s4))
       all_goals
        have y0 : W4.cell? ⟨wr.heap.size, 0, none⟩ = some (.int .i64 u.k) := HB4.out.cell 0
        have y1 : W4.cell? ⟨wr.heap.size, 1, none⟩ = some (.int .i64 u.n) := HB4.out.cell 1
        have y2 : W4.cell? ⟨wr.heap.size, 2, none⟩ = some (.string u.s) := HB4.out.cell 2
        have y3 : W4.cell? ⟨wr.heap.size, 3, none⟩ = some (.slice A' u.l.length c') := HB4.out.cell 3
        have HR := Lib.hid (renOf_any (szT u) u (Nat.le_refl _) (by omega) HOK.out vs A' c' W4 (fun k => k < w.heap.size) (b + 1) (by omega) (HU.out.ext HX4.out) (fun k hk => by omega) HP4.out)
        have hl4 : (G ++ (nm ++ (⟨#[32, 61, 32]⟩ : ByteArray)).data.toList).length + 400 * szT (rnT u vs) ≤ 800000000 := by
         rw [List.length_append, app_list, List.length_append, show nm.data.toList.length = nm.size by simp, show (⟨#[32, 61, 32]⟩ : ByteArray).data.toList.length = 3 from rfl]
         omega
        unfold tmVal at HR
        go_wp2_with (first | (go_at_call 79; refine HR.out.mono ?_; rintro e W5 ⟨A5, c5, rfl, ht5, hp5, hx5⟩; have H5 := Lib.hid (H4.out.mods1 hx5 (by omega) (by omega)); have HX5 := Lib.hid (ext_mods HX4.out hx5 (fun k hk => by simp at hk; omega)); have HP5 := Lib.hid hp5; have HTM := Lib.hid (term_all (szT (rnT u vs)) (rnT u vs) (Nat.le_refl _) HMR.out V.heap.size W5 b v4 _ none (.pointer none) 1200 A5 c5 H5.out (env_in HE.out HX5.out H5.out (by omega) hbB) (tm_in H4.out ht5) hl4 (by omega) (by omega)); clear ht5 hp5 hx5) | (go_at_call 78; refine HTM.out.mono ?_; rintro e W6 ⟨rfl, v6, h6, s6⟩; have H6 := Lib.hid h6; have HX6 := Lib.hid (wr_ext HX5.out H5.out (by omega) hbB s6); have HP6 := Lib.hid (wr_map HP5.out H5.out (by omega) (by omega) s6); clear h6 s6))
        go_roundw
        case rel =>
         refine ⟨j + 1, v6, hlt, by go_num, ?_, ?_, HX6⟩
         ·rw [HTK.out, HBS.out]
          have := H6.out
          rw [app_list] at this
          exact Lib.hid this
         ·rw [HTK.out, HBS.out]
          exact HP6
        case measure => simp [intOf]; omega
    ·obtain rfl : j = l.length := by omega
     rw [List.take_of_length_le (by rw [HZ.out]; omega)] at HS HP
     have hbf : bndF ns l = if (bdL (ns.zip l)).1 = [] then [116, 114, 117, 101] else (bdL (ns.zip l)).1 := rfl
     have hlm := HS.out.lim
     rw [hbf] at E1 E2
     clear hbf HP HBS0 HBE0
     generalize (bdL (ns.zip l)).1 = F at *
     by_cases hF : F = []
     ·rw [if_pos hF] at E1 E2
      have hfl : ((F.length : Int) == 0) = true := by rw [hF]; rfl
      have hfl2 : (F.length : Int) = 0 := by rw [hF]; rfl
      have HF := Lib.hid hF
      clear hF
      go_upto_region 23 with (first | (go_at_call 76; refine (wrLen HS.out).mono ?_; rintro e w' ⟨rfl, rfl⟩) | (go_at_call 77; refine (wrString HS.out ⟨#[116, 114, 117, 101]⟩ (by rw [HF.out]; decide)).mono ?_; rintro e W2 ⟨rfl, v2, h2, s2⟩; rw [HF.out] at h2; have H2 := Lib.hid (show WrSt V.heap.size W2 b v2 [116, 114, 117, 101] none (.pointer none) from h2); have HX2 := Lib.hid (wr_ext HX.out HS.out (by omega) hbB s2); clear h2 s2))
      have HD := Lib.hid (done_any H2.out (by simp))
      go_wp2_with (go_at_call 80; refine HD.out.mono ?_; rintro e W3 ⟨rfl, h3⟩; have H3 := Lib.hid h3; clear h3)
      go_ret2
      exact ⟨ret_2 E1.out.symm E2.out.symm, Below.trans HX2.out (H3.out.mono hbB)⟩
     ·rw [if_neg hF] at E1 E2
      have hfl : ((F.length : Int) == 0) = false := by
       have : F.length ≠ 0 := fun e => hF (List.eq_nil_of_length_eq_zero e)
       simpa using this
      have HD := Lib.hid (done_any HS.out hF)
      clear hF
      go_wp2_with (first | (go_at_call 76; refine (wrLen HS.out).mono ?_; rintro e w' ⟨rfl, rfl⟩) | (go_at_call 80; refine HD.out.mono ?_; rintro e W3 ⟨rfl, h3⟩; have H3 := Lib.hid h3; clear h3))
      go_ret2
      exact ⟨ret_2 E1.out.symm E2.out.symm, Below.trans HX.out (H3.out.mono hbB)⟩
end Go.Proofs.YtgcdhffeacdegaaGreatDoor

/- Taken out of other seats' texts by extract.py: refVars_any, nuT, nuL_take, nuL_len, nu_rn, plc_first, hvT_pre, hvL_get, src_int, own_src, not_mem_first, IntsO.nil. -/
namespace Go.El
mutual
def nuT : Tm → List Int → Tm
 | .mk k n s l, V => if k = 1 ∧ n ∈ V then .mk 1 (plc n V) ⟨#[]⟩ [] else .mk k n s (nuL l V)
def nuL : List Tm → List Int → List Tm
 | [], _ => []
 | a :: r, V => nuT a V :: nuL r V
end
theorem nuL_len : ∀ (l : List Tm) (V : List Int), (nuL l V).length = l.length
 | [], _ => rfl
 | a :: r, V => by simp [nuL, nuL_len r]
theorem nuL_take : ∀ {l : List Tm} {j : Nat} {u : Tm} (V : List Int), l[j]? = some u → nuL (l.take (j + 1)) V = nuL (l.take j) V ++ [nuT u V]
 | [], j, u, V, h => by simp at h
 | a :: r, 0, u, V, h => by
  simp at h
  subst h
  simp [nuL]
 | a :: r, j + 1, u, V, h => by
  have := nuL_take (l := r) (j := j) (u := u) V (by simpa using h)
  simp only [List.take_succ_cons, nuL]
  rw [this]
  rfl
theorem plc_pre {n : Int} : ∀ {l r : List Int}, n ∈ l → plc n (l ++ r) = plc n l
 | m :: l, r, h => by
  simp only [List.cons_append, plc]
  split
  ·rfl
  ·rename_i hne
   have : n ∈ l := by
    rcases List.mem_cons.1 h with e | e
    ·exact absurd e.symm hne
    ·exact e
   rw [plc_pre this]
theorem addV_pre (n : Int) (l : List Int) : l <+: addV n l := by
 unfold addV
 split
 ·exact List.prefix_refl _
 ·exact List.prefix_append _ _
mutual
theorem vsT_pre : ∀ (t : Tm) (acc : List Int), acc <+: vsT t acc
 | .mk k n s l, acc => by
  simp only [vsT]
  split
  ·exact addV_pre _ _
  ·exact vsL_pre l acc
theorem vsL_pre : ∀ (l : List Tm) (acc : List Int), acc <+: vsL l acc
 | [], acc => List.prefix_refl _
 | a :: r, acc => by
  simp only [vsL]
  exact (vsT_pre a acc).trans (vsL_pre r _)
end
mutual
theorem nuT_rnT : ∀ (t : Tm) (acc V : List Int), vsT t acc <+: V → nuT t V = rnT t acc
 | .mk k n s l, acc, V, h => by
  simp only [vsT] at h
  simp only [nuT, rnT]
  by_cases hk : k = 1
  ·rw [if_pos hk] at h
   obtain ⟨r, rfl⟩ := h
   have hm := addV_mem n acc
   rw [if_pos hk, if_pos ⟨hk, List.mem_append_left _ hm⟩, plc_pre hm]
  ·rw [if_neg hk] at h
   rw [if_neg (fun e => hk e.1), if_neg hk, nuL_rnL l acc V h]
theorem nuL_rnL : ∀ (l : List Tm) (acc V : List Int), vsL l acc <+: V → nuL l V = rnL l acc
 | [], acc, V, _ => rfl
 | a :: r, acc, V, h => by
  simp only [vsL] at h
  simp only [nuL, rnL]
  rw [nuT_rnT a acc V ((vsL_pre r _).trans h), nuL_rnL r (vsT a acc) V h]
end
theorem nu_rn (t : Tm) (acc : List Int) : nuT t (vsT t acc) = rnT t acc := nuT_rnT t acc _ (List.prefix_refl _)
theorem addV_yes {n : Int} {l : List Int} (h : n ∈ l) : addV n l = l := if_pos h
theorem addV_no {n : Int} {l : List Int} (h : ¬ n ∈ l) : addV n l = l ++ [n] := if_neg h
def iV (n : Int) : Value := .int .i64 n
end Go.El
namespace Go.Proofs.YtgcdhffeacdegaaGreatDoor
open Go.RowKit Go.El
theorem intInfo : (Tryz.prog.info? 3).map (fun i => (i.zero, i.size, i.bytes)) = some (some (.int .i64 0), 1, 8) := by kernel_rfl
structure IntsO (w : World) (v : Value) (L : List Int) : Prop where
 own : w.ownsRow 0 3 1 v L.length (L.map iV)
theorem IntsO.ext {w w' : World} {v : Value} {L : List Int} (h : IntsO w v L) (x : Ext w w') : IntsO w' v L := ⟨own_ext h.own x⟩
theorem IntsO.nil (w : World) : IntsO w (.slice none 0 0) [] := ⟨World.ownsRow_nil _ _ _ _⟩
structure IStep (w w' : World) (v v' : Value) (L' : List Int) : Prop where
 own : IntsO w' v' L'
 mods : Mods (ownL v) w w'
 far : ∀ b, v'.ownBlock = some b → v.ownBlock = some b ∨ w.heap.size ≤ b
theorem IStep.of_ext {w w' : World} {v : Value} {L : List Int} (h : IntsO w v L) (x : Ext w w') : IStep w w' v v L := ⟨h.ext x, Mods.ext x, fun _ hb => .inl hb⟩
theorem IStep.pre {a w w' : World} {v v' : Value} {L' : List Int} (x : Ext a w) (h : IStep w w' v v' L') : IStep a w' v v' L' :=
 ⟨h.own, (Mods.ext x).trans h.mods, fun b hb => (h.far b hb).imp (fun h => h) (fun h => Nat.le_trans x.size h)⟩
theorem IStep.trans {a w w' : World} {v v' v2 : Value} {L L' : List Int} (h : IStep a w v v' L) (k : IStep w w' v' v2 L') : IStep a w' v v2 L' := by
 refine ⟨k.own, Mods.step h.mods k.mods (fun b hb => ?_), fun b hb => ?_⟩
 ·rcases h.far b (mem_ownL hb) with h1 | h1
  ·exact .inl (by simp [ownL, h1])
  ·exact .inr h1
 ·rcases k.far b hb with h1 | h1
  ·exact h.far b h1
  ·exact .inr (Nat.le_trans h.mods.size h1)
theorem ints_one (n : Int) : ∀ u ∈ [iV n], u.oneCell' = true := by
 intro u hu
 simp at hu
 subst hu
 rfl
theorem IStep.app {w w0 w' : World} {v v' : Value} {L : List Int} {n : Int} (x : Ext w w0) (ho : w'.ownsRow 0 3 1 v' (L.length + 1) (L.map iV ++ [iV n])) (hm : Mods (ownL v) w0 w') (hb : v'.ownBlock = v.ownBlock ∨ v'.ownBlock = some w0.heap.size) : IStep w w' v v' (L ++ [n]) := by
 refine ⟨⟨by simpa using ho⟩, (Mods.ext x).trans hm, fun b hb' => ?_⟩
 rcases hb with h | h
 ·exact .inl (h.symm.trans hb')
 ·have e := h.symm.trans hb'
  injection e with e
  exact .inr (e ▸ x.size)
theorem src_int {w : World} {A : Option Addr} {L : List Int} (h : El.Src w A L.length 1 (L.map iV)) {k : Nat} (hk : k < L.length) : ∃ b off, A = some ⟨b, off, none⟩ ∧ w.cell? ⟨b, off + k, none⟩ = some (.int .i64 L[k]) := by
 obtain ⟨b, off, rfl, hc⟩ := El.Src.form h (by omega) (by omega)
 exact ⟨b, off, rfl, hc k _ (by simp [hk, iV])⟩
theorem not_mem_first {n : Int} {l : List Int} (h : ∀ (j : Nat) (m : Int), j < l.length → l[j]? = some m → ¬ m = n) : ¬ n ∈ l := by
 intro hm
 obtain ⟨j, hj⟩ := List.mem_iff_getElem?.1 hm
 exact h j n (List.getElem?_eq_some_iff.1 hj).1 hj rfl
set_option maxRecDepth 100000 in
set_option maxHeartbeats 4000000 in
theorem varsVar_any (n : Int) (s : ByteArray) (A : Option Addr) (m c : Nat) (L : List Int) (v : Value) (w : World) (hv : IntsO w v L) (hL : L.length ≤ 1000000000) :
  Calls Tryz.prog 82 #[.agg #[.int .i64 1, .int .i64 n, .string s, .slice A m c], v] w fun e w' => ∃ v', e = .returned v' ∧ IStep w w' v v' (addV n L) := by
 obtain ⟨i1, hi1, hz0, hz1, hz2⟩ := infoP intInfo
 obtain ⟨Av, cv, rfl⟩ := own_value hv.own
 have HV := Lib.hid hv
 generalize hL2 : addV n L = L2
 have HL2 := Lib.hid hL2
 clear hv hL2
 go_enter Tryz.func82, Tryz.ntmps82
 go_upto_region 2 with fail
 refine wp_abs (fun V => Hid (Blk V w.heap.size 32 #[.int .i64 1, .int .i64 n, .string s, .slice A m c]) ∧ Hid (Ext w V)) ⟨Blk.new w _ _, (Ext.refl w).alloc _⟩ ?_
 rintro V ⟨HB0, HX0⟩
 go_wp2_with fail
 go_loopw [5] (fun i wr => ∃ j : Nat, j ≤ L.length ∧ i = .int .i64 j ∧ Ext V wr ∧ Hid (∀ (q : Nat) (x : Int), q < j → L[q]? = some x → ¬ x = n)) (fun i _ => L.length - (intOf i).toNat)
 case atStart => exact ⟨0, Nat.zero_le _, rfl, Ext.refl _, Lib.hid (fun q x h => by omega)⟩
 case round =>
  obtain ⟨j, hj, rfl, hx, HN⟩ := hrel
  have y1 : wr.cell? ⟨w.heap.size, 1, none⟩ = some (.int .i64 n) := (HB0.out.ext hx).cell 1
  by_cases hlt : j < L.length
  ·obtain ⟨b, off, rfl, e0⟩ := src_int (El.Src.of_own HV.out.own) hlt
   have d0 := (HX0.out.trans hx).cell e0
   have HJ := Lib.hid (List.getElem?_eq_getElem hlt)
   clear e0
   generalize L[j] = x at d0 HJ
   by_cases hq : x = n
   ·have hm : n ∈ L := by
     have := List.mem_of_getElem? HJ.out
     rwa [hq] at this
    have HM := Lib.hid (addV_yes hm)
    have q1 : (x == n) = true := by simpa using hq
    clear hq hm
    go_upto_region 5 with fail
    go_region
    all_goals
     go_wp2_with fail
     go_ret
     exact ⟨_, rfl, by rw [← HL2.out, HM.out]; exact IStep.of_ext HV.out (((HX0.out.trans hx)).drew)⟩
   ·have q1 : (x == n) = false := by simpa using hq
    have HQ := Lib.hid hq
    clear hq
    go_upto_region 5 with fail
    go_region
    all_goals
     go_wp2_with fail
     go_roundw
     case rel =>
      exact ⟨j + 1, hlt, by go_num, hx.drew, Lib.hid (fun q z hq hz => by
       rcases Nat.lt_succ_iff_lt_or_eq.1 hq with h | rfl
       ·exact HN.out q z h hz
       ·obtain rfl := Option.some.inj (hz.symm.trans HJ.out)
        exact HQ.out)⟩
     case measure => simp [intOf]; omega
  ·obtain rfl : j = L.length := by omega
   have HM := Lib.hid (addV_no (not_mem_first HN.out))
   have hE := HX0.out.trans hx
   go_wp2_with (at_builtin; refine wpList_append_src (P := Tryz.prog) rfl _ _ 92 rfl 3 i1 _ 1 8 Tryz.underlying92 hi1 hz0 hz1 hz2 rfl (by omega) (.slice Av L.length cv) rfl _ _ _ rfl L.length (L.map iV) (own_ext HV.out.own (hE.alloc _)) [iV n] (El.Src.new _ #[.int .i64 n] _ 1 1 rfl) (ints_one n) (by unfold maxLen; omega) (by omega) ?_; intro v3 w3 ho3 hm3 hb3; have HS3 := Lib.hid (IStep.app (hE.alloc _) ho3 hm3 hb3); clear ho3 hm3 hb3)
   go_ret
   exact ⟨_, rfl, by rw [← HL2.out, HM.out]; exact HS3.out⟩
theorem IStep.tm {w w' : World} {v v' : Value} {L : List Int} {D : Nat → Prop} {u : Tm} {A : Option Addr} {c : Nat} (h : IStep w w' v v' L) (hD : ∀ k, D k → k < w.heap.size ∧ v.ownBlock ≠ some k) (ht : TmIn D w u A c) : TmIn D w' u A c :=
 TmIn.mods h.mods (fun k hk hm => (hD k hk).2 (mem_ownL hm)) (fun _ h => h) ht
theorem IStep.off {w w' : World} {v v' : Value} {L : List Int} {D : Nat → Prop} (h : IStep w w' v v' L) (hD : ∀ k, D k → k < w.heap.size ∧ v.ownBlock ≠ some k) : ∀ k, D k → k < w'.heap.size ∧ v'.ownBlock ≠ some k := fun k hk => by
 refine ⟨Nat.lt_of_lt_of_le (hD k hk).1 h.mods.size, fun e => ?_⟩
 rcases h.far k e with h1 | h1
 ·exact (hD k hk).2 h1
 ·have := (hD k hk).1
  omega
theorem IStep.blk {w w' : World} {v v' : Value} {L : List Int} {b : Nat} {t : TypeId} {cs : Array Value} (h : IStep w w' v v' L) (hv : v.ownBlock ≠ some b) (hB : Blk w b t cs) : Blk w' b t cs :=
 hB.mods h.mods (fun hm => hv (mem_ownL hm))
set_option maxRecDepth 100000 in
set_option maxHeartbeats 4000000 in
theorem vars_any : ∀ (N : Nat) (t : Tm), szT t ≤ N → szT t ≤ 100000000 → ∀ (L : List Int) (A : Option Addr) (c : Nat) (v : Value) (w : World) (D : Nat → Prop), L.length + szT t ≤ 1000000000 → TmIn D w t A c → (∀ k, D k → k < w.heap.size ∧ v.ownBlock ≠ some k) → IntsO w v L →
  Calls Tryz.prog 82 #[tmVal t A c, v] w fun e w' => ∃ v', e = .returned v' ∧ IStep w w' v v' (vsT t L)
 | 0, t, h => by
  have := szT_pos t
  omega
 | N + 1, .mk k n s l, hN => by
  intro hbig L A c v w D hL ht hD hv
  have IH := vars_any N
  simp only [szT] at hN hbig hL
  unfold tmVal
  simp only [Tm.k, Tm.n, Tm.s, Tm.l]
  by_cases hk : k = 1
  ·subst hk
   rw [show vsT (.mk 1 n s l) L = addV n L by simp [vsT]]
   exact varsVar_any n s A l.length c L v w hv (by omega)
  ·have q1 : (k == 1) = false := by simpa using hk
   rw [show vsT (.mk k n s l) L = vsL l L by simp [vsT, hk]]
   have hlw := len_szL l
   generalize hL2 : vsL l L = L2
   have HL2 := Lib.hid hL2
   have HT := Lib.hid ht
   have HD := Lib.hid hD
   have HV := Lib.hid hv
   clear hk hL2 ht hD hv
   go_enter Tryz.func82, Tryz.ntmps82
   go_upto_region 8 with fail
   refine wp_abs (fun V => Hid (Blk V w.heap.size 32 #[.int .i64 k, .int .i64 n, .string s, .slice A l.length c]) ∧ Hid (Ext w V) ∧ Hid (w.heap.size < V.heap.size)) ⟨Blk.new w _ _, (Ext.refl w).alloc _, Lib.hid (by simp)⟩ ?_
   rintro V ⟨HB0, HX0, HW0⟩
   go_wp2_with fail
   go_loopw [1, 6] (fun v' i wr => ∃ j : Nat, j ≤ l.length ∧ i = .int .i64 j ∧ Hid (IStep V wr v v' (vsL (l.take j) L))) (fun _ i _ => l.length - (intOf i).toNat)
   case atStart => exact ⟨0, Nat.zero_le _, rfl, Lib.hid (by simpa [vsL] using IStep.of_ext (HV.out.ext HX0.out) (Ext.refl _))⟩
   case round =>
    obtain ⟨j, hj, rfl, HS⟩ := hrel
    have hvb : v.ownBlock ≠ some w.heap.size := fun e => by
     have := (HV.out.own.lt _ e).2
     omega
    have hbl := HS.out.blk hvb HB0.out
    have y0 : wr.cell? ⟨w.heap.size, 0, none⟩ = some (.int .i64 k) := hbl.cell 0
    have y3 : wr.cell? ⟨w.heap.size, 3, none⟩ = some (.slice A l.length c) := hbl.cell 3
    clear hbl
    by_cases hlt : j < l.length
    ·have ho : l[j]? = some l[j] := List.getElem?_eq_getElem hlt
     have hsu := szL_get ho
     have hst := szL_take ho
     have hsl := szL_take_le l (j + 1)
     have hlv := (vsL_len (l.take j) L).1
     have HTK := Lib.hid (vsL_take L ho)
     generalize l[j] = u at *
     generalize vsL (l.take j) L = vs at *
     have hDV : ∀ k, D k → k < V.heap.size ∧ v.ownBlock ≠ some k := fun k hk => ⟨by have := (HD.out k hk).1; have := HW0.out; omega, (HD.out k hk).2⟩
     obtain ⟨bb, off, A', c', rfl, _, hu, q0, q1, q2, q3⟩ := (HS.out.tm hDV (HT.out.ext HX0.out)).child ho
     have HC := Lib.hid (IH u (by omega) (by omega) vs A' c' u1 wr D (by omega) hu (HS.out.off hDV) HS.out.own)
     unfold tmVal at HC
     clear hu hDV ho
     go_wp2_with (go_at_call 82; refine HC.out.mono ?_; rintro e W1 ⟨v2, rfl, h2⟩; have HS2 := Lib.hid (HS.out.trans h2); clear h2)
     go_roundw
     case rel => exact ⟨j + 1, hlt, by go_num, Lib.hid (by rw [HTK.out]; exact HS2.out)⟩
     case measure => simp [intOf]; omega
    ·obtain rfl : j = l.length := by omega
     rw [List.take_length] at HS
     go_wp2_with fail
     go_ret
     exact ⟨_, rfl, by rw [← HL2.out]; exact IStep.pre HX0.out HS.out⟩
set_option maxRecDepth 100000 in
theorem refVars_any (t : Tm) (A : Option Addr) (c : Nat) (w : World) (D : Nat → Prop) (hbig : szT t ≤ 100000000) (ht : TmIn D w t A c) :
  Calls Tryz.prog 52 #[tmVal t A c] w fun e w' => ∃ v', e = .returned v' ∧ IntsO w' v' (vsT t []) ∧ Ext w w' ∧ (∀ b, v'.ownBlock = some b → w.heap.size ≤ b) := by
 have hx := ext_box w (.cells #[.int .i64 t.k, .int .i64 t.n, .string t.s, .slice A t.l.length c] 32)
 have HC := Lib.hid (vars_any (szT t) t (Nat.le_refl _) hbig [] A c (.slice none 0 0) _ _ (by simp; omega) (ht.lt.ext hx) (fun k hk => ⟨by have := hx.size; omega, by simp [Value.ownBlock]⟩) (IntsO.nil _))
 unfold tmVal at HC ⊢
 clear ht
 go_enter Tryz.func52, Tryz.ntmps52
 go_wp2_with (go_at_call 82; refine HC.out.mono ?_; rintro e W1 ⟨v2, rfl, h2⟩)
 go_ret
 exact ⟨_, rfl, h2.own, (hx.trans (Mods.toExt h2.mods (by simp [ownL, Value.ownBlock]))), fun b hb => by
  rcases h2.far b hb with h | h
  ·simp [Value.ownBlock] at h
  ·exact Nat.le_trans hx.size h⟩
end Go.Proofs.YtgcdhffeacdegaaGreatDoor
namespace Go.El
mutual
def hvT : Tm → List Int → Bool
 | .mk k n _ l, V => if k = 1 then decide (n ∈ V) else hvL l V
def hvL : List Tm → List Int → Bool
 | [], _ => true
 | a :: r, V => hvT a V && hvL r V
end
theorem hvL_get : ∀ {l : List Tm} {j : Nat} {u : Tm} {V : List Int}, hvL l V = true → l[j]? = some u → hvT u V = true
 | [], j, u, V, _, h => by simp at h
 | a :: r, 0, u, V, ho, h => by
  simp at h
  subst h
  simp only [hvL, Bool.and_eq_true] at ho
  exact ho.1
 | a :: r, j + 1, u, V, ho, h => by
  simp only [hvL, Bool.and_eq_true] at ho
  exact hvL_get ho.2 (by simpa using h)
mutual
theorem hvT_pre : ∀ (t : Tm) (acc V : List Int), vsT t acc <+: V → hvT t V = true
 | .mk k n s l, acc, V, h => by
  simp only [vsT] at h
  simp only [hvT]
  by_cases hk : k = 1
  ·rw [if_pos hk] at h
   rw [if_pos hk]
   exact decide_eq_true (h.subset (addV_mem n acc))
  ·rw [if_neg hk] at h
   rw [if_neg hk]
   exact hvL_pre l acc V h
theorem hvL_pre : ∀ (l : List Tm) (acc V : List Int), vsL l acc <+: V → hvL l V = true
 | [], acc, V, _ => rfl
 | a :: r, acc, V, h => by
  simp only [vsL] at h
  simp only [hvL, Bool.and_eq_true]
  exact ⟨hvT_pre a acc V ((vsL_pre r _).trans h), hvL_pre r (vsT a acc) V h⟩
end
theorem plc_first {n : Int} : ∀ {l : List Int} {j : Nat}, (∀ (q : Nat) (x : Int), q < j → l[q]? = some x → ¬ x = n) → l[j]? = some n → plc n l = j
 | [], j, _, h => by simp at h
 | m :: l, 0, _, h => by
  simp at h
  simp [plc, h]
 | m :: l, j + 1, hn, h => by
  have h0 : ¬ m = n := hn 0 m (by omega) rfl
  have := plc_first (l := l) (j := j) (fun q x hq hx => hn (q + 1) x (by omega) (by simpa using hx)) (by simpa using h)
  simp [plc, h0, this]
end Go.El
namespace Go.Proofs.YtgcdhffeacdegaaGreatDoor
open Go.RowKit Go.El
theorem own_src {w : World} {A : Option Addr} {c : Nat} {L : List Int} (h : IntsO w (.slice A L.length c) L) : El.Src w A L.length 1 (L.map iV) := El.Src.of_own h.own
end Go.Proofs.YtgcdhffeacdegaaGreatDoor
