/- Layer 11, the program: the walk of Bindings. -/
import Derived.Test.YtnedihbffiddpaaGreatDoorW30
import Derived.Test.YtnedihbffiddpaaGreatDoorW32
import Derived.Test.YtnedihbffiddpaaGreatDoorW31
namespace Go.Proofs.YtnedihbffiddpaaGreatDoor
open Go.RowKit Go.El

theorem WrSt.mods1 {base : Nat} {w w' : World} {b m : Nat} {v : Value} {F : List UInt8} (h : WrSt base w b v F none (.pointer none)) (x : Mods [m] w w') (hb : m ≠ b) (hm : m < base) : WrSt base w' b v F none (.pointer none) := by
  obtain ⟨⟨p, h1, h2, h3, h4⟩, ho, hl, hlim⟩ := h
  refine ⟨⟨p, h1, h2.mods x (by simp; omega), own_mods h3 x (fun k hk => ?_), h4⟩, ho, Nat.le_trans hl x.size, hlim⟩
  have := h4 k hk
  simp
  omega
theorem env_in {base : Nat} {w wr : World} {b : Nat} {v : Value} {F : List UInt8} {o : OpsV} {op : Value} (he : Env w) (x : Ext w wr) (h : WrSt base wr b v F o op) (hb : w.heap.size ≤ b) (hB : w.heap.size ≤ base) : EnvIn wr b v := by
  have hc : ∀ g, g < w.heap.size → Clr wr b v g := fun g hg => ⟨by omega, fun e => by have := h.bld.choose_spec.far g e; omega, Nat.lt_of_lt_of_le hg x.size⟩
  exact ⟨he.ext x, hc _ (cell_lt he.tz), hc _ (var_lt pwNamed he.pw), hc _ (cell_lt he.ty.h0)⟩
theorem tm_in {base : Nat} {w wr : World} {b : Nat} {v : Value} {F : List UInt8} {o : OpsV} {op : Value} {t : Tm} {A : Option Addr} {c : Nat} (h : WrSt base w b v F o op) (ht : TmIn (fun k => w.heap.size ≤ k ∧ k < wr.heap.size) wr t A c) : TmIn (Clr wr b v) wr t A c :=
  ht.mono (fun k hk => ⟨by have := h.bld.choose_spec.blk.lt; omega, fun e => by have := (h.bld.choose_spec.own.lt k e).2; omega, hk.2⟩)
theorem wrLen {base : Nat} {w : World} {b : Nat} {v : Value} {F : List UInt8} {o : OpsV} {op : Value} (h : WrSt base w b v F o op) :
    Calls Tryz.prog 24 #[.pointer (some ⟨b, 0, none⟩)] w fun e w' => e = .returned (.int .i64 F.length) ∧ w = w' := by
  obtain ⟨⟨p, hb⟩, _, _, _⟩ := h
  exact (bldLen_any _ _ _ _ _ _ _ _ hb).mono (fun _ _ h => ⟨h.1, h.2.symm⟩)
/-- A step of a writer turns nothing older. -/
theorem wr_ext {base : Nat} {w wr w' : World} {b : Nat} {v v' : Value} {F : List UInt8} {o : OpsV} {op : Value} (x : Ext w wr) (h : WrSt base wr b v F o op) (hb : w.heap.size ≤ b) (hB : w.heap.size ≤ base) (s : WStep b v wr v' w') : Ext w w' := by
  refine ext_mods x s.mods (fun k hk => ?_)
  rcases List.mem_cons.1 hk with e | e
  · omega
  · have := h.bld.choose_spec.far k (by simpa [ownL] using e)
    omega
theorem wr_map {base : Nat} {wr w' : World} {b m : Nat} {v v' : Value} {F : List UInt8} {o : OpsV} {op : Value} {ps : List (Int × Value)} (hM : MapAt (Value.int .i64) wr m ps) (h : WrSt base wr b v F o op) (hb : m ≠ b) (hm : m < base) (s : WStep b v wr v' w') : MapAt (Value.int .i64) w' m ps := by
  refine hM.mods s.mods (fun hk => ?_)
  rcases List.mem_cons.1 hk with e | e
  · omega
  · have := h.bld.choose_spec.far m (by simpa [ownL] using e)
    omega

theorem ret_2 {s s' : ByteArray} {n n' : Int} (h : s = s') (k : n = n') : Ending.returned (.tuple #[.string s, .int .i64 n]) = .returned (.tuple #[.string s', .int .i64 n']) := by rw [h, k]
def bndS (ns : List ByteArray) (l : List Tm) : ByteArray := if ns.length ≠ l.length then ⟨#[]⟩ else if fstBad l ≠ 0 then ⟨#[]⟩ else txtS (bndF ns l)
def bndE (ns : List ByteArray) (l : List Tm) : Int := if ns.length ≠ l.length then 1 else if fstBad l ≠ 0 then fstBad l else txtE (bndF ns l)

set_option maxRecDepth 100000 in
theorem bindings_odd (ns : List ByteArray) (l : List Tm) (An A : Option Addr) (cn c : Nat) (w : World) (hne : ns.length ≠ l.length) :
    Calls Tryz.prog 8 #[.slice An ns.length cn, .slice A l.length c] w fun e w' => e = .returned (.tuple #[.string (bndS ns l), .int .i64 (bndE ns l)]) ∧ Ext w w' := by
  rw [show bndS ns l = ⟨#[]⟩ from if_pos hne, show bndE ns l = 1 from if_pos hne]
  have hne2 : ¬ (ns.length : Int) = (l.length : Int) := by omega
  have q1 : ((ns.length : Int) == (l.length : Int)) = false := by simpa using hne2
  have q2 : ((ns.length : Int) != (l.length : Int)) = true := by simpa using hne2
  clear hne hne2
  go_enter Tryz.func8, Tryz.ntmps8
  go_wp2_with fail
  go_ret2
  exact ⟨rfl, Ext.refl _⟩

set_option maxRecDepth 100000 in
set_option maxHeartbeats 8000000 in
theorem bindings_even (ns : List ByteArray) (l : List Tm) (An A : Option Addr) (cn c : Nat) (w : World) (D : Nat → Prop) (hne : ns.length = l.length) (hn : El.Src w An ns.length 1 (ns.map Value.string)) (ht : TmsIn D w l A c) (he : Env w) (hl : l.length ≤ 100) (hns : ∀ s ∈ ns, s.size ≤ 1000) (hsz : ∀ t ∈ l, szT t ≤ 1000000000) :
    Calls Tryz.prog 8 #[.slice An ns.length cn, .slice A l.length c] w fun e w' => e = .returned (.tuple #[.string (bndS ns l), .int .i64 (bndE ns l)]) ∧ Ext w w' := by
  have hmm := @run_makeMap Tryz.prog
  have hneg : ¬ ns.length ≠ l.length := fun h => h hne
  rw [show bndS ns l = (if fstBad l ≠ 0 then ⟨#[]⟩ else txtS (bndF ns l)) from if_neg hneg, show bndE ns l = (if fstBad l ≠ 0 then fstBad l else txtE (bndF ns l)) from if_neg hneg]
  generalize hbS : (if fstBad l ≠ 0 then (⟨#[]⟩ : ByteArray) else txtS (bndF ns l)) = bS
  generalize hbE : (if fstBad l ≠ 0 then fstBad l else txtE (bndF ns l)) = bE
  have HBS0 := Lib.hid hbS
  have HBE0 := Lib.hid hbE
  have HNE := Lib.hid hne
  have HN := Lib.hid hn
  have HT := Lib.hid ht.lt
  have HE := Lib.hid he
  have HNS := Lib.hid hns
  have HSZ := Lib.hid hsz
  rw [hne]
  clear hne hneg hn ht he hns hsz hbS hbE
  go_enter Tryz.func8, Tryz.ntmps8
  go_upto_region 4 with fail
  go_loopw [20] (fun i wr => ∃ j : Nat, j ≤ l.length ∧ i = .int .i64 j ∧ Hid (∀ t ∈ l.take j, chkT t = 0) ∧ Hid (Ext w wr)) (fun i _ => l.length - (intOf i).toNat)
  case atStart => exact ⟨0, Nat.zero_le _, rfl, Lib.hid (by simp), Lib.hid (Ext.refl _)⟩
  case round =>
    obtain ⟨j, hj, rfl, HC, HX⟩ := hrel
    by_cases hlt : j < l.length
    · have ho : l[j]? = some l[j] := List.getElem?_eq_getElem hlt
      have hsu := HSZ.out _ (List.getElem_mem hlt)
      have HFB := Lib.hid (fun h => fstBad_first HC.out ho h)
      have HTK := Lib.hid (List.take_succ_eq_append_getElem hlt)
      generalize l[j] = u at ho hsu HFB HTK
      obtain ⟨bb, off, A', c', rfl, _, hu, q0, q1, q2, q3⟩ := (HT.out.ext HX.out).child (j := j) ho
      have HK := Lib.hid (check_any u A' c' _ _ (hu.ext (ext_box wr (.cells #[.int .i64 u.k, .int .i64 u.n, .string u.s, .slice A' u.l.length c'] 27))) hsu)
      clear ho hu hsu
      unfold tmVal at HK
      by_cases hc : chkT u = 0
      · rw [hc] at HK
        have HCU := Lib.hid hc
        clear hc HFB
        go_wp2_with (go_at_call 23; refine HK.out.mono ?_; rintro e W1 ⟨rfl, h1⟩; have HX1 := Lib.hid ((HX.out.trans (ext_box _ _)).trans h1); clear h1)
        go_roundw
        case rel =>
          refine ⟨j + 1, hlt, by go_num, Lib.hid (fun t ht => ?_), HX1⟩
          rw [HTK.out] at ht
          rcases List.mem_append.1 ht with h | h
          · exact HC.out t h
          · simp at h
            rw [h]
            exact HCU.out
        case measure => simp [intOf]; omega
      · have hfb := HFB.out hc
        have hf0 : fstBad l ≠ 0 := by rw [hfb]; exact hc
        have E1 : Hid (bS = ⟨#[]⟩) := by
          rw [← HBS0.out]
          exact if_pos hf0
        have E2 : Hid (bE = chkT u) := by
          rw [← HBE0.out, ← hfb]
          exact if_pos hf0
        have p1 : (chkT u == 0) = false := by simpa using hc
        have p2 : (chkT u != 0) = true := by simpa using hc
        clear hc hfb hf0 HFB
        generalize chkT u = r at HK E2 p1 p2
        go_wp2_with (go_at_call 23; refine HK.out.mono ?_; rintro e W1 ⟨rfl, h1⟩; have HX1 := Lib.hid ((HX.out.trans (ext_box _ _)).trans h1); clear h1)
        go_ret2
        exact ⟨ret_2 E1.out.symm E2.out.symm, HX1.out⟩
    · obtain rfl : j = l.length := by omega
      rw [List.take_length] at HC
      have hf0 := fstBad_none HC.out
      have hfn : ¬ fstBad l ≠ 0 := fun h => h hf0
      have E1 : Hid (bS = txtS (bndF ns l)) := by
        rw [← HBS0.out]
        exact if_neg hfn
      have E2 : Hid (bE = txtE (bndF ns l)) := by
        rw [← HBE0.out]
        exact if_neg hfn
      have HMAY := Lib.hid (fun t (ht : t ∈ l) => (show mayT t = true by unfold mayT; simp [HC.out t ht]))
      have HZL : Hid (∀ x ∈ ns.zip l, x.1.size ≤ 1000 ∧ mayT x.2 = true) := fun x hx => by
        obtain ⟨h1, h2⟩ := List.of_mem_zip (a := x.1) (b := x.2) hx
        exact ⟨HNS.out _ h1, HMAY.out _ h2⟩
      have hzl : (ns.zip l).length = l.length := by rw [List.length_zip, HNE.out]; simp
      have HZ := Lib.hid hzl
      clear hf0 hfn HC hzl hj
      go_upto_region 13 with fail
      refine wp_abs (fun V => Hid (Blk V wr.heap.size 55 #[.pointer none, .slice none 0 0, .pointer none]) ∧ Hid (MapAt (Value.int .i64) V (wr.heap.size + 1) []) ∧ Hid (Ext w V)) ⟨(Blk.new wr _ _).alloc _, ?_, (HX.out.alloc _).alloc _⟩ ?_
      · have := MapAt.new (Value.int .i64) (wr.alloc (.cells #[.pointer none, .slice none 0 0, .pointer none] 55))
        rw [World.size_alloc] at this
        exact this
      rintro V ⟨HW, HM, HV⟩
      have hbV : w.heap.size ≤ wr.heap.size := HX.out.size
      have hmV : wr.heap.size + 1 < V.heap.size := HM.out.lt
      clear HX hlt
      generalize wr.heap.size = b at *
      clear wr
      go_loopw [35] (fun i wr => ∃ (j : Nat) (v : Value), j ≤ l.length ∧ i = .int .i64 j ∧ Hid (WrSt V.heap.size wr b v (bdL ((ns.zip l).take j)).1 none (.pointer none)) ∧ Hid (MapAt (Value.int .i64) wr (b + 1) (numP (bdL ((ns.zip l).take j)).2)) ∧ Hid (Ext w wr)) (fun i _ => l.length - (intOf i).toNat)
      case atStart => exact ⟨0, .slice none 0 0, Nat.zero_le _, rfl, ⟨⟨.pointer none, .inl rfl, HW.out, World.ownsRow_nil _ _ _ _, fun k hk => by simp [Value.ownBlock] at hk⟩, rfl, Nat.le_refl _, Nat.zero_le _⟩, HM.out, HV⟩
      case round =>
        obtain ⟨j, v, hj, rfl, HS, HP, HX⟩ := hrel
        have hbB : w.heap.size ≤ V.heap.size := by omega
        by_cases hlt : j < l.length
        · have hln : j < ns.length := by rw [HNE.out]; exact hlt
          have ho : l[j]? = some l[j] := List.getElem?_eq_getElem hlt
          have hs : ns[j]? = some ns[j] := List.getElem?_eq_getElem hln
          have hz : (ns.zip l)[j]? = some (ns[j], l[j]) := by rw [List.getElem?_zip_eq_some]; exact ⟨hs, ho⟩
          have HTK := Lib.hid (bdL_take hz)
          have hbl := bdL_len (j := j) HZL.out (by rw [HZ.out]; omega)
          have hmu := HMAY.out _ (List.getElem_mem hlt)
          have hnu := HNS.out _ (List.getElem_mem hln)
          obtain ⟨bn, on, rfl, hcn⟩ := El.Src.form HN.out (by omega) (by omega)
          have n0 : w.cell? ⟨bn, on + j, none⟩ = some (.string ns[j]) := hcn j _ (by simp [hs])
          clear hcn hs hz
          generalize ns[j] = nm at *
          generalize l[j] = u at *
          generalize bdL ((ns.zip l).take j) = a at *
          obtain ⟨F, vs⟩ := a
          dsimp only at HS HP hbl
          obtain ⟨bb, off, A', c', rfl, _, hu, q0, q1, q2, q3⟩ := HT.out.child (j := j) ho
          have HU := Lib.hid hu
          have HN0 := Lib.hid n0
          have hx := ext_box wr (.cells #[.int .i64 u.k, .int .i64 u.n, .string u.s, .slice A' u.l.length c'] 27)
          have p0 := HX.out.cell q0
          have p1 := HX.out.cell q1
          have p2 := HX.out.cell q2
          have p3 := HX.out.cell q3
          have n1 := HX.out.cell n0
          have n2 := hx.cell n1
          clear q0 q1 q2 q3 n0 ho hu
          by_cases h95 : nm.data.toList = [95]
          · have s2 : (nm.toList == [95]) = true := by rw [ByteArray.toList_eq]; simpa using h95
            have HBS : Hid (bdS (F, vs) (nm, u) = (F, vs)) := if_pos h95
            clear h95
            go_wp2_with fail
            go_roundw
            case rel =>
              refine ⟨j + 1, v, hlt, by go_num, ?_, ?_, Lib.hid (HX.out.trans hx)⟩
              · rw [HTK.out, HBS.out]
                exact Lib.hid (HS.out.go hx)
              · rw [HTK.out, HBS.out]
                exact Lib.hid (HP.out.ext hx)
            case measure => simp [intOf]; omega
          · have s2 := lit_ne h95
            have HBS : Hid (bdS (F, vs) (nm, u) = (F ++ sepF F ++ (nm.data.toList ++ [32, 61, 32]) ++ txT none (rnT u vs) 1200, vsT u vs)) := if_neg h95
            have hmr := rnT_may hmu (show vs.length ≤ 1000000000 by omega)
            obtain ⟨hok, _, hsz⟩ := mayT_iff.1 hmu
            have hszr := (rnT_size u vs hok).1
            have HMR := Lib.hid hmr
            have HOK := Lib.hid hok
            have HS2 := Lib.hid (HS.out.go hx)
            have hsep : (sepF F).length ≤ 2 := by unfold sepF; split <;> simp
            have hbig : nm.size ≤ 1000 := hnu
            have hbg : ¬ 9223372036854775807 < nm.size + 3 := by omega
            have HCL := Lib.hid (new_clr (W := wr.alloc (.cells #[.int .i64 u.k, .int .i64 u.n, .string u.s, .slice A' u.l.length c'] 27)) HS.out (Nat.le_refl _) (by rw [World.size_alloc]; omega))
            clear h95 hmr hok
            by_cases hF : F = []
            case' pos =>
              have hsp : sepF F = [] := if_pos hF
              have hfl : (F.length : Int) = 0 := by rw [hF]; rfl
              have hfp : ¬ (0 : Int) < (F.length : Int) := by omega
              have HSP := Lib.hid hsp
              clear hF hfl hsp
              go_upto_region 18 with (go_at_call 24; refine (wrLen HS2.out).mono ?_; rintro e w' ⟨rfl, rfl⟩)
              refine wp_abs (fun W => ∃ v2, Hid (WrSt V.heap.size W b v2 (F ++ sepF F) none (.pointer none)) ∧ Hid (Blk W wr.heap.size 27 #[.int .i64 u.k, .int .i64 u.n, .string u.s, .slice A' u.l.length c']) ∧ Hid (Clr W b v2 wr.heap.size) ∧ Hid (MapAt (Value.int .i64) W (b + 1) (numP vs)) ∧ Hid (Ext w W)) ⟨v, by rw [HSP.out, List.append_nil]; exact HS2, Lib.hid (Blk.new _ _ _), HCL, Lib.hid (HP.out.ext hx), Lib.hid (HX.out.trans hx)⟩ ?_
            case' neg =>
              have hsp : sepF F = [44, 32] := if_neg hF
              have hfl : F.length ≠ 0 := fun e => hF (List.eq_nil_of_length_eq_zero e)
              have hfp : (0 : Int) < (F.length : Int) := by omega
              have HSP := Lib.hid hsp
              clear hF hfl hsp
              go_upto_region 18 with (first | (go_at_call 24; refine (wrLen HS2.out).mono ?_; rintro e w' ⟨rfl, rfl⟩) | (go_at_call 25; refine (wrString HS2.out ⟨#[44, 32]⟩ (by rw [show (⟨#[44, 32]⟩ : ByteArray).size = 2 from rfl]; omega)).mono ?_; rintro e W2 ⟨rfl, v2, h2, s2'⟩; have H2 := Lib.hid h2; have S2 := Lib.hid s2'; clear h2 s2'))
              refine wp_abs (fun W => ∃ v2, Hid (WrSt V.heap.size W b v2 (F ++ sepF F) none (.pointer none)) ∧ Hid (Blk W wr.heap.size 27 #[.int .i64 u.k, .int .i64 u.n, .string u.s, .slice A' u.l.length c']) ∧ Hid (Clr W b v2 wr.heap.size) ∧ Hid (MapAt (Value.int .i64) W (b + 1) (numP vs)) ∧ Hid (Ext w W)) ⟨v2, by rw [HSP.out]; exact H2, Lib.hid (Blk.mods (Blk.new _ _ _) S2.out.mods HCL.out.no), Lib.hid (S2.out.clr HCL.out), Lib.hid (wr_map (HP.out.ext hx) HS2.out (by omega) (by omega) S2.out), Lib.hid (wr_ext (HX.out.trans hx) HS2.out (by omega) hbB S2.out)⟩ ?_
              clear H2 S2
            all_goals
              rintro W ⟨v2, HS3, HB3, HC3, HP3, HX3⟩
              clear p0 p1 p2 p3 n1 n2 hfp HSP HS2 HCL HS HP HX
              have n3 := HX3.out.cell HN0.out
              have hlF : (F ++ sepF F).length ≤ 200000002 := by rw [List.length_append]; omega
              generalize F ++ sepF F = G at *
              go_region_law ((go_simp; go_at_call 25; refine (wrString (HS3.out.go ((Ext.refl W).drew)) _ (by rw [ByteArray.size_append, show (⟨#[32, 61, 32]⟩ : ByteArray).size = 3 from rfl]; omega)).mono ?_; rintro e W4 ⟨rfl, v4, h4, s4⟩; have H4 := Lib.hid h4; have HX4 := Lib.hid (wr_ext HX3.out.drew (HS3.out.go ((Ext.refl W).drew)) (by omega) hbB s4); have HP4 := Lib.hid (wr_map (HP3.out.ext ((Ext.refl W).drew)) (HS3.out.go ((Ext.refl W).drew)) (by omega) (by omega) s4); have HB4 := Lib.hid (Blk.mods (HB3.out.ext ((Ext.refl W).drew)) s4.mods (show wr.heap.size ∉ b :: ownL v2 from HC3.out.no)); clear h4 s4))
              all_goals
                have y0 : W4.cell? ⟨wr.heap.size, 0, none⟩ = some (.int .i64 u.k) := HB4.out.cell 0
                have y1 : W4.cell? ⟨wr.heap.size, 1, none⟩ = some (.int .i64 u.n) := HB4.out.cell 1
                have y2 : W4.cell? ⟨wr.heap.size, 2, none⟩ = some (.string u.s) := HB4.out.cell 2
                have y3 : W4.cell? ⟨wr.heap.size, 3, none⟩ = some (.slice A' u.l.length c') := HB4.out.cell 3
                have HR := Lib.hid (renOf_any (szT u) u (Nat.le_refl _) (by omega) HOK.out vs A' c' W4 (fun k => k < w.heap.size) (b + 1) (by omega) (HU.out.ext HX4.out) (fun k hk => by omega) HP4.out)
                have hl4 : (G ++ (nm ++ (⟨#[32, 61, 32]⟩ : ByteArray)).data.toList).length + 400 * szT (rnT u vs) ≤ 800000000 := by
                  rw [List.length_append, app_list, List.length_append, show nm.data.toList.length = nm.size by simp, show (⟨#[32, 61, 32]⟩ : ByteArray).data.toList.length = 3 from rfl]
                  omega
                unfold tmVal at HR
                go_wp2_with (first | (go_at_call 27; refine HR.out.mono ?_; rintro e W5 ⟨A5, c5, rfl, ht5, hp5, hx5⟩; have H5 := Lib.hid (H4.out.mods1 hx5 (by omega) (by omega)); have HX5 := Lib.hid (ext_mods HX4.out hx5 (fun k hk => by simp at hk; omega)); have HP5 := Lib.hid hp5; have HTM := Lib.hid (term_all (szT (rnT u vs)) (rnT u vs) (Nat.le_refl _) HMR.out V.heap.size W5 b v4 _ none (.pointer none) 1200 A5 c5 H5.out (env_in HE.out HX5.out H5.out (by omega) hbB) (tm_in H4.out ht5) hl4 (by omega) (by omega)); clear ht5 hp5 hx5) | (go_at_call 26; refine HTM.out.mono ?_; rintro e W6 ⟨rfl, v6, h6, s6⟩; have H6 := Lib.hid h6; have HX6 := Lib.hid (wr_ext HX5.out H5.out (by omega) hbB s6); have HP6 := Lib.hid (wr_map HP5.out H5.out (by omega) (by omega) s6); clear h6 s6))
                go_roundw
                case rel =>
                  refine ⟨j + 1, v6, hlt, by go_num, ?_, ?_, HX6⟩
                  · rw [HTK.out, HBS.out]
                    have := H6.out
                    rw [app_list] at this
                    exact Lib.hid this
                  · rw [HTK.out, HBS.out]
                    exact HP6
                case measure => simp [intOf]; omega
        · obtain rfl : j = l.length := by omega
          rw [List.take_of_length_le (by rw [HZ.out]; omega)] at HS HP
          have hbf : bndF ns l = if (bdL (ns.zip l)).1 = [] then [116, 114, 117, 101] else (bdL (ns.zip l)).1 := rfl
          have hlm := HS.out.lim
          rw [hbf] at E1 E2
          clear hbf HP HBS0 HBE0
          generalize (bdL (ns.zip l)).1 = F at *
          by_cases hF : F = []
          · rw [if_pos hF] at E1 E2
            have hfl : ((F.length : Int) == 0) = true := by rw [hF]; rfl
            have hfl2 : (F.length : Int) = 0 := by rw [hF]; rfl
            have HF := Lib.hid hF
            clear hF
            go_upto_region 23 with (first | (go_at_call 24; refine (wrLen HS.out).mono ?_; rintro e w' ⟨rfl, rfl⟩) | (go_at_call 25; refine (wrString HS.out ⟨#[116, 114, 117, 101]⟩ (by rw [HF.out]; decide)).mono ?_; rintro e W2 ⟨rfl, v2, h2, s2⟩; rw [HF.out] at h2; have H2 := Lib.hid (show WrSt V.heap.size W2 b v2 [116, 114, 117, 101] none (.pointer none) from h2); have HX2 := Lib.hid (wr_ext HX.out HS.out (by omega) hbB s2); clear h2 s2))
            have HD := Lib.hid (done_any H2.out (by simp))
            go_wp2_with (go_at_call 28; refine HD.out.mono ?_; rintro e W3 ⟨rfl, h3⟩; have H3 := Lib.hid h3; clear h3)
            go_ret2
            exact ⟨ret_2 E1.out.symm E2.out.symm, Below.trans HX2.out (H3.out.mono hbB)⟩
          · rw [if_neg hF] at E1 E2
            have hfl : ((F.length : Int) == 0) = false := by
              have : F.length ≠ 0 := fun e => hF (List.eq_nil_of_length_eq_zero e)
              simpa using this
            have HD := Lib.hid (done_any HS.out hF)
            clear hF
            go_wp2_with (first | (go_at_call 24; refine (wrLen HS.out).mono ?_; rintro e w' ⟨rfl, rfl⟩) | (go_at_call 28; refine HD.out.mono ?_; rintro e W3 ⟨rfl, h3⟩; have H3 := Lib.hid h3; clear h3))
            go_ret2
            exact ⟨ret_2 E1.out.symm E2.out.symm, Below.trans HX.out (H3.out.mono hbB)⟩

end Go.Proofs.YtnedihbffiddpaaGreatDoor
