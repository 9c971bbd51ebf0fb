/- Layer 8, the program: one, whole; the walk of Scan. -/
import Derived.Test.YtgjdajkkncdhmaaDoorPT13b
import Derived.Test.YtgjdajkkncdhmaaDoorPT5
import Derived.Test.YtgjdajkkncdhmaaDoorRT10
import Derived.WalkMore
namespace Go.Proofs.YtgjdajkkncdhmaaDoor
open Go.RowKit Go.El

theorem pOne_any (sb b off cap : Nat) (B : List UInt8) (i : Nat) (c : UInt8) (w : World) (h : ScAt w sb b off cap B i) (o : Old w sb b) (ho : B[i]? = some c) :
    Calls Tryd.prog 28 #[.pointer (some ⟨sb, 0, none⟩)] w fun e w' => e = .returned (onePV (oneS B i c)) ∧ OneIn w w' sb b off cap B (oneS B i c) := by
  rcases byte_kinds c with hk | hk | hk | hk | hk | hk | hk | hk | hk
  · cases he : endsS B i c
    · exact pOne_sign sb b off cap B i c w h o ho ⟨he, by rw [hk]; rfl⟩
    · exact pOne_end sb b off cap B i c w h o ho he
  · exact pOne_small sb b off cap B i c w h o ho hk
  · exact pOne_sign sb b off cap B i c w h o ho ⟨ends_no hk.1, hk.2⟩
  · exact pOne_solo sb b off cap B i c w h o ho hk
  · exact pOne_digit sb b off cap B i c w h o ho hk
  · exact pOne_great sb b off cap B i c w h o ho hk
  · exact pOne_punct sb b off cap B i c w h o ho hk
  · exact pOne_quote sb b off cap B i c w h o ho hk
  · exact pOne_other sb b off cap B i c w h o ho hk
theorem pOne_err {B : List UInt8} {k : Nat} {c : UInt8} {x : Int} (hx : oneS B k c = .error x) {sb b off cap : Nat} {w : World} (h : ScAt w sb b off cap B k) (o : Old w sb b) (ho : B[k]? = some c) :
    Calls Tryd.prog 28 #[.pointer (some ⟨sb, 0, none⟩)] w fun e w' => e = .returned (.tuple #[.agg #[.int .i64 0, .string ⟨#[]⟩, .int .i64 0, .int .i64 0, .bool false], .int .i64 x]) ∧ ∃ j, ScIn w w' sb b off cap B j := by
  have := pOne_any sb b off cap B k c w h o ho
  rw [hx] at this
  exact this
theorem pOne_ok {B : List UInt8} {k : Nat} {c : UInt8} {kd : Int} {s : List UInt8} {n : Int} {e : Nat} (hx : oneS B k c = .ok (kd, s, n, e)) {sb b off cap : Nat} {w : World} (h : ScAt w sb b off cap B k) (o : Old w sb b) (ho : B[k]? = some c) :
    Calls Tryd.prog 28 #[.pointer (some ⟨sb, 0, none⟩)] w fun e1 w' => e1 = .returned (.tuple #[.agg #[.int .i64 kd, .string (strB s), .int .i64 n, .int .i64 0, .bool false], .int .i64 0]) ∧ ScIn w w' sb b off cap B e := by
  have := pOne_any sb b off cap B k c w h o ho
  rw [hx] at this
  exact this
theorem skip_at {B : List UInt8} {i k : Nat} {ok : Bool} (hs : skipTo B i = (k, ok)) {sb b off cap : Nat} {w : World} (h : ScAt w sb b off cap B i) :
    Calls Tryd.prog 27 #[.pointer (some ⟨sb, 0, none⟩)] w fun e w' => e = .returned (.bool ok) ∧ ScIn w w' sb b off cap B k := by
  have := skip_any sb b off cap B i w h
  rw [hs] at this
  exact this

/-- What Scan stands on: the zero token that is handed back, the scanner that it lays. -/
structure SnAt (w wr : World) (b off cap : Nat) (B : List UInt8) (k : Nat) : Prop where
  sc : ScAt wr (w.heap.size + 1) b off cap B k
  bz : Blk wr w.heap.size 30 #[.int .i64 0, .string ⟨#[]⟩, .int .i64 0, .int .i64 0, .bool false]
  ext : Ext w wr
  old : Old wr (w.heap.size + 1) b
theorem SnAt.new {w : World} {b off cap : Nat} {B : List UInt8} {i : Nat} (h : BytesAt w (some ⟨b, off, none⟩) B) (h0 : 0 < B.length) (hi : i ≤ B.length) (hB : B.length ≤ 65536) (hcap : B.length ≤ cap) (g : Glob w) :
    SnAt w ((w.alloc (.cells #[.int .i64 0, .string ⟨#[]⟩, .int .i64 0, .int .i64 0, .bool false] 30)).alloc (.cells #[.slice (some ⟨b, off, none⟩) B.length cap, .int .i64 (i : Int)] 53)) b off cap B i := by
  have hlb : b < w.heap.size := by
    obtain ⟨b', off', he, hc⟩ := bytes_at h h0
    injection he with he
    injection he with he1 he2
    subst he1
    exact cell_lt (hc 0 _ (List.getElem?_eq_getElem h0))
  obtain ⟨m, hm⟩ := g.max
  obtain ⟨te, pe, he⟩ := g.err
  have hlm : 0 < w.heap.size := cell_lt hm
  have hle : 3 < w.heap.size := cell_lt he
  have hx := ext_box2 w (.cells #[.int .i64 0, .string ⟨#[]⟩, .int .i64 0, .int .i64 0, .bool false] 30) (.cells #[.slice (some ⟨b, off, none⟩) B.length cap, .int .i64 (i : Int)] 53)
  have hbk := Blk.new (w.alloc (.cells #[.int .i64 0, .string ⟨#[]⟩, .int .i64 0, .int .i64 0, .bool false] 30)) 53 #[.slice (some ⟨b, off, none⟩) B.length cap, .int .i64 (i : Int)]
  rw [World.size_alloc] at hbk
  refine ⟨⟨hbk, h.ext hx, by omega, hB, hcap, hi, g.ext hx, by omega, by omega⟩, (Blk.new w _ _).ext (ext_box _ _), hx, ?_⟩
  have hs := hx.size
  exact ⟨hbk.lt, by omega, by omega, by omega⟩
theorem SnAt.in_ {w wr V : World} {b off cap : Nat} {B : List UInt8} {k j : Nat} (h : SnAt w wr b off cap B k) (g : ScIn wr V (w.heap.size + 1) b off cap B j) : SnAt w V b off cap B j :=
  ⟨g.sc, h.bz.mods g.mods (by simp), ext_mods h.ext g.mods (fun x hx => by rw [List.mem_singleton] at hx; omega), h.old.up g.mods⟩

end Go.Proofs.YtgjdajkkncdhmaaDoor

/- Layer 8, the program: the walk of Scan. -/
namespace Go.Proofs.YtgjdajkkncdhmaaDoor
open Go.RowKit Go.El

theorem set5_cell {w : World} {g : Nat} {p : Addr} {v : Value} (h : w.cell? p = some v) (hg : g ≠ p.block) (a' b' c' d' e' : Value) : (((((w.setCell ⟨g, 0, none⟩ a').setCell ⟨g, 1, none⟩ b').setCell ⟨g, 2, none⟩ c').setCell ⟨g, 3, none⟩ d').setCell ⟨g, 4, none⟩ e').cell? p = some v := by
  rw [cell_set_ne (p := ⟨g, 4, none⟩) hg, cell_set_ne (p := ⟨g, 3, none⟩) hg, cell_set_ne (p := ⟨g, 2, none⟩) hg, cell_set_ne (p := ⟨g, 1, none⟩) hg, cell_set_ne (p := ⟨g, 0, none⟩) hg]
  exact h

set_option maxRecDepth 100000 in
set_option maxHeartbeats 4000000 in
theorem pScan_some (b off cap : Nat) (B : List UInt8) (i : Nat) (w : World) (h : BytesAt w (some ⟨b, off, none⟩) B) (h0 : 0 < B.length) (hi : i ≤ B.length) (hB : B.length ≤ 65536) (hcap : B.length ≤ cap) (g : Glob w) :
    Calls Tryd.prog 15 #[.slice (some ⟨b, off, none⟩) B.length cap, .int .i64 (i : Int)] w fun e w' => e = .returned (scanV (scanS B i)) ∧ Ext w w' := by
  have HS := Lib.hid (SnAt.new h h0 hi hB hcap g)
  have hib : ¬ B.length < i := by omega
  have hbig : ¬ 65536 < B.length := by omega
  clear h g
  rcases scanS_cases B i with ⟨k, hs, hn⟩ | ⟨k, hs, hk, hn⟩ | ⟨k, c, x, hs, hk, ho, hn⟩ | ⟨k, c, kd, s, n, e, hs, hk, ho, hn⟩
  · have HK := Lib.hid (skip_at hs HS.out.sc)
    have HN := Lib.hid hn
    clear hn hs
    go_enter Tryd.func15, Tryd.ntmps15
    go_upto_region 7 with (go_at_call 27; refine HK.out.mono ?_; rintro e w2 ⟨rfl, hy⟩; have HQ := Lib.hid (HS.out.in_ hy); clear hy)
    have d1 := HQ.out.sc.c0
    have d2 := HQ.out.sc.c1
    have kzc := HQ.out.bz.cell
    have kzf := HQ.out.bz.frozen
    have hne1 : ¬ w.heap.size + 1 = w.heap.size := by omega
    go_region
    all_goals
      go_wp2_with fail
      have kb := blk_set5 HQ.out.bz (.int .i64 0) (.string ⟨#[]⟩) (.int .i64 0) (.int .i64 0) (.bool false)
      have kc := kb.cell
      refine bodyPost_ret (v := scanV (scanS B i)) ?_ rfl ⟨rfl, (ext_set5 HQ.out.ext (Nat.le_refl _) _ _ _ _ _).drew⟩
      rw [HN.out]
      simp [results, Tryd.results15, go_sem, scanV, tokV_eq, zeroT, kc]
  · have HK := Lib.hid (skip_at hs HS.out.sc)
    have hkl : k = B.length := by
      have h1 := skipTo_le hi
      rw [hs] at h1
      have h2 := List.getElem?_eq_none_iff.1 hk
      simp only at h1
      omega
    subst hkl
    have HN := Lib.hid hn
    clear hn hs hk
    go_enter Tryd.func15, Tryd.ntmps15
    go_upto_region 9 with (go_at_call 27; refine HK.out.mono ?_; rintro e w2 ⟨rfl, hy⟩; have HQ := Lib.hid (HS.out.in_ hy); have d1 := HQ.out.sc.c0; have d2 := HQ.out.sc.c1; clear hy)
    have kzc := HQ.out.bz.cell
    have kzf := HQ.out.bz.frozen
    have hne1 : ¬ w.heap.size + 1 = w.heap.size := by omega
    go_region
    all_goals
      go_wp2_with fail
      have kb := blk_set5 HQ.out.bz (.int .i64 0) (.string ⟨#[]⟩) (.int .i64 0) (.int .i64 0) (.bool false)
      have kc := kb.cell
      refine bodyPost_ret (v := scanV (scanS B i)) ?_ rfl ⟨rfl, (ext_set5 HQ.out.ext (Nat.le_refl _) _ _ _ _ _).drew⟩
      rw [HN.out]
      simp [results, Tryd.results15, go_sem, scanV, tokV_eq, zeroT, kc]
  · have HK := Lib.hid (skip_at hs HS.out.sc)
    have HN := Lib.hid hn
    have hkl : k < B.length := (List.getElem?_eq_some_iff.1 hk).1
    have hke : ((k : Int) == (B.length : Int)) = false := by simp; omega
    have hx3 := oneS_err ho
    have HE := Lib.hid ho
    have HO := Lib.hid hk
    clear hn hs hk ho
    rcases hx3 with rfl | rfl | rfl
    all_goals
      go_enter Tryd.func15, Tryd.ntmps15
      go_wp2_with (first | (go_at_call 27; refine HK.out.mono ?_; rintro e w2 ⟨rfl, hy⟩; have HQ := Lib.hid (HS.out.in_ hy); have d1 := HQ.out.sc.c0; have d2 := HQ.out.sc.c1; clear hy) | (go_at_call 28; refine (pOne_err HE.out HQ.out.sc HQ.out.old HO.out).mono ?_; rintro e w3 ⟨rfl, j, hy⟩; have HT := Lib.hid (HQ.out.in_ hy); have kzc := HT.out.bz.cell; have kzf := HT.out.bz.frozen; have kaa := fun o => (HT.out.bz.alloc o).cell; have kff := fun o => (HT.out.bz.alloc o).frozen; have hlt2 : w.heap.size < w3.heap.size := HT.out.bz.lt; have hne : w3.heap.size ≠ w.heap.size := (Nat.ne_of_gt HT.out.bz.lt); clear hy))
      have kb := (blk_set5 HT.out.bz (.int .i64 0) (.string ⟨#[]⟩) (.int .i64 0) (.int .i64 0) (.bool false)).alloc (.cells #[.int .i64 0, .string ⟨#[]⟩, .int .i64 0, .int .i64 0, .bool false] 30)
      have kc := kb.cell
      refine bodyPost_ret (v := scanV (scanS B i)) ?_ rfl ⟨rfl, (ext_set5 HT.out.ext (Nat.le_refl _) _ _ _ _ _).alloc _⟩
      rw [HN.out]
      simp [results, Tryd.results15, go_sem, scanV, tokV_eq, zeroT, kc]
  · have HK := Lib.hid (skip_at hs HS.out.sc)
    have HN := Lib.hid hn
    have hkl : k < B.length := (List.getElem?_eq_some_iff.1 hk).1
    have hke : ((k : Int) == (B.length : Int)) = false := by simp; omega
    have HO := Lib.hid hk
    have HP := fun (W : World) (hW : ScAt W (w.heap.size + 1) b off cap B k) (oW : Old W (w.heap.size + 1) b) => Lib.hid (pOne_ok ho hW oW hk)
    have hlay : decide ((i : Int) < (k : Int)) = decide (i < k) := by simp
    clear hn hs hk ho
    generalize hz : strB s = z at HP
    have HZ := Lib.hid hz
    clear hz
    go_enter Tryd.func15, Tryd.ntmps15
    go_upto_region 15 with (first | (go_at_call 27; refine HK.out.mono ?_; rintro e w2 ⟨rfl, hy⟩; have HQ := Lib.hid (HS.out.in_ hy); have d1 := HQ.out.sc.c0; have d2 := HQ.out.sc.c1; clear hy) | (go_at_call 28; refine (HP _ HQ.out.sc HQ.out.old).out.mono ?_; rintro e w3 ⟨rfl, hy⟩; have HT := Lib.hid (HQ.out.in_ hy); have hlt2 : w.heap.size < w3.heap.size := HT.out.bz.lt; have hne : w3.heap.size ≠ w.heap.size := (Nat.ne_of_gt HT.out.bz.lt); clear hy))
    have kzc := HT.out.bz.cell
    have kzf := HT.out.bz.frozen
    have kaa := fun o => (HT.out.bz.alloc o).cell
    have kff := fun o => (HT.out.bz.alloc o).frozen
    have e1 : ∀ o, (w3.alloc o).cell? ⟨w.heap.size + 1, 1, none⟩ = _ := fun o => (ext_box w3 o).cell HT.out.sc.c1
    have e2 := fun o => (ext_box _ o).cell (set5_cell HT.out.sc.c1 (g := w.heap.size) (by simp) (.int .i64 kd) (.string z) (.int .i64 n) (.int .i64 k) (.bool (decide (i < k))))
    have hne1 : ¬ w.heap.size + 1 = w.heap.size := by omega
    go_region
    all_goals
      go_wp2_with fail
      have kb := ((blk_set5 HT.out.bz (.int .i64 kd) (.string z) (.int .i64 n) (.int .i64 k) (.bool (decide (i < k)))).alloc (.cells #[.int .i64 kd, .string z, .int .i64 n, .int .i64 k, .bool (decide (i < k))] 30))
      have kc := kb.cell
      refine bodyPost_ret (v := scanV (scanS B i)) ?_ rfl ⟨rfl, ((ext_set5 HT.out.ext (Nat.le_refl _) _ _ _ _ _).alloc _).drew⟩
      have hv : scanV (scanS B i) = .tuple #[.agg #[.int .i64 kd, .string z, .int .i64 n, .int .i64 (k : Int), .bool (decide (i < k))], .int .i64 (e : Int), .int .i64 0] := by
        rw [HN.out, ← HZ.out]
        rfl
      rw [hv]
      simp [results, Tryd.results15, go_sem, kc]

end Go.Proofs.YtgjdajkkncdhmaaDoor

/- Layer 8, the program: Scan of no text; Scan, whole; the walk of All. -/
namespace Go.Proofs.YtgjdajkkncdhmaaDoor
open Go.RowKit Go.El

set_option maxRecDepth 100000 in
set_option maxHeartbeats 4000000 in
theorem skip_nil (sb : Nat) (A : Option Addr) (cap : Nat) (w : World) (h : Blk w sb 53 #[.slice A 0 cap, .int .i64 0]) :
    Calls Tryd.prog 27 #[.pointer (some ⟨sb, 0, none⟩)] w fun e w' => e = .returned (.bool true) ∧ Ext w w' := by
  have H := Lib.hid h
  clear h
  go_enter Tryd.func27, Tryd.ntmps27
  go_wp2_with fail
  go_step3
  go_wp2_with fail
  go_step3
  go_wp2_with fail
  go_loopw [3, 14] (fun _ _ wr => ∃ _k : Nat, Hid (Ext w wr)) (fun _ _ _ => 0)
  case atStart => exact ⟨0, Ext.refl w⟩
  case round =>
    obtain ⟨_, HX⟩ := hrel
    have d1 := (H.out.ext HX.out).cell 0
    have d2 := (H.out.ext HX.out).cell 1
    simp only [List.getElem?_toArray, List.getElem?_cons_zero, List.getElem?_cons_succ] at d1 d2
    go_upto_region 1 with fail
    go_quiet (fail)
    go_wp2_with fail
    rw [Exit.noGoto_ret]
    go_ret
    exact ⟨rfl, HX.out.drewN _⟩

set_option maxRecDepth 100000 in
set_option maxHeartbeats 4000000 in
theorem pScan_nil (A : Option Addr) (cap : Nat) (w : World) :
    Calls Tryd.prog 15 #[.slice A 0 cap, .int .i64 0] w fun e w' => e = .returned (scanV (scanS [] 0)) ∧ Ext w w' := by
  have hbk := Blk.new (w.alloc (.cells #[.int .i64 0, .string ⟨#[]⟩, .int .i64 0, .int .i64 0, .bool false] 30)) 53 #[.slice A 0 cap, .int .i64 0]
  rw [World.size_alloc] at hbk
  have HK := Lib.hid (skip_nil _ A cap _ hbk)
  have HN := Lib.hid (show scanS [] 0 = (zeroT, 0, 4) from rfl)
  have HB := Lib.hid hbk
  clear hbk
  go_enter Tryd.func15, Tryd.ntmps15
  go_upto_region 9 with (go_at_call 27; refine HK.out.mono ?_; rintro e w2 ⟨rfl, hy⟩; have HX := Lib.hid hy; have d2 := (HB.out.ext hy).cell 1; simp only [List.getElem?_toArray, List.getElem?_cons_zero, List.getElem?_cons_succ] at d2; clear hy)
  have hz := (Blk.new w 30 #[.int .i64 0, .string ⟨#[]⟩, .int .i64 0, .int .i64 0, .bool false]).ext ((ext_box _ (.cells #[.slice A 0 cap, .int .i64 0] 53)).trans HX.out)
  have kzc := hz.cell
  have kzf := hz.frozen
  have HZ := Lib.hid hz
  have hne1 : ¬ w.heap.size + 1 = w.heap.size := by omega
  clear hz
  go_region
  all_goals
    go_wp2_with fail
    have kb := blk_set5 HZ.out (.int .i64 0) (.string ⟨#[]⟩) (.int .i64 0) (.int .i64 0) (.bool false)
    have kc := kb.cell
    refine bodyPost_ret (v := scanV (scanS [] 0)) ?_ rfl ⟨rfl, (ext_set5 ((ext_box2 w _ _).trans HX.out) (Nat.le_refl _) _ _ _ _ _).drew⟩
    rw [HN.out]
    simp [results, Tryd.results15, go_sem, scanV, tokV_eq, zeroT, kc]

theorem pScan_any (A : Option Addr) (cap : Nat) (B : List UInt8) (i : Nat) (w : World) (h : BytesAt w A B) (hi : i ≤ B.length) (hB : B.length ≤ 65536) (hcap : B.length ≤ cap) (g : Glob w) :
    Calls Tryd.prog 15 #[.slice A B.length cap, .int .i64 (i : Int)] w fun e w' => e = .returned (scanV (scanS B i)) ∧ Ext w w' := by
  rcases B with _ | ⟨c, B⟩
  · obtain rfl : i = 0 := by simpa using hi
    exact pScan_nil A cap w
  · obtain ⟨b, off, rfl, _⟩ := bytes_at (k := 0) h (by simp)
    exact pScan_some b off cap (c :: B) i w h (by simp) hi hB hcap g
theorem pScan_at {B : List UInt8} {i : Nat} {t : TokV} {k : Nat} {x : Int} (hs : scanS B i = (t, k, x)) (A : Option Addr) (cap : Nat) (w : World) (h : BytesAt w A B) (hi : i ≤ B.length) (hB : B.length ≤ 65536) (hcap : B.length ≤ cap) (g : Glob w) :
    Calls Tryd.prog 15 #[.slice A B.length cap, .int .i64 (i : Int)] w fun e w' => e = .returned (.tuple #[.agg #[.int .i64 t.kind, .string t.s, .int .i64 t.n, .int .i64 t.at_, .bool t.lay], .int .i64 (k : Int), .int .i64 x]) ∧ Ext w w' := by
  have := pScan_any A cap B i w h hi hB hcap g
  rw [hs] at this
  exact this

set_option maxRecDepth 100000 in
set_option maxHeartbeats 4000000 in
theorem pAll_any (A : Option Addr) (cap : Nat) (B : List UInt8) (w : World) (h : BytesAt w A B) (hB : B.length ≤ 65536) (hcap : B.length ≤ cap) (g : Glob w) :
    Calls Tryd.prog 8 #[.slice A B.length cap] w (AllOut w (allS B)) := by
  obtain ⟨i1, hi1, hz0, hz1, hz2⟩ := infoP tokInfo
  have H := Lib.hid h
  have G := Lib.hid g
  clear h g
  go_enter Tryd.func8, Tryd.ntmps8
  go_wp2_with fail
  go_loopw [5, 6] (fun v i wr => ∃ k : Nat, ∃ acc : List TokV, k ≤ B.length ∧ acc.length ≤ k ∧ i = .int .i64 k ∧ Hid (GathT w wr v acc) ∧ Hid (allS B = allT B k acc)) (fun _ i _ => B.length - (intOf i).toNat)
  case atStart => exact ⟨0, [], Nat.zero_le _, Nat.zero_le _, rfl, GathT.start w, rfl⟩
  case round =>
    obtain ⟨k, acc, hk, hak, rfl, HG, HS⟩ := hrel
    obtain ⟨A1, c1, rfl⟩ := own_value HG.out.own
    have HT := Lib.hid (allT_eq (acc := acc) hk)
    have h5 := scanS_err5 B k
    have hst := scanS_step (B := B) (i := k)
    have hle := scanS_le hk
    cases hsc : scanS B k with
    | mk t r =>
      obtain ⟨e, x⟩ := r
      have HC := Lib.hid (pScan_at hsc A cap wr (H.out.ext HG.out.ext) hk hB hcap (G.out.ext HG.out.ext))
      rw [hsc] at h5 hst hle
      have HSC := Lib.hid hsc
      simp only at h5 hst hle
      clear hsc
      rcases h5 with rfl | rfl | rfl | rfl | rfl
      · obtain ⟨he1, he2⟩ := hst rfl
        have HN := Lib.hid (HS.out.trans (HT.out.trans (show _ = allT B e (acc ++ [t]) from by rw [HSC.out]; rfl)))
        clear hst
        go_wp2_with (first | (go_at_call 15; refine HC.out.mono ?_; rintro e1 w' ⟨rfl, hx⟩; have kx := Lib.hid hx; clear hx) | (at_builtin; refine wpList_append_src (P := Tryd.prog) rfl _ _ 24 rfl 30 i1 _ 5 48 Tryd.underlying24 hi1 hz0 hz1 hz2 rfl (by omega) _ rfl _ _ _ rfl acc.length (flat tokCells acc) (own_ext HG.out.own ((kx.out.alloc _).alloc _)) (tokCells t) (src_new2 _ _ t) (tokCells_one t) (by unfold maxLen; omega) (by omega) ?_; intro v3 w3 ho3 hm3 hb3; have hG3 := Lib.hid (GathT.step HG.out ((kx.out.alloc _).alloc _) ho3 hm3 hb3); clear ho3 hm3 hb3))
        go_roundw
        case rel => exact ⟨e, acc ++ [t], he2, by simp; omega, rfl, hG3, HN.out⟩
        case measure => simp [intOf]; omega
      · have HN := Lib.hid (HS.out.trans (HT.out.trans (show _ = (([], e, 3) : List TokV × Nat × Int) from by rw [HSC.out]; rfl)))
        clear hst
        go_wp2_with (go_at_call 15; refine HC.out.mono ?_; rintro e1 w' ⟨rfl, hx⟩; have kx := Lib.hid hx; clear hx)
        go_ret3
        exact ⟨.slice none 0 0, by rw [HN.out] <;> rfl, by rw [HN.out]; exact (GathT.nil (Ext.refl _)).slice, (HG.out.ext.trans kx.out).alloc _⟩
      · have HN := Lib.hid (HS.out.trans (HT.out.trans (show _ = ((acc, e, 0) : List TokV × Nat × Int) from by rw [HSC.out]; rfl)))
        clear hst
        go_wp2_with (go_at_call 15; refine HC.out.mono ?_; rintro e1 w' ⟨rfl, hx⟩; have kx := Lib.hid hx; clear hx)
        go_ret3
        exact ⟨.slice A1 acc.length c1, by rw [HN.out] <;> rfl, by rw [HN.out]; exact HG.out.slice.ext (kx.out.alloc _), (HG.out.ext.trans kx.out).alloc _⟩
      · have HN := Lib.hid (HS.out.trans (HT.out.trans (show _ = (([], e, 80) : List TokV × Nat × Int) from by rw [HSC.out]; rfl)))
        clear hst
        go_wp2_with (go_at_call 15; refine HC.out.mono ?_; rintro e1 w' ⟨rfl, hx⟩; have kx := Lib.hid hx; clear hx)
        go_ret3
        exact ⟨.slice none 0 0, by rw [HN.out] <;> rfl, by rw [HN.out]; exact (GathT.nil (Ext.refl _)).slice, (HG.out.ext.trans kx.out).alloc _⟩
      · have HN := Lib.hid (HS.out.trans (HT.out.trans (show _ = (([], e, 81) : List TokV × Nat × Int) from by rw [HSC.out]; rfl)))
        clear hst
        go_wp2_with (go_at_call 15; refine HC.out.mono ?_; rintro e1 w' ⟨rfl, hx⟩; have kx := Lib.hid hx; clear hx)
        go_ret3
        exact ⟨.slice none 0 0, by rw [HN.out] <;> rfl, by rw [HN.out]; exact (GathT.nil (Ext.refl _)).slice, (HG.out.ext.trans kx.out).alloc _⟩

end Go.Proofs.YtgjdajkkncdhmaaDoor
