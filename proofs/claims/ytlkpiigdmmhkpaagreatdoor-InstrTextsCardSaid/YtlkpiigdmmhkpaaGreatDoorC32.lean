/- Layer 8, the program: one, whole; the walk of Scan (without All). -/
import Derived.Test.YtlkpiigdmmhkpaaGreatDoorC30
import Derived.Test.YtlkpiigdmmhkpaaGreatDoorC31
import Derived.Test.YtlkpiigdmmhkpaaGreatDoorC28
import Derived.WalkMore
import Derived.Test.YtlkpiigdmmhkpaaGreatDoorC19
import Derived.Test.YtlkpiigdmmhkpaaGreatDoorC20
namespace Go.Proofs.YtlkpiigdmmhkpaaGreatDoor
open Go.RowKit Go.El

theorem pOne_any (sb b off cap : Nat) (B : List UInt8) (i : Nat) (c : UInt8) (w : World) (h : ScAt w sb b off cap B i) (o : Old w sb b) (ho : B[i]? = some c) :
    Calls Tryz.prog 100 #[.pointer (some ⟨sb, 0, none⟩)] w fun e w' => e = .returned (onePV (oneS B i c)) ∧ OneIn w w' sb b off cap B (oneS B i c) := by
  rcases byte_kinds c with hk | hk | hk | hk | hk | hk | hk | hk | hk
  · cases he : endsS B i c
    · exact pOne_sign sb b off cap B i c w h o ho ⟨he, by rw [hk]; rfl⟩
    · exact pOne_end sb b off cap B i c w h o ho he
  · exact pOne_small sb b off cap B i c w h o ho hk
  · exact pOne_sign sb b off cap B i c w h o ho ⟨ends_no hk.1, hk.2⟩
  · exact pOne_solo sb b off cap B i c w h o ho hk
  · exact pOne_digit sb b off cap B i c w h o ho hk
  · exact pOne_great sb b off cap B i c w h o ho hk
  · exact pOne_punct sb b off cap B i c w h o ho hk
  · exact pOne_quote sb b off cap B i c w h o ho hk
  · exact pOne_other sb b off cap B i c w h o ho hk
theorem pOne_err {B : List UInt8} {k : Nat} {c : UInt8} {x : Int} (hx : oneS B k c = .error x) {sb b off cap : Nat} {w : World} (h : ScAt w sb b off cap B k) (o : Old w sb b) (ho : B[k]? = some c) :
    Calls Tryz.prog 100 #[.pointer (some ⟨sb, 0, none⟩)] w fun e w' => e = .returned (.tuple #[.agg #[.int .i64 0, .string ⟨#[]⟩, .int .i64 0, .int .i64 0, .bool false], .int .i64 x]) ∧ ∃ j, ScIn w w' sb b off cap B j := by
  have := pOne_any sb b off cap B k c w h o ho
  rw [hx] at this
  exact this
theorem pOne_ok {B : List UInt8} {k : Nat} {c : UInt8} {kd : Int} {s : List UInt8} {n : Int} {e : Nat} (hx : oneS B k c = .ok (kd, s, n, e)) {sb b off cap : Nat} {w : World} (h : ScAt w sb b off cap B k) (o : Old w sb b) (ho : B[k]? = some c) :
    Calls Tryz.prog 100 #[.pointer (some ⟨sb, 0, none⟩)] w fun e1 w' => e1 = .returned (.tuple #[.agg #[.int .i64 kd, .string (strB s), .int .i64 n, .int .i64 0, .bool false], .int .i64 0]) ∧ ScIn w w' sb b off cap B e := by
  have := pOne_any sb b off cap B k c w h o ho
  rw [hx] at this
  exact this
theorem skip_at {B : List UInt8} {i k : Nat} {ok : Bool} (hs : skipTo B i = (k, ok)) {sb b off cap : Nat} {w : World} (h : ScAt w sb b off cap B i) :
    Calls Tryz.prog 99 #[.pointer (some ⟨sb, 0, none⟩)] w fun e w' => e = .returned (.bool ok) ∧ ScIn w w' sb b off cap B k := by
  have := skip_any sb b off cap B i w h
  rw [hs] at this
  exact this

/-- What Scan stands on: the zero token that is handed back, the scanner that it lays. -/
structure SnAt (w wr : World) (b off cap : Nat) (B : List UInt8) (k : Nat) : Prop where
  sc : ScAt wr (w.heap.size + 1) b off cap B k
  bz : Blk wr w.heap.size 96 #[.int .i64 0, .string ⟨#[]⟩, .int .i64 0, .int .i64 0, .bool false]
  ext : Ext w wr
  old : Old wr (w.heap.size + 1) b
theorem SnAt.new {w : World} {b off cap : Nat} {B : List UInt8} {i : Nat} (h : BytesAt w (some ⟨b, off, none⟩) B) (h0 : 0 < B.length) (hi : i ≤ B.length) (hB : B.length ≤ 65536) (hcap : B.length ≤ cap) (g : Glob w) :
    SnAt w ((w.alloc (.cells #[.int .i64 0, .string ⟨#[]⟩, .int .i64 0, .int .i64 0, .bool false] 96)).alloc (.cells #[.slice (some ⟨b, off, none⟩) B.length cap, .int .i64 (i : Int)] 122)) b off cap B i := by
  have hlb : b < w.heap.size := by
    obtain ⟨b', off', he, hc⟩ := bytes_at h h0
    injection he with he
    injection he with he1 he2
    subst he1
    exact cell_lt (hc 0 _ (List.getElem?_eq_getElem h0))
  obtain ⟨m, hm⟩ := g.max
  obtain ⟨te, pe, he⟩ := g.err
  have hlm : 1 < w.heap.size := cell_lt hm
  have hle : 4 < w.heap.size := cell_lt he
  have hx := ext_box2 w (.cells #[.int .i64 0, .string ⟨#[]⟩, .int .i64 0, .int .i64 0, .bool false] 96) (.cells #[.slice (some ⟨b, off, none⟩) B.length cap, .int .i64 (i : Int)] 122)
  have hbk := Blk.new (w.alloc (.cells #[.int .i64 0, .string ⟨#[]⟩, .int .i64 0, .int .i64 0, .bool false] 96)) 122 #[.slice (some ⟨b, off, none⟩) B.length cap, .int .i64 (i : Int)]
  rw [World.size_alloc] at hbk
  refine ⟨⟨hbk, h.ext hx, by omega, hB, hcap, hi, g.ext hx, by omega, by omega⟩, (Blk.new w _ _).ext (ext_box _ _), hx, ?_⟩
  have hs := hx.size
  exact ⟨hbk.lt, by omega, by omega, by omega⟩
theorem SnAt.in_ {w wr V : World} {b off cap : Nat} {B : List UInt8} {k j : Nat} (h : SnAt w wr b off cap B k) (g : ScIn wr V (w.heap.size + 1) b off cap B j) : SnAt w V b off cap B j :=
  ⟨g.sc, h.bz.mods g.mods (by simp), ext_mods h.ext g.mods (fun x hx => by rw [List.mem_singleton] at hx; omega), h.old.up g.mods⟩

end Go.Proofs.YtlkpiigdmmhkpaaGreatDoor

/- Layer 8, the program: the walk of Scan. -/
namespace Go.Proofs.YtlkpiigdmmhkpaaGreatDoor
open Go.RowKit Go.El

theorem set5_cell {w : World} {g : Nat} {p : Addr} {v : Value} (h : w.cell? p = some v) (hg : g ≠ p.block) (a' b' c' d' e' : Value) : (((((w.setCell ⟨g, 0, none⟩ a').setCell ⟨g, 1, none⟩ b').setCell ⟨g, 2, none⟩ c').setCell ⟨g, 3, none⟩ d').setCell ⟨g, 4, none⟩ e').cell? p = some v := by
  rw [cell_set_ne (p := ⟨g, 4, none⟩) hg, cell_set_ne (p := ⟨g, 3, none⟩) hg, cell_set_ne (p := ⟨g, 2, none⟩) hg, cell_set_ne (p := ⟨g, 1, none⟩) hg, cell_set_ne (p := ⟨g, 0, none⟩) hg]
  exact h

set_option maxRecDepth 100000 in
set_option maxHeartbeats 4000000 in
theorem pScan_some (b off cap : Nat) (B : List UInt8) (i : Nat) (w : World) (h : BytesAt w (some ⟨b, off, none⟩) B) (h0 : 0 < B.length) (hi : i ≤ B.length) (hB : B.length ≤ 65536) (hcap : B.length ≤ cap) (g : Glob w) :
    Calls Tryz.prog 77 #[.slice (some ⟨b, off, none⟩) B.length cap, .int .i64 (i : Int)] w fun e w' => e = .returned (scanV (scanS B i)) ∧ Ext w w' := by
  have HS := Lib.hid (SnAt.new h h0 hi hB hcap g)
  have hib : ¬ B.length < i := by omega
  have hbig : ¬ 65536 < B.length := by omega
  clear h g
  rcases scanS_cases B i with ⟨k, hs, hn⟩ | ⟨k, hs, hk, hn⟩ | ⟨k, c, x, hs, hk, ho, hn⟩ | ⟨k, c, kd, s, n, e, hs, hk, ho, hn⟩
  · have HK := Lib.hid (skip_at hs HS.out.sc)
    have HN := Lib.hid hn
    clear hn hs
    go_enter Tryz.func77, Tryz.ntmps77
    go_upto_region 7 with (go_at_call 99; refine HK.out.mono ?_; rintro e w2 ⟨rfl, hy⟩; have HQ := Lib.hid (HS.out.in_ hy); clear hy)
    have d1 := HQ.out.sc.c0
    have d2 := HQ.out.sc.c1
    have kzc := HQ.out.bz.cell
    have kzf := HQ.out.bz.frozen
    have hne1 : ¬ w.heap.size + 1 = w.heap.size := by omega
    go_region
    all_goals
      go_wp2_with fail
      have kb := blk_set5 HQ.out.bz (.int .i64 0) (.string ⟨#[]⟩) (.int .i64 0) (.int .i64 0) (.bool false)
      have kc := kb.cell
      refine bodyPost_ret (v := scanV (scanS B i)) ?_ rfl ⟨rfl, (ext_set5 HQ.out.ext (Nat.le_refl _) _ _ _ _ _).drew⟩
      rw [HN.out]
      simp [results, Tryz.results77, go_sem, scanV, tokV_eq, zeroT, kc]
  · have HK := Lib.hid (skip_at hs HS.out.sc)
    have hkl : k = B.length := by
      have h1 := skipTo_le hi
      rw [hs] at h1
      have h2 := List.getElem?_eq_none_iff.1 hk
      simp only at h1
      omega
    subst hkl
    have HN := Lib.hid hn
    clear hn hs hk
    go_enter Tryz.func77, Tryz.ntmps77
    go_upto_region 9 with (go_at_call 99; refine HK.out.mono ?_; rintro e w2 ⟨rfl, hy⟩; have HQ := Lib.hid (HS.out.in_ hy); have d1 := HQ.out.sc.c0; have d2 := HQ.out.sc.c1; clear hy)
    have kzc := HQ.out.bz.cell
    have kzf := HQ.out.bz.frozen
    have hne1 : ¬ w.heap.size + 1 = w.heap.size := by omega
    go_region
    all_goals
      go_wp2_with fail
      have kb := blk_set5 HQ.out.bz (.int .i64 0) (.string ⟨#[]⟩) (.int .i64 0) (.int .i64 0) (.bool false)
      have kc := kb.cell
      refine bodyPost_ret (v := scanV (scanS B i)) ?_ rfl ⟨rfl, (ext_set5 HQ.out.ext (Nat.le_refl _) _ _ _ _ _).drew⟩
      rw [HN.out]
      simp [results, Tryz.results77, go_sem, scanV, tokV_eq, zeroT, kc]
  · have HK := Lib.hid (skip_at hs HS.out.sc)
    have HN := Lib.hid hn
    have hkl : k < B.length := (List.getElem?_eq_some_iff.1 hk).1
    have hke : ((k : Int) == (B.length : Int)) = false := by simp; omega
    have hx3 := oneS_err ho
    have HE := Lib.hid ho
    have HO := Lib.hid hk
    clear hn hs hk ho
    rcases hx3 with rfl | rfl | rfl
    all_goals
      go_enter Tryz.func77, Tryz.ntmps77
      go_wp2_with (first | (go_at_call 99; refine HK.out.mono ?_; rintro e w2 ⟨rfl, hy⟩; have HQ := Lib.hid (HS.out.in_ hy); have d1 := HQ.out.sc.c0; have d2 := HQ.out.sc.c1; clear hy) | (go_at_call 100; refine (pOne_err HE.out HQ.out.sc HQ.out.old HO.out).mono ?_; rintro e w3 ⟨rfl, j, hy⟩; have HT := Lib.hid (HQ.out.in_ hy); have kzc := HT.out.bz.cell; have kzf := HT.out.bz.frozen; have kaa := fun o => (HT.out.bz.alloc o).cell; have kff := fun o => (HT.out.bz.alloc o).frozen; have hlt2 : w.heap.size < w3.heap.size := HT.out.bz.lt; have hne : w3.heap.size ≠ w.heap.size := (Nat.ne_of_gt HT.out.bz.lt); clear hy))
      have kb := (blk_set5 HT.out.bz (.int .i64 0) (.string ⟨#[]⟩) (.int .i64 0) (.int .i64 0) (.bool false)).alloc (.cells #[.int .i64 0, .string ⟨#[]⟩, .int .i64 0, .int .i64 0, .bool false] 96)
      have kc := kb.cell
      refine bodyPost_ret (v := scanV (scanS B i)) ?_ rfl ⟨rfl, (ext_set5 HT.out.ext (Nat.le_refl _) _ _ _ _ _).alloc _⟩
      rw [HN.out]
      simp [results, Tryz.results77, go_sem, scanV, tokV_eq, zeroT, kc]
  · have HK := Lib.hid (skip_at hs HS.out.sc)
    have HN := Lib.hid hn
    have hkl : k < B.length := (List.getElem?_eq_some_iff.1 hk).1
    have hke : ((k : Int) == (B.length : Int)) = false := by simp; omega
    have HO := Lib.hid hk
    have HP := fun (W : World) (hW : ScAt W (w.heap.size + 1) b off cap B k) (oW : Old W (w.heap.size + 1) b) => Lib.hid (pOne_ok ho hW oW hk)
    have hlay : decide ((i : Int) < (k : Int)) = decide (i < k) := by simp
    clear hn hs hk ho
    generalize hz : strB s = z at HP
    have HZ := Lib.hid hz
    clear hz
    go_enter Tryz.func77, Tryz.ntmps77
    go_upto_region 15 with (first | (go_at_call 99; refine HK.out.mono ?_; rintro e w2 ⟨rfl, hy⟩; have HQ := Lib.hid (HS.out.in_ hy); have d1 := HQ.out.sc.c0; have d2 := HQ.out.sc.c1; clear hy) | (go_at_call 100; refine (HP _ HQ.out.sc HQ.out.old).out.mono ?_; rintro e w3 ⟨rfl, hy⟩; have HT := Lib.hid (HQ.out.in_ hy); have hlt2 : w.heap.size < w3.heap.size := HT.out.bz.lt; have hne : w3.heap.size ≠ w.heap.size := (Nat.ne_of_gt HT.out.bz.lt); clear hy))
    have kzc := HT.out.bz.cell
    have kzf := HT.out.bz.frozen
    have kaa := fun o => (HT.out.bz.alloc o).cell
    have kff := fun o => (HT.out.bz.alloc o).frozen
    have e1 : ∀ o, (w3.alloc o).cell? ⟨w.heap.size + 1, 1, none⟩ = _ := fun o => (ext_box w3 o).cell HT.out.sc.c1
    have e2 := fun o => (ext_box _ o).cell (set5_cell HT.out.sc.c1 (g := w.heap.size) (by simp) (.int .i64 kd) (.string z) (.int .i64 n) (.int .i64 k) (.bool (decide (i < k))))
    have hne1 : ¬ w.heap.size + 1 = w.heap.size := by omega
    go_region
    all_goals
      go_wp2_with fail
      have kb := ((blk_set5 HT.out.bz (.int .i64 kd) (.string z) (.int .i64 n) (.int .i64 k) (.bool (decide (i < k)))).alloc (.cells #[.int .i64 kd, .string z, .int .i64 n, .int .i64 k, .bool (decide (i < k))] 96))
      have kc := kb.cell
      refine bodyPost_ret (v := scanV (scanS B i)) ?_ rfl ⟨rfl, ((ext_set5 HT.out.ext (Nat.le_refl _) _ _ _ _ _).alloc _).drew⟩
      have hv : scanV (scanS B i) = .tuple #[.agg #[.int .i64 kd, .string z, .int .i64 n, .int .i64 (k : Int), .bool (decide (i < k))], .int .i64 (e : Int), .int .i64 0] := by
        rw [HN.out, ← HZ.out]
        rfl
      rw [hv]
      simp [results, Tryz.results77, go_sem, kc]

end Go.Proofs.YtlkpiigdmmhkpaaGreatDoor

/- Layer 8, the program: Scan of no text; Scan, whole; the walk of All. -/
namespace Go.Proofs.YtlkpiigdmmhkpaaGreatDoor
open Go.RowKit Go.El

set_option maxRecDepth 100000 in
set_option maxHeartbeats 4000000 in
theorem skip_nil (sb : Nat) (A : Option Addr) (cap : Nat) (w : World) (h : Blk w sb 122 #[.slice A 0 cap, .int .i64 0]) :
    Calls Tryz.prog 99 #[.pointer (some ⟨sb, 0, none⟩)] w fun e w' => e = .returned (.bool true) ∧ Ext w w' := by
  have H := Lib.hid h
  clear h
  go_enter Tryz.func99, Tryz.ntmps99
  go_wp2_with fail
  go_step3
  go_wp2_with fail
  go_step3
  go_wp2_with fail
  go_loopw [3, 14] (fun _ _ wr => ∃ _k : Nat, Hid (Ext w wr)) (fun _ _ _ => 0)
  case atStart => exact ⟨0, Ext.refl w⟩
  case round =>
    obtain ⟨_, HX⟩ := hrel
    have d1 := (H.out.ext HX.out).cell 0
    have d2 := (H.out.ext HX.out).cell 1
    simp only [List.getElem?_toArray, List.getElem?_cons_zero, List.getElem?_cons_succ] at d1 d2
    go_upto_region 1 with fail
    go_quiet (fail)
    go_wp2_with fail
    rw [Exit.noGoto_ret]
    go_ret
    exact ⟨rfl, HX.out.drewN _⟩

set_option maxRecDepth 100000 in
set_option maxHeartbeats 4000000 in
theorem pScan_nil (A : Option Addr) (cap : Nat) (w : World) :
    Calls Tryz.prog 77 #[.slice A 0 cap, .int .i64 0] w fun e w' => e = .returned (scanV (scanS [] 0)) ∧ Ext w w' := by
  have hbk := Blk.new (w.alloc (.cells #[.int .i64 0, .string ⟨#[]⟩, .int .i64 0, .int .i64 0, .bool false] 96)) 122 #[.slice A 0 cap, .int .i64 0]
  rw [World.size_alloc] at hbk
  have HK := Lib.hid (skip_nil _ A cap _ hbk)
  have HN := Lib.hid (show scanS [] 0 = (zeroT, 0, 4) from rfl)
  have HB := Lib.hid hbk
  clear hbk
  go_enter Tryz.func77, Tryz.ntmps77
  go_upto_region 9 with (go_at_call 99; refine HK.out.mono ?_; rintro e w2 ⟨rfl, hy⟩; have HX := Lib.hid hy; have d2 := (HB.out.ext hy).cell 1; simp only [List.getElem?_toArray, List.getElem?_cons_zero, List.getElem?_cons_succ] at d2; clear hy)
  have hz := (Blk.new w 96 #[.int .i64 0, .string ⟨#[]⟩, .int .i64 0, .int .i64 0, .bool false]).ext ((ext_box _ (.cells #[.slice A 0 cap, .int .i64 0] 122)).trans HX.out)
  have kzc := hz.cell
  have kzf := hz.frozen
  have HZ := Lib.hid hz
  have hne1 : ¬ w.heap.size + 1 = w.heap.size := by omega
  clear hz
  go_region
  all_goals
    go_wp2_with fail
    have kb := blk_set5 HZ.out (.int .i64 0) (.string ⟨#[]⟩) (.int .i64 0) (.int .i64 0) (.bool false)
    have kc := kb.cell
    refine bodyPost_ret (v := scanV (scanS [] 0)) ?_ rfl ⟨rfl, (ext_set5 ((ext_box2 w _ _).trans HX.out) (Nat.le_refl _) _ _ _ _ _).drew⟩
    rw [HN.out]
    simp [results, Tryz.results77, go_sem, scanV, tokV_eq, zeroT, kc]

theorem pScan_any (A : Option Addr) (cap : Nat) (B : List UInt8) (i : Nat) (w : World) (h : BytesAt w A B) (hi : i ≤ B.length) (hB : B.length ≤ 65536) (hcap : B.length ≤ cap) (g : Glob w) :
    Calls Tryz.prog 77 #[.slice A B.length cap, .int .i64 (i : Int)] w fun e w' => e = .returned (scanV (scanS B i)) ∧ Ext w w' := by
  rcases B with _ | ⟨c, B⟩
  · obtain rfl : i = 0 := by simpa using hi
    exact pScan_nil A cap w
  · obtain ⟨b, off, rfl, _⟩ := bytes_at (k := 0) h (by simp)
    exact pScan_some b off cap (c :: B) i w h (by simp) hi hB hcap g
theorem pScan_at {B : List UInt8} {i : Nat} {t : TokV} {k : Nat} {x : Int} (hs : scanS B i = (t, k, x)) (A : Option Addr) (cap : Nat) (w : World) (h : BytesAt w A B) (hi : i ≤ B.length) (hB : B.length ≤ 65536) (hcap : B.length ≤ cap) (g : Glob w) :
    Calls Tryz.prog 77 #[.slice A B.length cap, .int .i64 (i : Int)] w fun e w' => e = .returned (.tuple #[.agg #[.int .i64 t.kind, .string t.s, .int .i64 t.n, .int .i64 t.at_, .bool t.lay], .int .i64 (k : Int), .int .i64 x]) ∧ Ext w w' := by
  have := pScan_any A cap B i w h hi hB hcap g
  rw [hs] at this
  exact this

end Go.Proofs.YtlkpiigdmmhkpaaGreatDoor

/- Layer 16: the walks of unquote, first. -/
namespace Go.Proofs.YtlkpiigdmmhkpaaGreatDoor
open Go.RowKit Go.El

set_option maxRecDepth 100000 in
set_option maxHeartbeats 2000000 in
theorem unq_any (s : ByteArray) (hs : s.size ≤ 10000) (w : World) (he : Env w) :
    Calls Tryz.prog 52 #[.string s] w fun e w' => e = .returned (.string (unqB s)) ∧ Ext w w' := by
  have hcv := fun W : World => Lib.run_convert_string_bytes (P := Tryz.prog) W 9 68 5 s Tryz.underlying9 Tryz.underlying68 Tryz.underlying5
  have hcv4 := hcv w
  clear hcv
  have hll : s.data.toList.length = s.size := by simp
  have HB := Lib.hid (bytes_new w s)
  have HE := Lib.hid (ext_bytes w 5 s)
  have HG := Lib.hid (he.glob.ext HE.out)
  obtain ⟨t, k, x, hsc⟩ : ∃ t k x, scanS s.data.toList 0 = (t, k, x) := ⟨_, _, _, rfl⟩
  have HS := fun (A : Option Addr) (cap : Nat) (W : World) (h1 : BytesAt W A s.data.toList) (h2 : s.size ≤ cap) (h3 : Glob W) => Lib.hid (show Calls Tryz.prog 77 #[.slice A s.size cap, .int .i64 0] W fun e w' => e = .returned (.tuple #[.agg #[.int .i64 t.kind, .string t.s, .int .i64 t.n, .int .i64 t.at_, .bool t.lay], .int .i64 (k : Int), .int .i64 x]) ∧ Ext W w' from by
    have := pScan_at hsc A cap W h1 (Nat.zero_le _) (by omega) (by omega) h3
    rw [hll] at this
    exact this)
  have hR : unqB s = if x = 0 ∧ k = s.size then t.s else s := by unfold unqB; rw [hsc]
  generalize Lib.bytesWorld w 5 s = W5 at *
  obtain ⟨R, hR2⟩ : ∃ R, unqB s = R := ⟨_, rfl⟩
  rw [hR2] at hR ⊢
  clear hsc hR2 he hll
  by_cases hx : x = 0
  · by_cases hk : k = s.size
    · have HR : Hid (R = t.s) := Lib.hid (by rw [hR, if_pos ⟨hx, hk⟩])
      subst hx
      subst hk
      clear hR
      go_enter Tryz.func52, Tryz.ntmps52
      go_wp2_with (go_at_call 77; refine (HS _ _ _ HB.out (grownCap_ge _ _ _ _) HG.out).out.mono ?_; rintro e W6 ⟨rfl, hx⟩; have HX6 := Lib.hid (HE.out.trans hx); clear hx)
      go_ret
      exact ⟨by rw [HR.out]; rfl, HX6.out.alloc _⟩
    · have HR : Hid (R = s) := Lib.hid (by rw [hR, if_neg (fun c => hk c.2)])
      have hkk : ((k : Int) == (s.size : Int)) = false := by simp; omega
      subst hx
      clear hR hk
      go_enter Tryz.func52, Tryz.ntmps52
      go_wp2_with (go_at_call 77; refine (HS _ _ _ HB.out (grownCap_ge _ _ _ _) HG.out).out.mono ?_; rintro e W6 ⟨rfl, hx⟩; have HX6 := Lib.hid (HE.out.trans hx); clear hx)
      go_ret
      exact ⟨by rw [HR.out]; rfl, HX6.out.alloc _⟩
  · have HR : Hid (R = s) := Lib.hid (by rw [hR, if_neg (fun c => hx c.1)])
    have hxx : (x == 0) = false := by simpa using hx
    clear hR hx
    go_enter Tryz.func52, Tryz.ntmps52
    go_wp2_with (go_at_call 77; refine (HS _ _ _ HB.out (grownCap_ge _ _ _ _) HG.out).out.mono ?_; rintro e W6 ⟨rfl, hx⟩; have HX6 := Lib.hid (HE.out.trans hx); clear hx)
    go_ret
    exact ⟨by rw [HR.out]; rfl, HX6.out.alloc _⟩

end Go.Proofs.YtlkpiigdmmhkpaaGreatDoor
