/- Layer 11, the reference: the walk of text; its contract for all terms; Canon, Text, Clause. -/
import Derived.Test.YtnedihbffiddpaaGreatDoorV9
import Derived.Test.YtnedihbffiddpaaGreatDoorV3
import Derived.Test.YtnedihbffiddpaaGreatDoorW30
namespace Go.Proofs.YtnedihbffiddpaaGreatDoor
open Go.RowKit Go.El

theorem bare_four {o : OpsV} {t : Tm} (hk : t.k = 4) : bareT o t = false := by
  unfold bareT
  rw [hk]
  rfl
theorem par_app (s : ByteArray) (X : List UInt8) (h : s = strB X) : (⟨#[40]⟩ : ByteArray) ++ s ++ (⟨#[41]⟩ : ByteArray) = strB (brk true X) := by
  rw [h, show (⟨#[40]⟩ : ByteArray) = strB [40] from rfl, show (⟨#[41]⟩ : ByteArray) = strB [41] from rfl, strB_app, strB_app]
  rfl

set_option maxRecDepth 100000 in
set_option maxHeartbeats 8000000 in
theorem refText_plain (t : Tm) (hok : okT t = true) (hk : t.k ≠ 4) (hb : szT t ≤ 100000) (w : World) (o : OpsV) (p : Option Addr) (most : Int) (bes : Bool) (A : Option Addr) (c : Nat) (hR : RfAt w o p) (hbo : bes = true → o ≠ none) :
    Calls Tryz.prog 32 #[tmVal t A c, .pointer p, .int .i64 most, .bool bes] w fun e w' => e = .returned (.string (strB (brk (bes && bareT o t) (txT o t most)))) ∧ Ext w w' := by
  have hx := ext_box w (.cells #[.int .i64 t.k, .int .i64 t.n, .string t.s, .slice A t.l.length c] 27)
  have HB := fun (W : World) (x : Ext (w.alloc (.cells #[.int .i64 t.k, .int .i64 t.n, .string t.s, .slice A t.l.length c] 27)) W) => Lib.hid (Blk.ext (Blk.new w 27 #[.int .i64 t.k, .int .i64 t.n, .string t.s, .slice A t.l.length c]) x)
  have HP := fun W => Lib.hid (refPlain_any t hok hk o most A c W)
  have hle := txT_le o t most hok
  have hz := strB_size (txT o t most)
  obtain ⟨hpk, _⟩ := okT_parts' hok
  have q4 : (t.k == 4) = false := by simpa using hk
  have q4' : (t.k != 4) = true := by simpa using hk
  have hpar := par_app (strB (txT o t most)) (txT o t most) rfl
  by_cases hbb : bes = true ∧ bareT o t = true
  · obtain ⟨rfl, hbt⟩ := hbb
    rw [hbt, Bool.and_self]
    obtain ⟨q, rfl⟩ : ∃ q, o = some q := by
      cases o with
      | none => exact absurd rfl (hbo rfl)
      | some q => exact ⟨q, rfl⟩
    obtain ⟨I, Q⟩ := q
    have HFI := fun (W : World) (x : Ext w W) => Lib.hid (foundI (hR.ext x) t.s)
    have HFQ := fun (W : World) (x : Ext w W) => Lib.hid (foundQ (hR.ext x) t.s)
    have hways : (t.k = 3 ∧ ((findO t.s I).isSome || (findO t.s Q).isSome) = true) ∨ (t.k = 2 ∧ t.n < 0) := by
      unfold bareT isOp at hbt
      rw [Bool.or_eq_true, Bool.and_eq_true, Bool.and_eq_true] at hbt
      rcases hbt with ⟨h1, h2⟩ | ⟨h1, h2⟩
      · exact .inl ⟨by simpa using h1, h2⟩
      · exact .inr ⟨by simpa using h1, by simpa using h2⟩
    unfold tmVal at HP ⊢
    generalize txT (some (I, Q)) t most = X at *
    generalize hTX : brk true X = TX at *
    have HPAR := Lib.hid hpar
    generalize hsx : strB X = sx at *
    have hz1 : ¬ 9223372036854775807 < 1 + X.length := by omega
    have hz2 : ¬ 9223372036854775807 < 1 + X.length + 1 := by omega
    generalize hoI : (findO t.s I).getD zeroO = oI at *
    generalize hoQ : (findO t.s Q).getD zeroO = oQ at *
    generalize hsI : (findO t.s I).isSome = sI at *
    generalize hsQ : (findO t.s Q).isSome = sQ at *
    generalize t.n = n at *
    generalize t.s = s at *
    generalize t.l.length = m at *
    rcases hways with ⟨h3, hor⟩ | ⟨h2, hn⟩
    · rw [h3] at HP HB hx ⊢
      clear hR hok hpk q4 q4' hpar hbt hk h3 hbo hTX hsx hoI hoQ hsI hsQ
      go_enter Tryz.func32, Tryz.ntmps32
      go_upto_region 3 with (go_at_call 54; refine (HFI _ hx).out.mono ?_; rintro e W1 ⟨rfl, h1⟩; have X1 := Lib.hid (hx.trans h1); have B1 := HB _ h1; clear h1)
      refine wp_abs (fun V => Hid (Blk V w.heap.size 27 #[.int .i64 3, .int .i64 n, .string s, .slice A m c]) ∧ Hid (Ext w V)) ⟨B1.out.alloc _, X1.out.alloc _⟩ ?_
      clear X1 B1
      rintro V ⟨B1, X1⟩
      have y2 : V.cell? ⟨w.heap.size, 2, none⟩ = some (.string s) := B1.out.cell 2
      go_upto_region 4 with (go_at_call 54; refine (HFQ _ X1.out).out.mono ?_; rintro e W3 ⟨rfl, h1⟩; have X2 := Lib.hid (X1.out.trans h1); have B2 := Lib.hid (B1.out.ext h1); clear h1)
      refine wp_abs (fun V => Hid (Blk V w.heap.size 27 #[.int .i64 3, .int .i64 n, .string s, .slice A m c]) ∧ Hid (Ext w V)) ⟨B2.out.alloc _, X2.out.alloc _⟩ ?_
      clear X1 B1 X2 B2 y2
      rintro U ⟨B1, X1⟩
      have y0 : U.cell? ⟨w.heap.size, 0, none⟩ = some (.int .i64 3) := B1.out.cell 0
      have y1 : U.cell? ⟨w.heap.size, 1, none⟩ = some (.int .i64 n) := B1.out.cell 1
      have y2 : U.cell? ⟨w.heap.size, 2, none⟩ = some (.string s) := B1.out.cell 2
      have y3 : U.cell? ⟨w.heap.size, 3, none⟩ = some (.slice A m c) := B1.out.cell 3
      cases sI
      case' true => clear hor
      case' false =>
        rw [Bool.false_or] at hor
        subst hor
      all_goals
        go_wp2_with (go_at_call 55; refine (HP _).out.mono ?_; rintro e W5 ⟨rfl, h5⟩; have X5 := Lib.hid (X1.out.trans h5); clear h5)
        go_ret
        exact ⟨ret_str HPAR.out, X5.out⟩
    · rw [h2] at HP HB hx ⊢
      clear hR hok hpk q4 q4' hpar hbt hk h2 hbo hTX hsx hoI hoQ hsI hsQ HFI HFQ
      go_enter Tryz.func32, Tryz.ntmps32
      go_wp2_with (go_at_call 55; refine (HP _).out.mono ?_; rintro e W5 ⟨rfl, h5⟩; have X5 := Lib.hid (hx.trans h5); clear h5)
      go_ret
      exact ⟨ret_str HPAR.out, X5.out⟩
  · have hbf : (bes && bareT o t) = false := by
      cases hbes : bes
      · rfl
      · cases hbt : bareT o t
        · rfl
        · exact absurd ⟨hbes, hbt⟩ hbb
    rw [hbf]
    have hbr : brk false (txT o t most) = txT o t most := rfl
    rw [hbr]
    rcases part_kind' hpk with k1 | k2 | k3 | k4
    · unfold tmVal at HP ⊢
      rw [k1] at HP HB hx ⊢
      generalize txT o t most = X at *
      generalize strB X = sx at *
      generalize t.n = n at *
      generalize t.s = s at *
      generalize t.l.length = m at *
      clear hR hok hpk q4 q4' hpar hk k1 hbo hbf hbr hbb hz
      go_enter Tryz.func32, Tryz.ntmps32
      go_wp2_with (go_at_call 55; refine (HP _).out.mono ?_; rintro e W5 ⟨rfl, h5⟩; have X5 := Lib.hid (hx.trans h5); clear h5)
      go_ret
      exact ⟨rfl, X5.out⟩
    · have hn : bes = true → ¬ t.n < 0 := fun h1 h2 => hbb ⟨h1, by unfold bareT; rw [k2]; simp [h2]⟩
      unfold tmVal at HP ⊢
      rw [k2] at HP HB hx ⊢
      generalize txT o t most = X at *
      generalize strB X = sx at *
      generalize t.n = n at *
      generalize t.s = s at *
      generalize t.l.length = m at *
      clear hR hok hpk q4 q4' hpar hk k2 hbo hbf hbr hbb hz
      cases bes
      case' true =>
        have hn0 := hn rfl
        have hn1 : 0 ≤ n := by omega
        clear hn0
      all_goals
        clear hn
        by_cases hn2 : n < 0
        · first
          | (exfalso; omega)
          | (go_enter Tryz.func32, Tryz.ntmps32
             go_wp2_with (go_at_call 55; refine (HP _).out.mono ?_; rintro e W5 ⟨rfl, h5⟩; have X5 := Lib.hid (hx.trans h5); clear h5)
             go_ret
             exact ⟨rfl, X5.out⟩)
        · go_enter Tryz.func32, Tryz.ntmps32
          go_wp2_with (go_at_call 55; refine (HP _).out.mono ?_; rintro e W5 ⟨rfl, h5⟩; have X5 := Lib.hid (hx.trans h5); clear h5)
          go_ret
          exact ⟨rfl, X5.out⟩
    · cases hbes : bes
      · unfold tmVal at HP ⊢
        rw [k3] at HP HB hx ⊢
        generalize txT o t most = X at *
        generalize strB X = sx at *
        generalize t.n = n at *
        generalize t.s = s at *
        generalize t.l.length = m at *
        clear hR hok hpk q4 q4' hpar hk k3 hbo hbf hbr hbb hz hbes
        go_enter Tryz.func32, Tryz.ntmps32
        go_wp2_with (go_at_call 55; refine (HP _).out.mono ?_; rintro e W5 ⟨rfl, h5⟩; have X5 := Lib.hid (hx.trans h5); clear h5)
        go_ret
        exact ⟨rfl, X5.out⟩
      · obtain ⟨q, rfl⟩ : ∃ q, o = some q := by
          cases o with
          | none => exact absurd rfl (hbo hbes)
          | some q => exact ⟨q, rfl⟩
        obtain ⟨I, Q⟩ := q
        have HFI := fun (W : World) (x : Ext w W) => Lib.hid (foundI (hR.ext x) t.s)
        have HFQ := fun (W : World) (x : Ext w W) => Lib.hid (foundQ (hR.ext x) t.s)
        have hno : (findO t.s I).isSome = false ∧ (findO t.s Q).isSome = false := by
          have h1 : ¬ bareT (some (I, Q)) t = true := fun h => hbb ⟨hbes, h⟩
          unfold bareT isOp at h1
          rw [k3] at h1
          cases ha : (findO t.s I).isSome
          · cases hb : (findO t.s Q).isSome
            · exact ⟨rfl, rfl⟩
            · exact absurd (by simp [hb]) h1
          · exact absurd (by simp [ha]) h1
        rw [hno.1] at HFI
        rw [hno.2] at HFQ
        unfold tmVal at HP ⊢
        rw [k3] at HP HB hx ⊢
        generalize txT (some (I, Q)) t most = X at *
        generalize strB X = sx at *
        generalize hoI : (findO t.s I).getD zeroO = oI at *
        generalize hoQ : (findO t.s Q).getD zeroO = oQ at *
        generalize t.n = n at *
        generalize t.s = s at *
        generalize t.l.length = m at *
        clear hR hok hpk q4 q4' hpar hk k3 hbo hbf hbr hbb hz hbes hno hoI hoQ
        go_enter Tryz.func32, Tryz.ntmps32
        go_upto_region 3 with (go_at_call 54; refine (HFI _ hx).out.mono ?_; rintro e W1 ⟨rfl, h1⟩; have X1 := Lib.hid (hx.trans h1); have B1 := HB _ h1; clear h1)
        refine wp_abs (fun V => Hid (Blk V w.heap.size 27 #[.int .i64 3, .int .i64 n, .string s, .slice A m c]) ∧ Hid (Ext w V)) ⟨B1.out.alloc _, X1.out.alloc _⟩ ?_
        clear X1 B1
        rintro V ⟨B1, X1⟩
        have y2 : V.cell? ⟨w.heap.size, 2, none⟩ = some (.string s) := B1.out.cell 2
        go_upto_region 4 with (go_at_call 54; refine (HFQ _ X1.out).out.mono ?_; rintro e W3 ⟨rfl, h1⟩; have X2 := Lib.hid (X1.out.trans h1); have B2 := Lib.hid (B1.out.ext h1); clear h1)
        refine wp_abs (fun V => Hid (Blk V w.heap.size 27 #[.int .i64 3, .int .i64 n, .string s, .slice A m c]) ∧ Hid (Ext w V)) ⟨B2.out.alloc _, X2.out.alloc _⟩ ?_
        clear X1 B1 X2 B2 y2
        rintro U ⟨B1, X1⟩
        have y0 : U.cell? ⟨w.heap.size, 0, none⟩ = some (.int .i64 3) := B1.out.cell 0
        have y1 : U.cell? ⟨w.heap.size, 1, none⟩ = some (.int .i64 n) := B1.out.cell 1
        have y2 : U.cell? ⟨w.heap.size, 2, none⟩ = some (.string s) := B1.out.cell 2
        have y3 : U.cell? ⟨w.heap.size, 3, none⟩ = some (.slice A m c) := B1.out.cell 3
        go_wp2_with (go_at_call 55; refine (HP _).out.mono ?_; rintro e W5 ⟨rfl, h5⟩; have X5 := Lib.hid (X1.out.trans h5); clear h5)
        go_ret
        exact ⟨rfl, X5.out⟩
    · exact absurd k4 hk

end Go.Proofs.YtnedihbffiddpaaGreatDoor

/- Layer 11, the reference: the walk of text at compounds; its contract for all terms; Canon, Text, Clause. -/
namespace Go.Proofs.YtnedihbffiddpaaGreatDoor
open Go.RowKit Go.El

set_option maxRecDepth 100000 in
set_option maxHeartbeats 4000000 in
theorem refText_list (N : Nat) (IH : RTxC N) (t : Tm) (hN : szT t ≤ N + 1) (hok : okT t = true) (hb : szT t ≤ 100000) (hk : t.k = 4) (hls : isLs t.k t.s t.l.length = true) (w : World) (o : OpsV) (p : Option Addr) (most : Int) (bes : Bool) (A : Option Addr) (c : Nat) (D : Nat → Prop) (hR : RfAt w o p) (ht : TmIn D w t A c) :
    Calls Tryz.prog 32 #[tmVal t A c, .pointer p, .int .i64 most, .bool bes] w fun e w' => e = .returned (.string (strB (brk (bes && bareT o t) (txT o t most)))) ∧ Ext w w' := by
  have hx := ext_box w (.cells #[.int .i64 t.k, .int .i64 t.n, .string t.s, .slice A t.l.length c] 27)
  have HB := fun (W : World) (x : Ext (w.alloc (.cells #[.int .i64 t.k, .int .i64 t.n, .string t.s, .slice A t.l.length c] 27)) W) => (show Hid (W.cell? ⟨w.heap.size, 0, none⟩ = some (.int .i64 t.k) ∧ W.cell? ⟨w.heap.size, 1, none⟩ = some (.int .i64 t.n) ∧ W.cell? ⟨w.heap.size, 2, none⟩ = some (.string t.s) ∧ W.cell? ⟨w.heap.size, 3, none⟩ = some (.slice A t.l.length c)) from Lib.hid ⟨new_cell x 0, new_cell x 1, new_cell x 2, new_cell x 3⟩)
  have HI := fun W => Lib.hid (refIsList_any t A c W)
  have HL := fun (W : World) (x : Ext w W) => Lib.hid (refList_any N IH t hN hok hb hls W o p most A c D (hR.ext x) (ht.ext x))
  rw [hls] at HI
  rw [bare_four hk, Bool.and_false]
  have hbr : brk false (txT o t most) = txT o t most := rfl
  rw [hbr]
  unfold tmVal at HI HL ⊢
  rw [hk] at HI HL HB hx ⊢
  generalize strB (txT o t most) = sx at *
  generalize t.n = n at *
  generalize t.s = s at *
  generalize t.l.length = m at *
  clear hR ht hok hls hk hbr hN hb
  go_enter Tryz.func32, Tryz.ntmps32
  go_wp2_with (first | (go_at_call 56; refine (HI _).out.mono ?_; rintro e W1 ⟨rfl, h1⟩; have X1 := Lib.hid (hx.trans h1); obtain ⟨y0, y1, y2, y3⟩ := (HB _ h1).out; clear h1) | (go_at_call 57; refine (HL _ X1.out).out.mono ?_; rintro e W2 ⟨rfl, h2⟩; have X2 := Lib.hid (X1.out.trans h2); clear h2))
  go_ret
  exact ⟨rfl, X2.out⟩

set_option maxRecDepth 100000 in
set_option maxHeartbeats 4000000 in
theorem refText_op (N : Nat) (IH : RTxC N) (t : Tm) (hN : szT t ≤ N + 1) (hok : okT t = true) (hb : szT t ≤ 100000) (hk : t.k = 4) (hls : isLs t.k t.s t.l.length = false) (w : World) (I Q : List OpV) (p : Option Addr) (most : Int) (bes : Bool) (X : List UInt8) (hX : operF I Q t.k t.s t.l most (a0T (some (I, Q)) t.l) (a1T (some (I, Q)) t.l) = some X) (A : Option Addr) (c : Nat) (D : Nat → Prop) (hR : RfAt w (some (I, Q)) p) (ht : TmIn D w t A c) :
    Calls Tryz.prog 32 #[tmVal t A c, .pointer p, .int .i64 most, .bool bes] w fun e w' => e = .returned (.string (strB (brk (bes && bareT (some (I, Q)) t) (txT (some (I, Q)) t most)))) ∧ Ext w w' := by
  have hx := ext_box w (.cells #[.int .i64 t.k, .int .i64 t.n, .string t.s, .slice A t.l.length c] 27)
  have HB := fun (W : World) (x : Ext (w.alloc (.cells #[.int .i64 t.k, .int .i64 t.n, .string t.s, .slice A t.l.length c] 27)) W) => (show Hid (W.cell? ⟨w.heap.size, 0, none⟩ = some (.int .i64 t.k) ∧ W.cell? ⟨w.heap.size, 1, none⟩ = some (.int .i64 t.n) ∧ W.cell? ⟨w.heap.size, 2, none⟩ = some (.string t.s) ∧ W.cell? ⟨w.heap.size, 3, none⟩ = some (.slice A t.l.length c)) from Lib.hid ⟨new_cell x 0, new_cell x 1, new_cell x 2, new_cell x 3⟩)
  have HI := fun W => Lib.hid (refIsList_any t A c W)
  have HO := fun (W : World) (x : Ext w W) => Lib.hid (refOp_any N IH t hN hok hb hk hls W I Q p most A c D (hR.ext x) (ht.ext x))
  rw [hX] at HO
  dsimp only at HO
  rw [hls] at HI
  rw [bare_four hk, Bool.and_false]
  have htx := tx_comp (o := some (I, Q)) (most := most) hk hls
  simp only [Option.bind_some, hX] at htx
  have hbr : brk false (txT (some (I, Q)) t most) = txT (some (I, Q)) t most := rfl
  rw [hbr, htx]
  obtain ⟨rb, _, _, rfl, _⟩ := hR
  unfold tmVal at HI HO ⊢
  rw [hk] at HI HO HB hx ⊢
  generalize strB X = sx at *
  generalize t.n = n at *
  generalize t.s = s at *
  generalize t.l.length = m at *
  clear ht hok hls hk hbr htx hX hN hb
  go_enter Tryz.func32, Tryz.ntmps32
  go_wp2_with (first | (go_at_call 56; refine (HI _).out.mono ?_; rintro e W1 ⟨rfl, h1⟩; have X1 := Lib.hid (hx.trans h1); obtain ⟨y0, y1, y2, y3⟩ := (HB _ h1).out; clear h1) | (go_at_call 58; refine (HO _ X1.out).out.mono ?_; rintro e W2 ⟨rfl, h2⟩; have X2 := Lib.hid (X1.out.trans h2); clear h2))
  go_ret
  exact ⟨rfl, X2.out⟩

set_option maxRecDepth 100000 in
set_option maxHeartbeats 8000000 in
theorem refText_def (N : Nat) (IH : RTxC N) (t : Tm) (hN : szT t ≤ N + 1) (hok : okT t = true) (hb : szT t ≤ 100000) (hk : t.k = 4) (hls : isLs t.k t.s t.l.length = false) (w : World) (o : OpsV) (p : Option Addr) (most : Int) (bes : Bool) (hX : o.bind (fun q => operF q.1 q.2 t.k t.s t.l most (a0T o t.l) (a1T o t.l)) = none) (A : Option Addr) (c : Nat) (D : Nat → Prop) (hR : RfAt w o p) (ht : TmIn D w t A c) :
    Calls Tryz.prog 32 #[tmVal t A c, .pointer p, .int .i64 most, .bool bes] w fun e w' => e = .returned (.string (strB (brk (bes && bareT o t) (txT o t most)))) ∧ Ext w w' := by
  have hx := ext_box w (.cells #[.int .i64 t.k, .int .i64 t.n, .string t.s, .slice A t.l.length c] 27)
  have HB := fun (W : World) (x : Ext (w.alloc (.cells #[.int .i64 t.k, .int .i64 t.n, .string t.s, .slice A t.l.length c] 27)) W) => Lib.hid (Blk.ext (Blk.new w 27 #[.int .i64 t.k, .int .i64 t.n, .string t.s, .slice A t.l.length c]) x)
  have HI := fun W => Lib.hid (refIsList_any t A c W)
  rw [hls] at HI
  obtain ⟨hpk, hokl⟩ := okT_parts' hok
  have hs64 : t.s.size ≤ 64 := (part_bd hpk).2.2
  have hqs := quoF_le t.s.data.toList
  have hsl : t.s.data.toList.length = t.s.size := by simp
  have HQ := fun (W : World) => Lib.hid (rQuote_any t.s.data.toList W (by omega))
  rw [strB_mk] at HQ
  have hsz : szT t = 1 + szL t.l := by cases t; rfl
  have hlen := len_szL t.l
  have HT := Lib.hid ht
  have HR := Lib.hid hR
  have HOKL := Lib.hid hokl
  have HRT := Lib.hid (rwT_take_le o t.l hokl)
  have htx := tx_comp (o := o) (most := most) hk hls
  rw [hX] at htx
  have htx2 : txT o t most = quoF t.s.data.toList ++ [40] ++ rwT o t.l ++ [41] := htx
  have hbr : brk false (txT o t most) = txT o t most := rfl
  rw [bare_four hk, Bool.and_false, hbr, htx2]
  have hqz := strB_size (quoF t.s.data.toList)
  generalize hqL : strB (quoF t.s.data.toList) = q at *
  have HQL := Lib.hid hqL.symm
  have HO : Hid (o = none ∨ ∃ I Q, o = some (I, Q) ∧ ∀ (W : World), Ext w W → Calls Tryz.prog 58 #[.agg #[.int .i64 t.k, .int .i64 t.n, .string t.s, .slice A t.l.length c], .pointer p, .int .i64 most] W fun e w' => e = .returned (.tuple #[.string ⟨#[]⟩, .bool false]) ∧ Ext W w') := by
    cases o with
    | none => exact Lib.hid (.inl rfl)
    | some z =>
      obtain ⟨I, Q⟩ := z
      refine Lib.hid (.inr ⟨I, Q, rfl, fun W y => ?_⟩)
      have := refOp_any N IH t hN hok hb hk hls W I Q p most A c D (hR.ext y) (ht.ext y)
      simp only [Option.bind_some] at hX
      rw [hX] at this
      exact this
  have HPO : Hid ((o = none → p = none) ∧ (∀ z, o = some z → ∃ rb, p = some ⟨rb, 0, none⟩)) := by
    cases o with
    | none => exact Lib.hid ⟨fun _ => hR, (fun _ h => by cases h)⟩
    | some z =>
      obtain ⟨I, Q⟩ := z
      obtain ⟨rb, _, _, e, _⟩ := hR
      exact Lib.hid ⟨(fun h => by cases h), fun _ _ => ⟨rb, e⟩⟩
  unfold tmVal at HI ⊢
  rw [hk] at HI HB HO hx ⊢
  generalize quoF t.s.data.toList = QL at *
  generalize hTX : QL ++ [40] ++ rwT o t.l ++ [41] = TX
  have HTX := Lib.hid hTX
  generalize t.n = n at *
  generalize t.s = s at *
  have HTA := Lib.hid (show TmsIn D w t.l A c from HT.out.args)
  generalize t.l = l at *
  have hz1 : ¬ 9223372036854775807 < QL.length + 1 := by omega
  have HQB := Lib.hid (show QL.length ≤ 330 by omega)
  clear hR ht hok hls hk hbr htx htx2 hX hqL hpk hokl hsl hTX HT
  rcases HO.out with ho0 | ⟨I, Q, ho0, hop⟩
  case' inl =>
    obtain rfl := HPO.out.1 ho0
    clear HO HPO ho0
    go_enter Tryz.func32, Tryz.ntmps32
    go_upto_region 16 with (go_at_call 56; refine (HI _).out.mono ?_; rintro e W1 ⟨rfl, h1⟩; have X1 := Lib.hid (hx.trans h1); have B1 := HB _ h1; clear h1)
    refine wp_abs (fun V => Hid (Blk V w.heap.size 27 #[.int .i64 4, .int .i64 n, .string s, .slice A l.length c]) ∧ Hid (Ext w V)) ⟨B1, X1⟩ ?_
  case' inr =>
    obtain ⟨rb, rfl⟩ := HPO.out.2 _ ho0
    have HOP := Lib.hid hop
    clear HO HPO hop ho0
    go_enter Tryz.func32, Tryz.ntmps32
    go_upto_region 16 with (first | (go_at_call 56; refine (HI _).out.mono ?_; rintro e W1 ⟨rfl, h1⟩; have X1 := Lib.hid (hx.trans h1); have B1 := HB _ h1; have y0 := B1.out.cell 0; have y1 := B1.out.cell 1; have y2 := B1.out.cell 2; have y3 := B1.out.cell 3; clear h1) | (go_at_call 58; refine (HOP.out _ X1.out).mono ?_; rintro e W2 ⟨rfl, h2⟩; have X2 := Lib.hid (X1.out.trans h2); have B2 := Lib.hid (B1.out.ext h2); clear h2))
    refine wp_abs (fun V => Hid (Blk V w.heap.size 27 #[.int .i64 4, .int .i64 n, .string s, .slice A l.length c]) ∧ Hid (Ext w V)) ⟨B2, X2⟩ ?_
    clear y0 y1 y2 y3
  all_goals
    rintro V0 ⟨B0, X0⟩
    have y2 : V0.cell? ⟨w.heap.size, 2, none⟩ = some (.string s) := B0.out.cell 2
    go_upto_region 18 with (go_at_call 59; refine (HQ _).out.mono ?_; rintro e V ⟨rfl, h3⟩; have HV := Lib.hid (X0.out.trans h3); have HBV := Lib.hid (B0.out.ext h3); clear h3)
    clear y2
    go_loopw [15, 16] (fun out i wr => ∃ (j : Nat) (s0 : ByteArray), j ≤ l.length ∧ out = .string s0 ∧ i = .int .i64 j ∧ Hid (s0 = strB (QL ++ [40] ++ rwT o (l.take j))) ∧ Hid (Ext V wr)) (fun _ i _ => l.length - (intOf i).toNat)
    case atStart => exact ⟨0, _, Nat.zero_le _, rfl, rfl, Lib.hid (by rw [List.take_zero, show rwT o [] = [] by simp [rwT], List.append_nil, HQL.out]; exact strB_app QL [40]), Lib.hid (Ext.refl _)⟩
    case round =>
      obtain ⟨j, s0, hj, rfl, rfl, HS0, HX⟩ := hrel
      have hle := HRT.out j
      have hsl := szL_take_le l j
      have hqb := HQB.out
      have hz0 : s0.size = QL.length + 1 + (rwT o (l.take j)).length := by rw [HS0.out, strB_size]; simp; omega
      have hsb : s0.size ≤ 50000000 := by omega
      clear hz0 hle
      have y3 : wr.cell? ⟨w.heap.size, 3, none⟩ = some (.slice A l.length c) := (HBV.out.ext HX.out).cell 3
      by_cases hlt : j < l.length
      · have ho : l[j]? = some l[j] := List.getElem?_eq_getElem hlt
        have hsu := szL_get ho
        have hou := okL_get HOKL.out ho
        have hrt := Lib.hid (rwT_take o ho)
        generalize l[j] = u at *
        obtain ⟨bb, off, Aa, ca, rfl, _, ta, p0, p1, p2, p3⟩ := (HTA.out.ext (HV.out.trans HX.out)).child (j := j) ho
        have HC := Lib.hid (IH.no (t := u) (by omega) hou (by omega) 999 (HR.out.ext (HV.out.trans HX.out)) ta (by omega) (by omega))
        have hlu := txT_le o u 999 hou
        have hzu := strB_size (txT o u 999)
        generalize hsu1 : strB (txT o u 999) = s1 at *
        have HS1 := Lib.hid hsu1
        have hs1b : s1.size ≤ 50000000 := by omega
        clear hsu1 hzu hlu ho ta
        by_cases hj0 : j = 0
        · have hjc : ¬ (0 : Int) < (j : Int) := by omega
          rw [if_pos hj0, List.append_nil] at hrt
          have hbig : ¬ 9223372036854775807 < s0.size + s1.size := by omega
          clear hj0
          go_wp2_with (go_at_call 32; refine HC.out.mono ?_; rintro e W3 ⟨rfl, h3⟩; have H3 := Lib.hid (HX.out.trans h3); clear h3)
          go_roundw
          case rel => exact ⟨j + 1, s0 ++ s1, hlt, rfl, by go_num, Lib.hid (by rw [hrt.out, HS0.out, ← HS1.out, strB_app, List.append_assoc]), H3⟩
          case measure => simp [intOf]; omega
        · have hjc : (0 : Int) < (j : Int) := by omega
          rw [if_neg hj0] at hrt
          have hbig0 : ¬ 9223372036854775807 < s0.size + 1 := by omega
          have hbig : ¬ 9223372036854775807 < s0.size + 1 + s1.size := by omega
          clear hj0
          go_wp2_with (go_at_call 32; refine HC.out.mono ?_; rintro e W3 ⟨rfl, h3⟩; have H3 := Lib.hid (HX.out.trans h3); clear h3)
          go_roundw
          case rel => exact ⟨j + 1, s0 ++ ⟨#[44]⟩ ++ s1, hlt, rfl, by go_num, Lib.hid (by rw [hrt.out, HS0.out, ← HS1.out, show (⟨#[44]⟩ : ByteArray) = strB [44] from rfl, strB_app, strB_app]; simp), H3⟩
          case measure => simp [intOf]; omega
      · obtain rfl : j = l.length := by omega
        rw [List.take_length] at HS0
        have hbig0 : ¬ 9223372036854775807 < s0.size + 1 := by omega
        go_wp2_with fail
        go_ret
        exact ⟨ret_str (by rw [← HTX.out, HS0.out]; exact strB_app _ [41]), HV.out.trans HX.out⟩

theorem rtx_step (N : Nat) (IH : RTxC N) : RTxC (N + 1) := by
  intro t hN hok hb w o p most bes A c D hR hbo ht h1 h2
  by_cases hk : t.k = 4
  · cases hls : isLs t.k t.s t.l.length
    · cases hX : o.bind (fun q => operF q.1 q.2 t.k t.s t.l most (a0T o t.l) (a1T o t.l)) with
      | none => exact refText_def N IH t hN hok hb hk hls w o p most bes hX A c D hR ht
      | some X =>
        cases o with
        | none => cases hX
        | some q =>
          obtain ⟨I, Q⟩ := q
          exact refText_op N IH t hN hok hb hk hls w I Q p most bes X hX A c D hR ht
    · exact refText_list N IH t hN hok hb hk hls w o p most bes A c D hR ht
  · exact refText_plain t hok hk hb w o p most bes A c hR hbo
theorem rtx_all : ∀ N, RTxC N
  | 0 => fun t h => by
    have := szT_pos t
    omega
  | N + 1 => rtx_step N (rtx_all N)

set_option maxRecDepth 100000 in
theorem refLong_any (X : List UInt8) (w : World) :
    Calls Tryz.prog 34 #[.string (strB X)] w fun e w' => e = .returned (.tuple #[.string (txtS X), .int .i64 (txtE X)]) ∧ w = w' := by
  have hz := strB_size X
  by_cases hl : 65536 < X.length
  · rw [show txtS X = ⟨#[]⟩ from if_pos hl, show txtE X = 3 from if_pos hl]
    have hq : (65536 : Int) < (X.length : Int) := by omega
    go_enter Tryz.func34, Tryz.ntmps34
    go_wp2_with fail
    go_ret2
    exact ⟨rfl, rfl⟩
  · rw [show txtS X = strB X from if_neg hl, show txtE X = 0 from if_neg hl]
    have hq : ¬ (65536 : Int) < (X.length : Int) := by omega
    go_enter Tryz.func34, Tryz.ntmps34
    go_wp2_with fail
    go_ret2
    exact ⟨rfl, rfl⟩

end Go.Proofs.YtnedihbffiddpaaGreatDoor

/- Layer 11, the reference: the walks of Canon, Text, Clause. -/
namespace Go.Proofs.YtnedihbffiddpaaGreatDoor
open Go.RowKit Go.El

theorem wrt_nil {o : OpsV} {t : Tm} (h : chkT t = 0) : wrtS o t [] = txtS (txT o t 1200) ∧ wrtE o t [] = txtE (txT o t 1200) := by
  unfold wrtS wrtE
  rw [if_pos h, if_pos h, List.append_nil]
  exact ⟨rfl, rfl⟩
theorem wrt_bad {o : OpsV} {t : Tm} {X : List UInt8} (h : ¬ chkT t = 0) : wrtS o t X = ⟨#[]⟩ ∧ wrtE o t X = chkT t := by
  unfold wrtS wrtE
  rw [if_neg h, if_neg h]
  exact ⟨rfl, rfl⟩

set_option maxRecDepth 100000 in
set_option maxHeartbeats 2000000 in
theorem refCanon_any (t : Tm) (A : Option Addr) (c : Nat) (w : World) (D : Nat → Prop) (ht : TmIn D w t A c) (hsz : szT t ≤ 100000) :
    Calls Tryz.prog 13 #[tmVal t A c] w fun e w' => e = .returned (.tuple #[.string (wrtS none t []), .int .i64 (wrtE none t [])]) ∧ Ext w w' := by
  have hx := ext_box w (.cells #[.int .i64 t.k, .int .i64 t.n, .string t.s, .slice A t.l.length c] 27)
  have HB := fun (W : World) (x : Ext (w.alloc (.cells #[.int .i64 t.k, .int .i64 t.n, .string t.s, .slice A t.l.length c] 27)) W) => (show Hid (W.cell? ⟨w.heap.size, 0, none⟩ = some (.int .i64 t.k) ∧ W.cell? ⟨w.heap.size, 1, none⟩ = some (.int .i64 t.n) ∧ W.cell? ⟨w.heap.size, 2, none⟩ = some (.string t.s) ∧ W.cell? ⟨w.heap.size, 3, none⟩ = some (.slice A t.l.length c)) from Lib.hid ⟨new_cell x 0, new_cell x 1, new_cell x 2, new_cell x 3⟩)
  have HC := Lib.hid (refCheck_any t A c _ D (ht.ext hx) (by omega))
  by_cases hc : chkT t = 0
  · have hok := (mayT_iff.1 (show mayT t = true by unfold mayT; simp [hc])).1
    have HT := fun (W : World) (x : Ext w W) => Lib.hid ((rtx_all (szT t)).no (Nat.le_refl _) hok hsz (o := none) (p := none) 1200 (w := W) rfl (ht.ext x) (by omega) (by omega))
    have HL := fun W => Lib.hid (refLong_any (txT none t 1200) W)
    rw [(wrt_nil hc).1, (wrt_nil hc).2]
    rw [hc] at HC
    unfold tmVal at HC ⊢
    generalize txtS (txT none t 1200) = rs at *
    generalize txtE (txT none t 1200) = re at *
    generalize strB (txT none t 1200) = sx at *
    generalize t.k = k at *
    generalize t.n = n at *
    generalize t.s = s at *
    generalize t.l.length = m at *
    clear ht hok hc
    go_enter Tryz.func13, Tryz.ntmps13
    go_wp2_with (first | (go_at_call 29; refine HC.out.mono ?_; rintro e W1 ⟨rfl, h1⟩; have X1 := Lib.hid (hx.trans h1); obtain ⟨y0, y1, y2, y3⟩ := (HB _ h1).out; clear h1) | (go_at_call 32; refine (HT _ X1.out).out.mono ?_; rintro e W2 ⟨rfl, h2⟩; have X2 := Lib.hid (X1.out.trans h2); clear h2) | (go_at_call 34; refine (HL _).out.mono ?_; rintro e w' ⟨rfl, rfl⟩))
    go_ret2
    exact ⟨rfl, X2.out⟩
  · rw [(wrt_bad hc).1, (wrt_bad hc).2]
    have q1 : (chkT t == 0) = false := by simpa using hc
    have q2 : (chkT t != 0) = true := by simpa using hc
    unfold tmVal at HC ⊢
    generalize chkT t = r at *
    clear ht hc
    go_enter Tryz.func13, Tryz.ntmps13
    go_wp2_with (go_at_call 29; refine HC.out.mono ?_; rintro e W1 ⟨rfl, h1⟩; have X1 := Lib.hid (hx.trans h1); clear h1)
    go_ret2
    exact ⟨rfl, X1.out⟩

set_option maxRecDepth 100000 in
set_option maxHeartbeats 2000000 in
theorem refTextOps_any (t : Tm) (A : Option Addr) (c : Nat) (w : World) (D : Nat → Prop) (o : OpsV) (p : Option Addr) (hR : RfAt w o p) (ht : TmIn D w t A c) (hsz : szT t ≤ 100000) :
    Calls Tryz.prog 15 #[tmVal t A c, .pointer p] w fun e w' => e = .returned (.tuple #[.string (wrtS o t []), .int .i64 (wrtE o t [])]) ∧ Ext w w' := by
  have hx := ext_box w (.cells #[.int .i64 t.k, .int .i64 t.n, .string t.s, .slice A t.l.length c] 27)
  have HB := fun (W : World) (x : Ext (w.alloc (.cells #[.int .i64 t.k, .int .i64 t.n, .string t.s, .slice A t.l.length c] 27)) W) => (show Hid (W.cell? ⟨w.heap.size, 0, none⟩ = some (.int .i64 t.k) ∧ W.cell? ⟨w.heap.size, 1, none⟩ = some (.int .i64 t.n) ∧ W.cell? ⟨w.heap.size, 2, none⟩ = some (.string t.s) ∧ W.cell? ⟨w.heap.size, 3, none⟩ = some (.slice A t.l.length c)) from Lib.hid ⟨new_cell x 0, new_cell x 1, new_cell x 2, new_cell x 3⟩)
  have HC := Lib.hid (refCheck_any t A c _ D (ht.ext hx) (by omega))
  by_cases hc : chkT t = 0
  · have hok := (mayT_iff.1 (show mayT t = true by unfold mayT; simp [hc])).1
    have HT := fun (W : World) (x : Ext w W) => Lib.hid ((rtx_all (szT t)).no (Nat.le_refl _) hok hsz (o := o) (p := p) 1200 (w := W) (hR.ext x) (ht.ext x) (by omega) (by omega))
    have HL := fun W => Lib.hid (refLong_any (txT o t 1200) W)
    rw [(wrt_nil hc).1, (wrt_nil hc).2]
    rw [hc] at HC
    unfold tmVal at HC ⊢
    generalize txtS (txT o t 1200) = rs at *
    generalize txtE (txT o t 1200) = re at *
    generalize strB (txT o t 1200) = sx at *
    generalize t.k = k at *
    generalize t.n = n at *
    generalize t.s = s at *
    generalize t.l.length = m at *
    clear ht hok hc hR
    go_enter Tryz.func15, Tryz.ntmps15
    go_wp2_with (first | (go_at_call 29; refine HC.out.mono ?_; rintro e W1 ⟨rfl, h1⟩; have X1 := Lib.hid (hx.trans h1); obtain ⟨y0, y1, y2, y3⟩ := (HB _ h1).out; clear h1) | (go_at_call 32; refine (HT _ X1.out).out.mono ?_; rintro e W2 ⟨rfl, h2⟩; have X2 := Lib.hid (X1.out.trans h2); clear h2) | (go_at_call 34; refine (HL _).out.mono ?_; rintro e w' ⟨rfl, rfl⟩))
    go_ret2
    exact ⟨rfl, X2.out⟩
  · rw [(wrt_bad hc).1, (wrt_bad hc).2]
    have q1 : (chkT t == 0) = false := by simpa using hc
    have q2 : (chkT t != 0) = true := by simpa using hc
    unfold tmVal at HC ⊢
    generalize chkT t = r at *
    clear ht hc hR
    go_enter Tryz.func15, Tryz.ntmps15
    go_wp2_with (go_at_call 29; refine HC.out.mono ?_; rintro e W1 ⟨rfl, h1⟩; have X1 := Lib.hid (hx.trans h1); clear h1)
    go_ret2
    exact ⟨rfl, X1.out⟩

set_option maxRecDepth 100000 in
set_option maxHeartbeats 2000000 in
theorem refClause_any (t : Tm) (A : Option Addr) (c : Nat) (w : World) (D : Nat → Prop) (o : OpsV) (p : Option Addr) (hR : RfAt w o p) (ht : TmIn D w t A c) (hsz : szT t ≤ 100000) :
    Calls Tryz.prog 17 #[tmVal t A c, .pointer p] w fun e w' => e = .returned (.tuple #[.string (wrtS o t [32, 46, 10]), .int .i64 (wrtE o t [32, 46, 10])]) ∧ Ext w w' := by
  have hx := ext_box w (.cells #[.int .i64 t.k, .int .i64 t.n, .string t.s, .slice A t.l.length c] 27)
  have HT := Lib.hid (refTextOps_any t A c _ D o p (hR.ext hx) (ht.ext hx) hsz)
  by_cases hc : chkT t = 0
  · have hE := wrt_nil (o := o) hc
    have hS : wrtS o t [32, 46, 10] = txtS (txT o t 1200 ++ [32, 46, 10]) ∧ wrtE o t [32, 46, 10] = txtE (txT o t 1200 ++ [32, 46, 10]) := by
      unfold wrtS wrtE
      rw [if_pos hc, if_pos hc]
      exact ⟨rfl, rfl⟩
    rw [hE.1, hE.2] at HT
    rw [hS.1, hS.2]
    by_cases hl : 65536 < (txT o t 1200).length
    · rw [show txtS (txT o t 1200) = ⟨#[]⟩ from if_pos hl, show txtE (txT o t 1200) = 3 from if_pos hl] at HT
      have hl2 : 65536 < (txT o t 1200 ++ [32, 46, 10]).length := by rw [List.length_append]; omega
      rw [show txtS (txT o t 1200 ++ [32, 46, 10]) = ⟨#[]⟩ from if_pos hl2, show txtE (txT o t 1200 ++ [32, 46, 10]) = 3 from if_pos hl2]
      unfold tmVal at HT ⊢
      clear ht hR hE hS hl hl2 hc
      go_enter Tryz.func17, Tryz.ntmps17
      go_wp2_with (go_at_call 15; refine HT.out.mono ?_; rintro e W1 ⟨rfl, h1⟩; have X1 := Lib.hid (hx.trans h1); clear h1)
      go_ret2
      exact ⟨rfl, X1.out⟩
    · rw [show txtS (txT o t 1200) = strB (txT o t 1200) from if_neg hl, show txtE (txT o t 1200) = 0 from if_neg hl] at HT
      have hz := strB_size (txT o t 1200)
      have hap : strB (txT o t 1200) ++ (⟨#[32, 46, 10]⟩ : ByteArray) = strB (txT o t 1200 ++ [32, 46, 10]) := strB_app _ [32, 46, 10]
      have HL := fun W => Lib.hid (refLong_any (txT o t 1200 ++ [32, 46, 10]) W)
      rw [← hap] at HL
      unfold tmVal at HT ⊢
      generalize txtS (txT o t 1200 ++ [32, 46, 10]) = rs at *
      generalize txtE (txT o t 1200 ++ [32, 46, 10]) = re at *
      clear hap
      generalize strB (txT o t 1200) = sx at *
      have hb : ¬ 9223372036854775807 < (txT o t 1200).length + 3 := by omega
      generalize (txT o t 1200).length = L at *
      clear ht hR hE hS hc
      go_enter Tryz.func17, Tryz.ntmps17
      go_wp2_with (first | (go_at_call 15; refine HT.out.mono ?_; rintro e W1 ⟨rfl, h1⟩; have X1 := Lib.hid (hx.trans h1); clear h1) | (go_at_call 34; refine (HL _).out.mono ?_; rintro e w' ⟨rfl, rfl⟩))
      go_ret2
      exact ⟨rfl, X1.out⟩
  · rw [(wrt_bad hc).1, (wrt_bad hc).2] at HT ⊢
    have q1 : (chkT t == 0) = false := by simpa using hc
    have q2 : (chkT t != 0) = true := by simpa using hc
    unfold tmVal at HT ⊢
    generalize chkT t = r at *
    clear ht hc hR
    go_enter Tryz.func17, Tryz.ntmps17
    go_wp2_with (go_at_call 15; refine HT.out.mono ?_; rintro e W1 ⟨rfl, h1⟩; have X1 := Lib.hid (hx.trans h1); clear h1)
    go_ret2
    exact ⟨rfl, X1.out⟩

end Go.Proofs.YtnedihbffiddpaaGreatDoor
