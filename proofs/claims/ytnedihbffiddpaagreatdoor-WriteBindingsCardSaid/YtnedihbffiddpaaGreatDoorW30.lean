/- Layer 11, the program: the walks of done, written, Canon, Text, Clause. -/
import Derived.Test.YtnedihbffiddpaaGreatDoorW27
import Derived.Test.YtnedihbffiddpaaGreatDoorW28
namespace Go.El

theorem itoa_ne (n : Int) : Lib.itoa n ≠ [] := by
  obtain ⟨c, r, e, _⟩ := itoa_cls n
  simp [e]
theorem quo_ne (s : List UInt8) : quoF s ≠ [] := by
  obtain ⟨c, r, e, _⟩ := quo_cases s
  simp [e]
theorem brk_ne {b : Bool} {x : List UInt8} (h : x ≠ []) : brk b x ≠ [] := by
  unfold brk
  split
  · simp
  · exact h
theorem mid_ne (s : ByteArray) : midF s ≠ [] := by
  unfold midF
  split <;> simp
theorem operF_ne {I Q : List OpV} {k : Int} {s : ByteArray} {l : List Tm} {most : Int} {a0 a1 : Int → List UInt8} {x : List UInt8} (h : operF I Q k s l most a0 a1 = some x) : x ≠ [] := by
  unfold operF at h
  split at h
  · injection h with h
    subst h
    simp
  · split at h
    · cases h
    · split at h
      · injection h with h
        subst h
        exact brk_ne (by simp [mid_ne])
      · injection h with h
        subst h
        exact brk_ne (by simp)
theorem txT_ne (o : OpsV) (t : Tm) (m : Int) : txT o t m ≠ [] := by
  cases t with
  | mk k n s l =>
    simp only [txT]
    split
    · simp
    · unfold hdF
      split
      · simp
      · split
        · exact itoa_ne n
        · split
          · exact quo_ne _
          · split
            · rename_i x hx
              cases o with
              | none => cases hx
              | some q => exact operF_ne hx
            · simp

end Go.El
namespace Go.Proofs.YtnedihbffiddpaaGreatDoor
open Go.RowKit Go.El

/-- Operators that are there. -/
def OpsAt (w : World) : OpsV → Value → Prop
  | none, op => op = .pointer none
  | some (I, Q), op => ∃ tb m1 m2, op = .pointer (some ⟨tb, 0, none⟩) ∧ TabAt w tb m1 m2 I Q ∧ (∀ p : OpV, p ∈ I ∨ p ∈ Q → -1000000 ≤ p.p ∧ p.p ≤ 1000000)
theorem OpsAt.ext {w w' : World} {o : OpsV} {op : Value} (h : OpsAt w o op) (x : Ext w w') : OpsAt w' o op := by
  cases o with
  | none => exact h
  | some q =>
    obtain ⟨I, Q⟩ := q
    obtain ⟨tb, m1, m2, e, ht, hp⟩ := h
    exact ⟨tb, m1, m2, e, ht.ext x, hp⟩
theorem new_clr0 {w V : World} {b k : Nat} (hV : w.heap.size ≤ V.heap.size) (hb : w.heap.size ≤ b) (hk : k < w.heap.size) : Clr V b (.slice none 0 0) k := ⟨by omega, by simp [Value.ownBlock], by omega⟩
theorem OpsAt.inn {w V : World} {o : OpsV} {op : Value} (h : OpsAt w o op) (x : Ext w V) {b : Nat} (hb : w.heap.size ≤ b) : OpsIn V b (.slice none 0 0) o op := by
  cases o with
  | none => exact h
  | some q =>
    obtain ⟨I, Q⟩ := q
    obtain ⟨tb, m1, m2, e, ht, hp⟩ := h
    exact ⟨tb, m1, m2, e, ht.ext x, new_clr0 x.size hb (cell_lt ht.c0), new_clr0 x.size hb ht.mi.lt, new_clr0 x.size hb ht.mq.lt, hp⟩
theorem var_lt {w : World} {n : String} {g : Nat} (hg : Tryz.prog.globalNamed n = some g) {cs : Array Value} (h : w.var? Tryz.prog n = some cs) : g < w.heap.size := by
  unfold World.var? at h
  simp only [hg, Option.bind_some] at h
  rcases Nat.lt_or_ge g w.heap.size with h' | h'
  · exact h'
  · simp [Array.getElem?_eq_none h'] at h
theorem Env.inn {w V : World} (he : Env w) (x : Ext w V) {b : Nat} (hb : w.heap.size ≤ b) : EnvIn V b (.slice none 0 0) :=
  ⟨he.ext x, new_clr0 x.size hb (cell_lt he.tz), new_clr0 x.size hb (var_lt pwNamed he.pw), new_clr0 x.size hb (cell_lt he.ty.h0)⟩
/-- A new writer. -/
theorem new_wr {w V : World} {o : OpsV} {op : Value} (h : OpsAt w o op) (x : Ext w V) {b : Nat} (hb : w.heap.size ≤ b) (hB : Blk V b 55 #[.pointer none, .slice none 0 0, op]) : WrSt w.heap.size V b (.slice none 0 0) [] o op :=
  ⟨⟨.pointer none, .inl rfl, hB, World.ownsRow_nil _ _ _ _, fun k hk => by simp [Value.ownBlock] at hk⟩, h.inn x hb, x.size, Nat.zero_le _⟩
theorem new_tm {w V : World} {D : Nat → Prop} {t : Tm} {A : Option Addr} {c : Nat} (h : TmIn D w t A c) (x : Ext w V) {b : Nat} (hb : w.heap.size ≤ b) : TmIn (Clr V b (.slice none 0 0)) V t A c :=
  (h.lt.ext x).mono (fun _ hk => new_clr0 x.size hb hk)

/-- What stands for a text that was written: it, and what is wrong with it. -/
def txtS (X : List UInt8) : ByteArray := if 65536 < X.length then ⟨#[]⟩ else strB X
def txtE (X : List UInt8) : Int := if 65536 < X.length then 3 else 0

set_option maxRecDepth 100000 in
theorem done_any {base : Nat} {w : World} {b : Nat} {v : Value} {F : List UInt8} {o : OpsV} {op : Value} (h : WrSt base w b v F o op) (h0 : F ≠ []) :
    Calls Tryz.prog 28 #[.pointer (some ⟨b, 0, none⟩)] w fun e w' => e = .returned (.tuple #[.string (txtS F), .int .i64 (txtE F)]) ∧ Below base w w' := by
  obtain ⟨⟨p, hb⟩, _, _, hm⟩ := h
  have HL := Lib.hid ((bldLen_any _ _ _ _ _ _ _ _ hb).mono (R' := fun e w' => e = .returned (.int .i64 F.length) ∧ w = w') (fun _ _ h => ⟨h.1, h.2.symm⟩))
  have HT := Lib.hid (bldText_any _ _ _ _ _ _ _ _ hb h0)
  clear hb h0 hm
  by_cases hl : 65536 < F.length
  · rw [show txtS F = ⟨#[]⟩ from if_pos hl, show txtE F = 3 from if_pos hl]
    have hq : (65536 : Int) < (F.length : Int) := by omega
    clear HT
    go_enter Tryz.func28, Tryz.ntmps28
    go_wp2_with (go_at_call 24; refine HL.out.mono ?_; rintro e w' ⟨rfl, rfl⟩)
    go_ret2
    exact ⟨rfl, Below.refl _ _⟩
  · rw [show txtS F = strB F from if_neg hl, show txtE F = 0 from if_neg hl]
    have hq : ¬ (65536 : Int) < (F.length : Int) := by omega
    go_enter Tryz.func28, Tryz.ntmps28
    go_wp2_with (first | (go_at_call 24; refine HL.out.mono ?_; rintro e w' ⟨rfl, rfl⟩) | (go_at_call 50; refine HT.out.mono ?_; rintro e w2 ⟨rfl, hx⟩; have HX := Lib.hid hx; clear hx))
    go_ret2
    exact ⟨rfl, HX.out⟩

/-- What written answers. -/
def wrtS (o : OpsV) (t : Tm) (X : List UInt8) : ByteArray := if chkT t = 0 then txtS (txT o t 1200 ++ X) else ⟨#[]⟩
def wrtE (o : OpsV) (t : Tm) (X : List UInt8) : Int := if chkT t = 0 then txtE (txT o t 1200 ++ X) else chkT t

set_option maxRecDepth 100000 in
set_option maxHeartbeats 4000000 in
theorem written_any (t : Tm) (A : Option Addr) (c : Nat) (w : World) (D : Nat → Prop) (o : OpsV) (op : Option Addr) (X : ByteArray) (ht : TmIn D w t A c) (he : Env w) (ho : OpsAt w o (.pointer op)) (hsz : szT t ≤ 1000000000) (hX : X.size ≤ 100) :
    Calls Tryz.prog 38 #[tmVal t A c, .pointer op, .string X] w fun e w' => e = .returned (.tuple #[.string (wrtS o t X.data.toList), .int .i64 (wrtE o t X.data.toList)]) ∧ Ext w w' := by
  have hx := ext_box w (.cells #[.int .i64 t.k, .int .i64 t.n, .string t.s, .slice A t.l.length c] 27)
  have HC := Lib.hid (check_any t A c _ D (ht.ext hx) hsz)
  by_cases hc : chkT t = 0
  · have hm : mayT t = true := by unfold mayT; simp [hc]
    rw [show wrtS o t X.data.toList = txtS (txT o t 1200 ++ X.data.toList) from if_pos hc, show wrtE o t X.data.toList = txtE (txT o t 1200 ++ X.data.toList) from if_pos hc]
    rw [hc] at HC
    obtain ⟨hok, _, hs2⟩ := mayT_iff.1 hm
    have hne := txT_ne o t 1200
    have hle := txT_le o t 1200 hok
    have HS := fun (V : World) (b : Nat) (x : Ext w V) (hb : w.heap.size ≤ b) (hB : Blk V b 55 #[.pointer none, .slice none 0 0, .pointer op]) => Lib.hid (term_all (szT t) t (Nat.le_refl _) hm w.heap.size V b (.slice none 0 0) [] o (.pointer op) 1200 A c (new_wr ho x hb hB) (he.inn x hb) (new_tm ht x hb) (by simp; omega) (by omega) (by omega))
    have HB1 := fun (W : World) (x : Ext (w.alloc (.cells #[.int .i64 t.k, .int .i64 t.n, .string t.s, .slice A t.l.length c] 27)) W) => Lib.hid (Blk.ext (Blk.new w 27 #[.int .i64 t.k, .int .i64 t.n, .string t.s, .slice A t.l.length c]) x)
    have HN := Lib.hid hne
    unfold tmVal at HS HC ⊢
    generalize txT o t 1200 = TX at *
    generalize t.k = k at *
    generalize t.n = n at *
    generalize t.s = s at *
    generalize t.l.length = m at *
    clear hc hm hok ht he ho hne
    go_enter Tryz.func38, Tryz.ntmps38
    go_upto_region 5 with (go_at_call 23; refine HC.out.mono ?_; rintro e W1 ⟨rfl, h1⟩; have HX1 := Lib.hid (hx.trans h1); have HB := HB1 _ h1; clear h1)
    refine wp_abs (fun V => Hid (Blk V W1.heap.size 55 #[.pointer none, .slice none 0 0, .pointer op]) ∧ Hid (Blk V w.heap.size 27 #[.int .i64 k, .int .i64 n, .string s, .slice A m c]) ∧ Hid (Ext w V)) ⟨Blk.new W1 _ _, HB.out.alloc _, HX1.out.alloc _⟩ ?_
    rintro V ⟨HW, HT, HV⟩
    have x0 : V.cell? ⟨w.heap.size, 0, none⟩ = some (.int .i64 k) := HT.out.cell 0
    have x1 : V.cell? ⟨w.heap.size, 1, none⟩ = some (.int .i64 n) := HT.out.cell 1
    have x2 : V.cell? ⟨w.heap.size, 2, none⟩ = some (.string s) := HT.out.cell 2
    have x3 : V.cell? ⟨w.heap.size, 3, none⟩ = some (.slice A m c) := HT.out.cell 3
    have hb : w.heap.size ≤ W1.heap.size := HX1.out.size
    have HG := HS V W1.heap.size HV.out hb HW.out
    clear HS HC HB1
    go_upto_region 6 with (go_at_call 26; refine HG.out.mono ?_; rintro e V2 ⟨rfl, v2, h2, s2⟩; have H2 := Lib.hid (show WrSt w.heap.size V2 W1.heap.size v2 TX o (.pointer op) from h2); have S2 := Lib.hid s2; clear h2 s2)
    go_upto_region 7 with (go_at_call 25; refine (wrString H2.out X (by omega)).mono ?_; rintro e V3 ⟨rfl, v3, h3, s3⟩; have H3 := Lib.hid h3; have S3 := Lib.hid (S2.out.trans s3); clear h3 s3)
    have HD := Lib.hid (done_any H3.out (by simp [HN.out]))
    go_wp2_with (go_at_call 28; refine HD.out.mono ?_; rintro e V4 ⟨rfl, h4⟩; have H4 := Lib.hid h4; clear h4)
    go_ret2
    refine ⟨rfl, Below.trans (ext_mods HV.out S3.out.mods (fun x hx => ?_)) H4.out⟩
    simp [ownL, Value.ownBlock] at hx
    omega
  · rw [show wrtS o t X.data.toList = ⟨#[]⟩ from if_neg hc, show wrtE o t X.data.toList = chkT t from if_neg hc]
    have q1 : (chkT t == 0) = false := by simpa using hc
    have q2 : (chkT t != 0) = true := by simpa using hc
    unfold tmVal at HC ⊢
    generalize chkT t = r at *
    clear ht hc
    go_enter Tryz.func38, Tryz.ntmps38
    go_wp2_with (go_at_call 23; refine HC.out.mono ?_; rintro e W1 ⟨rfl, h1⟩; have HX1 := Lib.hid (hx.trans h1); clear h1)
    go_ret2
    exact ⟨rfl, HX1.out⟩

set_option maxRecDepth 100000 in
theorem canon_any (t : Tm) (A : Option Addr) (c : Nat) (w : World) (D : Nat → Prop) (ht : TmIn D w t A c) (he : Env w) (hsz : szT t ≤ 1000000000) :
    Calls Tryz.prog 12 #[tmVal t A c] w fun e w' => e = .returned (.tuple #[.string (wrtS none t []), .int .i64 (wrtE none t [])]) ∧ Ext w w' := by
  have hx := ext_box w (.cells #[.int .i64 t.k, .int .i64 t.n, .string t.s, .slice A t.l.length c] 27)
  have HC := Lib.hid (written_any t A c _ D none none ⟨#[]⟩ (ht.ext hx) (he.ext hx) rfl hsz (by decide))
  unfold tmVal at HC ⊢
  clear ht he
  go_enter Tryz.func12, Tryz.ntmps12
  go_wp2_with (go_at_call 38; refine HC.out.mono ?_; rintro e W1 ⟨rfl, h1⟩; have HX1 := Lib.hid (hx.trans h1); clear h1)
  go_ret2
  exact ⟨rfl, HX1.out⟩

set_option maxRecDepth 100000 in
theorem text_any (t : Tm) (A : Option Addr) (c : Nat) (w : World) (D : Nat → Prop) (I Q : List OpV) (tb : Nat) (ht : TmIn D w t A c) (he : Env w) (ho : OpsAt w (some (I, Q)) (.pointer (some ⟨tb, 0, none⟩))) (hsz : szT t ≤ 1000000000) :
    Calls Tryz.prog 14 #[tmVal t A c, .pointer (some ⟨tb, 0, none⟩)] w fun e w' => e = .returned (.tuple #[.string (wrtS (some (I, Q)) t []), .int .i64 (wrtE (some (I, Q)) t [])]) ∧ Ext w w' := by
  have hx := ext_box w (.cells #[.int .i64 t.k, .int .i64 t.n, .string t.s, .slice A t.l.length c] 27)
  have HC := Lib.hid (written_any t A c _ D (some (I, Q)) _ ⟨#[]⟩ (ht.ext hx) (he.ext hx) (ho.ext hx) hsz (by decide))
  unfold tmVal at HC ⊢
  clear ht he ho
  go_enter Tryz.func14, Tryz.ntmps14
  go_wp2_with (go_at_call 38; refine HC.out.mono ?_; rintro e W1 ⟨rfl, h1⟩; have HX1 := Lib.hid (hx.trans h1); clear h1)
  go_ret2
  exact ⟨rfl, HX1.out⟩

set_option maxRecDepth 100000 in
theorem text_nil (t : Tm) (A : Option Addr) (c : Nat) (w : World) :
    Calls Tryz.prog 14 #[tmVal t A c, .pointer none] w fun e w' => e = .returned (.tuple #[.string ⟨#[]⟩, .int .i64 1]) ∧ Ext w w' := by
  unfold tmVal
  go_enter Tryz.func14, Tryz.ntmps14
  go_wp2_with fail
  go_ret2
  exact ⟨rfl, ext_box _ _⟩

set_option maxRecDepth 100000 in
theorem clause_any (t : Tm) (A : Option Addr) (c : Nat) (w : World) (D : Nat → Prop) (I Q : List OpV) (tb : Nat) (ht : TmIn D w t A c) (he : Env w) (ho : OpsAt w (some (I, Q)) (.pointer (some ⟨tb, 0, none⟩))) (hsz : szT t ≤ 1000000000) :
    Calls Tryz.prog 16 #[tmVal t A c, .pointer (some ⟨tb, 0, none⟩)] w fun e w' => e = .returned (.tuple #[.string (wrtS (some (I, Q)) t [32, 46, 10]), .int .i64 (wrtE (some (I, Q)) t [32, 46, 10])]) ∧ Ext w w' := by
  have hx := ext_box w (.cells #[.int .i64 t.k, .int .i64 t.n, .string t.s, .slice A t.l.length c] 27)
  have HC := Lib.hid (written_any t A c _ D (some (I, Q)) _ ⟨#[32, 46, 10]⟩ (ht.ext hx) (he.ext hx) (ho.ext hx) hsz (by decide))
  unfold tmVal at HC ⊢
  clear ht he ho
  go_enter Tryz.func16, Tryz.ntmps16
  go_wp2_with (go_at_call 38; refine HC.out.mono ?_; rintro e W1 ⟨rfl, h1⟩; have HX1 := Lib.hid (hx.trans h1); clear h1)
  go_ret2
  exact ⟨rfl, HX1.out⟩

end Go.Proofs.YtnedihbffiddpaaGreatDoor
