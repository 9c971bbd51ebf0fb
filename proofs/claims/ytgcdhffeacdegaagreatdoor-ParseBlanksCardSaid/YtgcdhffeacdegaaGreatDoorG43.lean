/- Layer 6, the reference: the walk of Exact. -/
import Derived.Test.YtgcdhffeacdegaaGreatDoorG17
import Derived.Test.YtgcdhffeacdegaaGreatDoorG19
import Derived.Test.YtgcdhffeacdegaaGreatDoorG42
import Derived.Test.YtgcdhffeacdegaaGreatDoorG20
namespace Go.El
theorem exL_take : ∀ {l l' : List Tm} {j : Nat} {u u' : Tm}, l[j]? = some u → l'[j]? = some u' → exL (l.take (j + 1)) (l'.take (j + 1)) = (exL (l.take j) (l'.take j) && exT u u')
  | [], l', j, u, u', h, _ => by simp at h
  | a :: r, [], j, u, u', _, h => by simp at h
  | a :: r, b :: r', 0, u, u', h, h' => by
    simp at h h'
    subst h h'
    simp [exL]
  | a :: r, b :: r', j + 1, u, u', h, h' => by
    have := exL_take (l := r) (l' := r') (j := j) (u := u) (u' := u') (by simpa using h) (by simpa using h')
    simp only [List.take_succ_cons, exL]
    rw [this, Bool.and_assoc]
theorem exL_no : ∀ {l l' : List Tm} {j : Nat} {u u' : Tm}, l[j]? = some u → l'[j]? = some u' → exT u u' = false → exL l l' = false
  | [], l', j, u, u', h, _, _ => by simp at h
  | a :: r, [], j, u, u', _, h, _ => by simp at h
  | a :: r, b :: r', 0, u, u', h, h', he => by
    simp at h h'
    subst h h'
    simp [exL, he]
  | a :: r, b :: r', j + 1, u, u', h, h', he => by
    have := exL_no (l := r) (l' := r') (j := j) (by simpa using h) (by simpa using h') he
    simp [exL, this]
end Go.El
namespace Go.Proofs.YtgcdhffeacdegaaGreatDoor
open Go.RowKit Go.El

theorem sne {s s' : ByteArray} (h : s ≠ s') : (s.toList == s'.toList) = false ∧ (s.toList != s'.toList) = true := by
  have : s.toList ≠ s'.toList := fun e => h (by
    rw [ByteArray.toList_eq, ByteArray.toList_eq] at e
    exact bytes_ext e)
  exact ⟨by simpa using this, by simpa using this⟩

set_option maxRecDepth 100000 in
set_option maxHeartbeats 8000000 in
theorem exact_any : ∀ (N : Nat) (a b : Tm), szT a ≤ N → szT a ≤ 1000000000 → ∀ (A B : Option Addr) (c d : Nat) (w : World) (D E : Nat → Prop), TmIn D w a A c → TmIn E w b B d →
    Calls Tryz.prog 22 #[tmVal a A c, tmVal b B d] w fun e w' => e = .returned (.bool (exT a b)) ∧ Ext w w'
  | 0, a, _, h => by
    have := szT_pos a
    omega
  | N + 1, .mk k n s l, .mk k' n' s' l', hN => by
    intro hbig A B c d w D E ha hb
    have IH := exact_any N
    simp only [szT] at hN hbig
    have hlen := len_szL l
    have HA := Lib.hid ha
    have HB := Lib.hid hb
    unfold tmVal
    simp only [Tm.k, Tm.n, Tm.s, Tm.l]
    have hex : exT (.mk k n s l) (.mk k' n' s' l') = (decide (k = k' ∧ n = n' ∧ s = s' ∧ l.length = l'.length) && exL l l') := by simp only [exT]
    rw [hex]
    clear hex ha hb
    by_cases hk : k = k'
    · subst hk
      by_cases hn : n = n'
      · subst hn
        by_cases hs : s = s'
        · subst hs
          by_cases hl : l.length = l'.length
          · rw [show decide (k = k ∧ n = n ∧ s = s ∧ l.length = l'.length) = true from decide_eq_true ⟨rfl, rfl, rfl, hl⟩, Bool.true_and]
            have HLE := Lib.hid hl
            rw [← hl]
            clear hl
            generalize hX : exL l l' = X
            have HX := Lib.hid hX
            clear hX
            go_enter Tryz.func22, Tryz.ntmps22
            go_upto_region 4 with fail
            refine wp_abs (fun V => Hid (Blk V (w.heap.size + 1) 32 #[.int .i64 k, .int .i64 n, .string s, .slice B l.length d]) ∧ Hid (Blk V w.heap.size 32 #[.int .i64 k, .int .i64 n, .string s, .slice A l.length c]) ∧ Hid (Ext w V)) ⟨blk2b, (Blk.new w _ _).alloc _, ((Ext.refl w).alloc _).alloc _⟩ ?_
            rintro V ⟨HB0, HA0, HX0⟩
            go_loopw [5] (fun i wr => ∃ j : Nat, j ≤ l.length ∧ i = .int .i64 j ∧ Hid (exL (l.take j) (l'.take j) = true) ∧ Hid (Ext V wr)) (fun i _ => l.length - (intOf i).toNat)
            case atStart => exact ⟨0, Nat.zero_le _, rfl, Lib.hid (by simp [exL]), Lib.hid (Ext.refl _)⟩
            case round =>
              obtain ⟨j, hj, rfl, HE, HV⟩ := hrel
              have z3 : wr.cell? ⟨w.heap.size, 3, none⟩ = some (.slice A l.length c) := (HA0.out.ext HV.out).cell 3
              have z4 : wr.cell? ⟨w.heap.size + 1, 3, none⟩ = some (.slice B l.length d) := (HB0.out.ext HV.out).cell 3
              by_cases hlt : j < l.length
              · have hlt' : j < l'.length := by rw [← HLE.out]; exact hlt
                have ho : l[j]? = some l[j] := List.getElem?_eq_getElem hlt
                have ho' : l'[j]? = some l'[j] := List.getElem?_eq_getElem hlt'
                have hsu := szL_get ho
                have HTK := Lib.hid (exL_take ho ho')
                have HNO := Lib.hid (fun h => exL_no ho ho' h)
                generalize l[j] = u at *
                generalize l'[j] = u' at *
                obtain ⟨ba, oa, A', c', rfl, _, hu, p0, p1, p2, p3⟩ := (HA.out.ext (HX0.out.trans HV.out)).child (j := j) ho
                obtain ⟨bb, ob, B', d', rfl, _, hu', q0, q1, q2, q3⟩ := (HB.out.ext (HX0.out.trans HV.out)).child (j := j) ho'
                have HC := fun (W : World) (x : Ext wr W) => Lib.hid (IH u u' (by omega) (by omega) A' B' c' d' W D E (hu.ext x) (hu'.ext x))
                unfold tmVal at HC
                clear ho ho' hu hu'
                cases he : exT u u'
                · rw [he] at HC
                  have HNO2 := Lib.hid (HNO.out he)
                  clear he HNO HTK
                  go_upto_region 6 with fail
                  go_region_law ((go_simp; go_at_call 22; refine (HC _ ((Ext.refl wr).drew)).out.mono ?_; rintro e W1 ⟨rfl, h1⟩; have H1 := Lib.hid (((HX0.out.trans HV.out).drew).trans h1); clear h1))
                  all_goals
                    go_wp2_with fail
                    go_ret
                    exact ⟨ret_boolP (by rw [← HX.out, HNO2.out]), H1.out⟩
                · rw [he] at HC
                  have HEU := Lib.hid he
                  clear he HNO
                  go_upto_region 6 with fail
                  go_region_law ((go_simp; go_at_call 22; refine (HC _ ((Ext.refl wr).drew)).out.mono ?_; rintro e W1 ⟨rfl, h1⟩; have H1 := Lib.hid ((HV.out.drew).trans h1); clear h1))
                  all_goals
                    go_wp2_with fail
                    go_roundw
                    case rel => exact ⟨j + 1, hlt, by go_num, Lib.hid (by rw [HTK.out, HE.out, HEU.out]; rfl), H1⟩
                    case measure => simp [intOf]; omega
              · obtain rfl : j = l.length := by omega
                rw [List.take_length, HLE.out, List.take_length] at HE
                go_wp2_with fail
                go_ret
                exact ⟨ret_boolP (by rw [← HX.out, HE.out]), HX0.out.trans HV.out⟩
          · rw [show decide (k = k ∧ n = n ∧ s = s ∧ l.length = l'.length) = false from decide_eq_false (fun h => hl h.2.2.2), Bool.false_and]
            have hl2 : ¬ (l.length : Int) = (l'.length : Int) := by omega
            have q1 : ((l.length : Int) == (l'.length : Int)) = false := by simpa using hl2
            have q2 : ((l.length : Int) != (l'.length : Int)) = true := by simpa using hl2
            clear hl hl2
            go_enter Tryz.func22, Tryz.ntmps22
            go_wp2_with fail
            go_ret
            exact ⟨rfl, ((Ext.refl w).alloc _).alloc _⟩
        · rw [show decide (k = k ∧ n = n ∧ s = s' ∧ l.length = l'.length) = false from decide_eq_false (fun h => hs h.2.2.1), Bool.false_and]
          obtain ⟨q1, q2⟩ := sne hs
          clear hs
          go_enter Tryz.func22, Tryz.ntmps22
          go_wp2_with fail
          go_ret
          exact ⟨rfl, ((Ext.refl w).alloc _).alloc _⟩
      · rw [show decide (k = k ∧ n = n' ∧ s = s' ∧ l.length = l'.length) = false from decide_eq_false (fun h => hn h.2.1), Bool.false_and]
        have q1 : (n == n') = false := by simpa using hn
        have q2 : (n != n') = true := by simpa using hn
        clear hn
        go_enter Tryz.func22, Tryz.ntmps22
        go_wp2_with fail
        go_ret
        exact ⟨rfl, ((Ext.refl w).alloc _).alloc _⟩
    · rw [show decide (k = k' ∧ n = n' ∧ s = s' ∧ l.length = l'.length) = false from decide_eq_false (fun h => hk h.1), Bool.false_and]
      have q1 : (k == k') = false := by simpa using hk
      have q2 : (k != k') = true := by simpa using hk
      clear hk
      go_enter Tryz.func22, Tryz.ntmps22
      go_wp2_with fail
      go_ret
      exact ⟨rfl, ((Ext.refl w).alloc _).alloc _⟩

end Go.Proofs.YtgcdhffeacdegaaGreatDoor

/- Law 10: lives holds. -/
namespace Go.El
open Go.RowKit Go.Proofs.YtgcdhffeacdegaaGreatDoor
def P0 : Ops := ⟨fun s => findO s initI, fun s => findO s initQ⟩
def lw1 : List UInt8 := [97, 40, 88, 44, 32, 88, 41, 32, 58, 45, 32, 45, 32, 49, 44, 32, 98, 46, 32, 99, 46]
def lw2 : List UInt8 := [97, 46, 32, 91, 49, 124, 84, 93, 46, 32]
def lw3 : List UInt8 := [97, 32, 98, 46]
def lw4 : List UInt8 := [120, 46, 32, 121]
def t1W : Tm := .mk 4 0 ⟨#[97]⟩ [.mk 1 0 ⟨#[]⟩ [], .mk 1 0 ⟨#[]⟩ []]
def t2W : Tm := .mk 4 0 ⟨#[45]⟩ [.mk 2 1 ⟨#[]⟩ []]
def t3W : Tm := .mk 4 0 ⟨#[44]⟩ [t2W, .mk 3 0 ⟨#[98]⟩ []]
def lwT : Tm := .mk 4 0 ⟨#[58, 45]⟩ [t1W, t3W]
theorem lw_1 : clauseS P0 lw1 0 = (⟨lwT, [⟨#[88]⟩], 18⟩, 18, 0) := by kernel_rfl
theorem lw_2 : (allR P0 lw2).1.length = 2 ∧ (allR P0 lw2).2 = (10, 0) := by decide +kernel
theorem lw_3 : (clauseS P0 lw3 0).2 = (2, 100) := by decide +kernel
theorem lw_4 : (oneR P0 (lw4 ++ [32, 46])).2 = 100 := by decide +kernel
theorem lw_e : exT lwT lwT = true := by decide +kernel
theorem lw_z : szT lwT ≤ 1000000000 := by decide +kernel
end Go.El
namespace Go.Proofs.YtgcdhffeacdegaaGreatDoor
open Go.RowKit Go.El

theorem lit_convP (W : World) (l : List UInt8) : (convert 23 23 (.slice (some ⟨W.heap.size, 0, none⟩) l.length l.length)).run Tryz.prog (W.alloc (.cells (l.map u8V).toArray 5)) = .ok (.slice (some ⟨W.heap.size, 0, none⟩) l.length l.length) (W.alloc (.cells (l.map u8V).toArray 5 (l.length, l.length + 1))) := by
  have := Joins.run_convert_bytes_const_at (P := Tryz.prog) W 23 5 (l.map u8V).toArray l.length l.length W.heap.size rfl Tryz.underlying23 Tryz.underlying5
  rw [show (l.map u8V).toArray.size = l.length from by simp] at this
  exact this
theorem lit_clause (W : World) (g : Glob W) {tb : Nat} (ho : OpsOk W tb initI initQ) (l : List UInt8) (hl : l.length ≤ 1000) : Calls Tryz.prog 14 #[.slice (some ⟨W.heap.size, 0, none⟩) l.length l.length, .int .i64 0, .pointer (some ⟨tb, 0, none⟩)] (W.alloc (.cells (l.map u8V).toArray 5 (l.length, l.length + 1))) (ClPost (W.alloc (.cells (l.map u8V).toArray 5 (l.length, l.length + 1))) (clauseS P0 l 0)) :=
  pClause_any (i := 0) (src_mark W l _) (Nat.zero_le _) (by omega) (Nat.le_refl _) (g.ext (ext_mark W _ _ _)) (ho.ext (ext_mark W _ _ _))
theorem lit_allC (W : World) (g : Glob W) {tb : Nat} (ho : OpsOk W tb initI initQ) (l : List UInt8) (hl : l.length ≤ 1000) : Calls Tryz.prog 17 #[.slice (some ⟨W.heap.size, 0, none⟩) l.length l.length, .pointer (some ⟨tb, 0, none⟩)] (W.alloc (.cells (l.map u8V).toArray 5 (l.length, l.length + 1))) (AllPost (W.alloc (.cells (l.map u8V).toArray 5 (l.length, l.length + 1))) (allR P0 l)) :=
  pAllR (src_mark W l _) (by omega) (Nat.le_refl _) (g.ext (ext_mark W _ _ _)) (ho.ext (ext_mark W _ _ _))

/-- What is kept of the first clause. -/
structure LwK (w V : World) (g2 : Nat) (A : Option Addr) (c : Nat) (n : Option Addr) (m : Nat) : Prop where
  ext : Ext w V
  blk : Blk V g2 35 #[.int .i64 4, .int .i64 0, .string ⟨#[58, 45]⟩, .slice A 2 c, .slice n 1 m, .int .i64 18]
  tm : TmIn (fun k => k < V.heap.size) V lwT A c
  ns : El.Src V n 1 1 [.string ⟨#[88]⟩]
theorem LwK.go {w V U : World} {g2 : Nat} {A n : Option Addr} {c m : Nat} (h : LwK w V g2 A c n m) (x : Ext V U) : LwK w U g2 A c n m :=
  ⟨h.ext.trans x, h.blk.ext x, (h.tm.ext x).mono (fun _ hk => Nat.lt_of_lt_of_le hk x.size), h.ns.ext x⟩
theorem tl_ext {V U : World} {t : Tm} {A : Option Addr} {c : Nat} (h : TmIn (fun k => k < V.heap.size) V t A c) (x : Ext V U) : TmIn (fun k => k < U.heap.size) U t A c := (h.ext x).mono (fun _ hk => Nat.lt_of_lt_of_le hk x.size)
theorem tl_leaf (V : World) (k : Int) (n : Int) (s : ByteArray) : TmIn (fun k => k < V.heap.size) V (.mk k n s []) none 0 := TmsIn.term (TmsIn.nil _ _ _ _) k n s
/-- .. and of the term that is wanted. -/
structure LwT (V : World) (g5 : Nat) (A : Option Addr) (c : Nat) : Prop where
  blk : Blk V g5 32 #[.int .i64 4, .int .i64 0, .string ⟨#[58, 45]⟩, .slice A 2 c]
  tm : TmIn (fun k => k < V.heap.size) V lwT A c
theorem LwT.go {V U : World} {g5 : Nat} {A : Option Addr} {c : Nat} (h : LwT V g5 A c) (x : Ext V U) : LwT U g5 A c :=
  ⟨h.blk.ext x, (h.tm.ext x).mono (fun _ hk => Nat.lt_of_lt_of_le hk x.size)⟩
/-- A comp of a literal row. -/
theorem lwComp (W : World) (s : ByteArray) (M : List TmP) (cs : Array Value) (hcs : cs = (flat tmC M).toArray) (hk : ∀ p ∈ M, TmIn (fun k => k < W.heap.size) W p.1 p.2.1 p.2.2) (hn : M ≠ []) (hl : M.length ≤ 1000) :
    Calls Tryz.prog 33 #[.string s, .slice (some ⟨W.heap.size, 0, none⟩) M.length M.length] (W.alloc (.cells cs 32)) fun e w' => ∃ A' c', e = .returned (.agg #[.int .i64 4, .int .i64 0, .string s, .slice A' M.length c']) ∧ TmIn (fun k => k < w'.heap.size) w' (.mk 4 0 s (M.map (·.1))) A' c' ∧ Ext W w' := by
  subst hcs
  have hx := ext_box4 W (.cells (flat tmC M).toArray 32)
  have hlen : (flat tmC M).toArray.size = M.length * 4 := by
    have : ∀ L : List TmP, (flat tmC L).length = L.length * 4 := by
      intro L
      induction L with
      | nil => rfl
      | cons a l ih => simp only [flat, List.flatMap_cons, List.length_append, List.length_cons] at ih ⊢; rw [ih]; show 4 + _ = _; omega
    simpa using this M
  have hs := El.Src.new W (flat tmC M).toArray 32 M.length 4 hlen
  refine (refComp_any s M _ _ _ (fun k => k < (W.alloc (.cells (flat tmC M).toArray 32)).heap.size) hs (fun p hp => ((hk p hp).ext hx).mono (fun k h => Nat.lt_of_lt_of_le h hx.size)) hn hl (fun k h => h)).mono ?_
  rintro e w' ⟨A', c', rfl, ht, hx2⟩
  exact ⟨A', c', rfl, ht.mono (fun k h => by rcases h with h | h; exact Nat.lt_of_lt_of_le h hx2.size; exact h.2), hx.trans hx2⟩

set_option maxRecDepth 100000 in
set_option maxHeartbeats 8000000 in
theorem lives10_any (w : World) (g : Glob w) (hT : TypesAt 0 w) : Calls Tryz.prog 12 #[] w fun e w' => e = .returned (.bool true) ∧ Ext w w' := by
  have HG := Lib.hid g
  have HT := Lib.hid hT
  clear g hT
  go_enter Tryz.func12, Tryz.ntmps12
  go_upto_region 4 with (go_at_call 32; refine (twNews _).mono ?_; rintro e W1 ⟨tb, m1, m2, rfl, hn⟩; have HX := Lib.hid hn.out.2.2.2.2; have HO : Hid (OpsOk W1 tb initI initQ) := Lib.hid ⟨⟨m1, m2, hn.out.2.2.2.1⟩, bd_init, HT.out.ext hn.out.2.2.2.2⟩; clear hn)
  have hc1 : (convert 23 23 (.slice (some ⟨W1.heap.size, 0, none⟩) 21 21)).run Tryz.prog (W1.alloc (.cells #[.int .u8 97, .int .u8 40, .int .u8 88, .int .u8 44, .int .u8 32, .int .u8 88, .int .u8 41, .int .u8 32, .int .u8 58, .int .u8 45, .int .u8 32, .int .u8 45, .int .u8 32, .int .u8 49, .int .u8 44, .int .u8 32, .int .u8 98, .int .u8 46, .int .u8 32, .int .u8 99, .int .u8 46] 5)) = .ok (.slice (some ⟨W1.heap.size, 0, none⟩) 21 21) (W1.alloc (.cells #[.int .u8 97, .int .u8 40, .int .u8 88, .int .u8 44, .int .u8 32, .int .u8 88, .int .u8 41, .int .u8 32, .int .u8 58, .int .u8 45, .int .u8 32, .int .u8 45, .int .u8 32, .int .u8 49, .int .u8 44, .int .u8 32, .int .u8 98, .int .u8 46, .int .u8 32, .int .u8 99, .int .u8 46] 5 (21, 22))) := lit_convP W1 lw1
  have H1 : Hid (Calls Tryz.prog 14 #[.slice (some ⟨W1.heap.size, 0, none⟩) 21 21, .int .i64 0, .pointer (some ⟨tb, 0, none⟩)] (W1.alloc (.cells #[.int .u8 97, .int .u8 40, .int .u8 88, .int .u8 44, .int .u8 32, .int .u8 88, .int .u8 41, .int .u8 32, .int .u8 58, .int .u8 45, .int .u8 32, .int .u8 45, .int .u8 32, .int .u8 49, .int .u8 44, .int .u8 32, .int .u8 98, .int .u8 46, .int .u8 32, .int .u8 99, .int .u8 46] 5 (21, 22))) (fun e w' => ∃ A c n q, e = .returned (.tuple #[.agg #[.int .i64 4, .int .i64 0, .string ⟨#[58, 45]⟩, .slice A 2 c, .slice n 1 q, .int .i64 18], .int .i64 18, .int .i64 0]) ∧ TmIn (fun k => k < w'.heap.size) w' lwT A c ∧ El.Src w' n 1 1 [.string ⟨#[88]⟩] ∧ Ext W1 w')) := by
    have h := lit_clause W1 (HG.out.ext HX.out) HO.out lw1 (by decide)
    rw [lw_1] at h
    refine Lib.hid (h.mono ?_)
    intro e w' hh
    obtain ⟨A, c, n, q, rfl, ⟨ht, hs, hq, hn⟩, hx⟩ := hh.two rfl
    exact ⟨A, c, n, q, rfl, ht.mono (fun _ hk => hk.2), hs, (ext_mark W1 _ _ _).trans hx⟩
  go_upto_region 5 with (go_at_call 14; refine H1.out.mono ?_; rintro e W2 ⟨A, c, n, q, rfl, ht, hs, hx⟩; have HT2 := Lib.hid ht; have HS2 := Lib.hid hs; have HX2 := Lib.hid hx; clear ht hs hx)
  refine wp_abs (fun V => LwK w V W2.heap.size A c n q ∧ OpsOk V tb initI initQ) ⟨⟨(HX.out.trans HX2.out).trans (ext_box4 _ _), Blk.new _ _ _, tl_ext HT2.out (ext_box4 _ _), HS2.out.ext (ext_box4 _ _)⟩, HO.out.ext (HX2.out.trans (ext_box4 _ _))⟩ ?_
  generalize W2.heap.size = g2 at *
  clear hc1 H1 HT2 HS2 HX2 HX HO
  rintro V1 ⟨hK, hO⟩
  have HK := Lib.hid hK
  have HO := Lib.hid hO
  clear hK hO
  have C1 : ∀ V : World, Hid (Calls Tryz.prog 33 #[.string ⟨#[97]⟩, .slice (some ⟨V.heap.size, 0, none⟩) 2 2] (V.alloc (.cells #[.int .i64 1, .int .i64 0, .string ⟨#[]⟩, .slice none 0 0, .int .i64 1, .int .i64 0, .string ⟨#[]⟩, .slice none 0 0] 32)) fun e w' => ∃ A' c', e = .returned (.agg #[.int .i64 4, .int .i64 0, .string ⟨#[97]⟩, .slice A' 2 c']) ∧ TmIn (fun k => k < w'.heap.size) w' t1W A' c' ∧ Ext V w') := fun V => Lib.hid (lwComp V ⟨#[97]⟩ [(.mk 1 0 ⟨#[]⟩ [], none, 0), (.mk 1 0 ⟨#[]⟩ [], none, 0)] _ rfl (fun p hp => by simp only [List.mem_cons, List.not_mem_nil, or_false] at hp; rcases hp with rfl | rfl <;> exact tl_leaf _ _ _ _) (by simp) (by simp))
  have C2 : ∀ V : World, Hid (Calls Tryz.prog 33 #[.string ⟨#[45]⟩, .slice (some ⟨V.heap.size, 0, none⟩) 1 1] (V.alloc (.cells #[.int .i64 2, .int .i64 1, .string ⟨#[]⟩, .slice none 0 0] 32)) fun e w' => ∃ A' c', e = .returned (.agg #[.int .i64 4, .int .i64 0, .string ⟨#[45]⟩, .slice A' 1 c']) ∧ TmIn (fun k => k < w'.heap.size) w' t2W A' c' ∧ Ext V w') := fun V => Lib.hid (lwComp V ⟨#[45]⟩ [(.mk 2 1 ⟨#[]⟩ [], none, 0)] _ rfl (fun p hp => by simp only [List.mem_cons, List.not_mem_nil, or_false] at hp; subst hp; exact tl_leaf _ _ _ _) (by simp) (by simp))
  have C3 : ∀ (V : World) (A2 : Option Addr) (c2 : Nat), TmIn (fun k => k < V.heap.size) V t2W A2 c2 → Hid (Calls Tryz.prog 33 #[.string ⟨#[44]⟩, .slice (some ⟨V.heap.size, 0, none⟩) 2 2] (V.alloc (.cells #[.int .i64 4, .int .i64 0, .string ⟨#[45]⟩, .slice A2 1 c2, .int .i64 3, .int .i64 0, .string ⟨#[98]⟩, .slice none 0 0] 32)) fun e w' => ∃ A' c', e = .returned (.agg #[.int .i64 4, .int .i64 0, .string ⟨#[44]⟩, .slice A' 2 c']) ∧ TmIn (fun k => k < w'.heap.size) w' t3W A' c' ∧ Ext V w') := fun V A2 c2 h2 => Lib.hid (lwComp V ⟨#[44]⟩ [(t2W, A2, c2), (.mk 3 0 ⟨#[98]⟩ [], none, 0)] _ rfl (fun p hp => by simp only [List.mem_cons, List.not_mem_nil, or_false] at hp; rcases hp with rfl | rfl; exact h2; exact tl_leaf _ _ _ _) (by simp) (by simp))
  have C4 : ∀ (V : World) (A1 : Option Addr) (c1 : Nat) (A3 : Option Addr) (c3 : Nat), TmIn (fun k => k < V.heap.size) V t1W A1 c1 → TmIn (fun k => k < V.heap.size) V t3W A3 c3 → Hid (Calls Tryz.prog 33 #[.string ⟨#[58, 45]⟩, .slice (some ⟨V.heap.size, 0, none⟩) 2 2] (V.alloc (.cells #[.int .i64 4, .int .i64 0, .string ⟨#[97]⟩, .slice A1 2 c1, .int .i64 4, .int .i64 0, .string ⟨#[44]⟩, .slice A3 2 c3] 32)) fun e w' => ∃ A' c', e = .returned (.agg #[.int .i64 4, .int .i64 0, .string ⟨#[58, 45]⟩, .slice A' 2 c']) ∧ TmIn (fun k => k < w'.heap.size) w' lwT A' c' ∧ Ext V w') := fun V A1 c1 A3 c3 h1 h3 => Lib.hid (lwComp V ⟨#[58, 45]⟩ [(t1W, A1, c1), (t3W, A3, c3)] _ rfl (fun p hp => by simp only [List.mem_cons, List.not_mem_nil, or_false] at hp; rcases hp with rfl | rfl; exact h1; exact h3) (by simp) (by simp))
  have XR := Lib.hid (Ext.refl V1)
  go_upto_region 6 with (first
    | (go_at_call 34; refine (refVar_any 0 _).mono ?_; rintro e U1 ⟨rfl, x⟩; have XS := Lib.hid (XR.out.trans x); clear XR x; have XR := XS; clear XS)
    | (go_at_call 33; (with_reducible refine (C1 _).out.mono ?_); rintro e U2 ⟨A1, c1, rfl, ht, x⟩; have T1 := Lib.hid ht; have XS := Lib.hid (XR.out.trans x); clear XR x ht; have XR := XS; clear XS)
    | (go_at_call 35; refine (refInt_any 1 _).mono ?_; rintro e U3 ⟨rfl, x⟩; have T1b := Lib.hid (tl_ext T1.out x); have XS := Lib.hid (XR.out.trans x); clear XR x; have XR := XS; clear XS)
    | (go_at_call 33; (with_reducible refine (C2 _).out.mono ?_); rintro e U4 ⟨A2, c2, rfl, ht, x⟩; have T1c := Lib.hid (tl_ext T1b.out x); have T2 := Lib.hid ht; have XS := Lib.hid (XR.out.trans x); clear XR x ht; have XR := XS; clear XS)
    | (go_at_call 36; refine (refAtom_any _ _).mono ?_; rintro e U5 ⟨rfl, x⟩; have T1d := Lib.hid (tl_ext T1c.out x); have T2b := Lib.hid (tl_ext T2.out x); have XS := Lib.hid (XR.out.trans x); clear XR x; have XR := XS; clear XS)
    | (go_at_call 33; (with_reducible refine (C3 _ _ _ T2b.out).out.mono ?_); rintro e U6 ⟨A3, c3, rfl, ht, x⟩; have T1e := Lib.hid (tl_ext T1d.out x); have T3 := Lib.hid ht; have XS := Lib.hid (XR.out.trans x); clear XR x ht; have XR := XS; clear XS)
    | (go_at_call 33; (with_reducible refine (C4 _ _ _ _ _ T1e.out T3.out).out.mono ?_); rintro e U7 ⟨A5, c5, rfl, ht, x⟩; have T5 := Lib.hid ht; have XS := Lib.hid (XR.out.trans x); clear XR x ht; have XR := XS; clear XS))
  refine wp_abs (fun V => LwK w V g2 A c n q ∧ OpsOk V tb initI initQ ∧ LwT V U7.heap.size A5 c5) ⟨HK.out.go (XR.out.trans (ext_box4 _ _)), HO.out.ext (XR.out.trans (ext_box4 _ _)), ⟨Blk.new _ _ _, tl_ext T5.out (ext_box4 _ _)⟩⟩ ?_
  generalize U7.heap.size = g5 at *
  clear C1 C2 C3 C4 XR T1 T1b T1c T1d T1e T2 T2b T3 T5 HK HO
  rintro V2 ⟨hK, hO, hT⟩
  have HK := Lib.hid hK
  have HO := Lib.hid hO
  have HL := Lib.hid hT
  clear hK hO hT
  have hc2 : (convert 23 23 (.slice (some ⟨V2.heap.size, 0, none⟩) 10 10)).run Tryz.prog (V2.alloc (.cells #[.int .u8 97, .int .u8 46, .int .u8 32, .int .u8 91, .int .u8 49, .int .u8 124, .int .u8 84, .int .u8 93, .int .u8 46, .int .u8 32] 5)) = .ok (.slice (some ⟨V2.heap.size, 0, none⟩) 10 10) (V2.alloc (.cells #[.int .u8 97, .int .u8 46, .int .u8 32, .int .u8 91, .int .u8 49, .int .u8 124, .int .u8 84, .int .u8 93, .int .u8 46, .int .u8 32] 5 (10, 11))) := lit_convP V2 lw2
  have H2 : Hid (Calls Tryz.prog 17 #[.slice (some ⟨V2.heap.size, 0, none⟩) 10 10, .pointer (some ⟨tb, 0, none⟩)] (V2.alloc (.cells #[.int .u8 97, .int .u8 46, .int .u8 32, .int .u8 91, .int .u8 49, .int .u8 124, .int .u8 84, .int .u8 93, .int .u8 46, .int .u8 32] 5 (10, 11))) (fun e w' => ∃ A6 c6, e = .returned (.tuple #[.slice A6 2 c6, .int .i64 10, .int .i64 0]) ∧ Ext V2 w')) := by
    refine Lib.hid ((lit_allC V2 (HG.out.ext HK.out.ext) HO.out lw2 (by decide)).mono ?_)
    rintro e w' ⟨v, M, rfl, hm, hl⟩
    obtain ⟨A6, c6, rfl⟩ := own_value hm.own
    have h2 := lw_2
    have hM : M.length = 2 := by rw [← h2.1, ← hl]; simp
    rw [hM, h2.2]
    exact ⟨A6, c6, rfl, (ext_mark V2 _ _ _).trans hm.ext⟩
  go_upto_region 7 with (go_at_call 17; refine H2.out.mono ?_; rintro e W6 ⟨A6, c6, rfl, x6⟩; have X6 := Lib.hid x6; clear x6)
  have HK2 := Lib.hid (HK.out.go X6.out)
  have HO2 := Lib.hid (HO.out.ext X6.out)
  have HL2 := Lib.hid (HL.out.go X6.out)
  clear hc2 H2 HK HO HL
  have hc3 : (convert 23 23 (.slice (some ⟨W6.heap.size, 0, none⟩) 4 4)).run Tryz.prog (W6.alloc (.cells #[.int .u8 97, .int .u8 32, .int .u8 98, .int .u8 46] 5)) = .ok (.slice (some ⟨W6.heap.size, 0, none⟩) 4 4) (W6.alloc (.cells #[.int .u8 97, .int .u8 32, .int .u8 98, .int .u8 46] 5 (4, 5))) := lit_convP W6 lw3
  have H3 : Hid (Calls Tryz.prog 14 #[.slice (some ⟨W6.heap.size, 0, none⟩) 4 4, .int .i64 0, .pointer (some ⟨tb, 0, none⟩)] (W6.alloc (.cells #[.int .u8 97, .int .u8 32, .int .u8 98, .int .u8 46] 5 (4, 5))) (fun e w' => ∃ (k n : Int) (s : ByteArray) (A : Option Addr) (l c : Nat) (B : Option Addr) (l2 c2 : Nat) (nx : Int), e = .returned (.tuple #[.agg #[.int .i64 k, .int .i64 n, .string s, .slice A l c, .slice B l2 c2, .int .i64 nx], .int .i64 2, .int .i64 100]) ∧ Ext W6 w')) := by
    refine Lib.hid ((lit_clause W6 (HG.out.ext HK2.out.ext) HO2.out lw3 (by decide)).mono ?_)
    intro e w' hh
    have h2 := lw_3
    obtain ⟨r, hr⟩ : ∃ r, clauseS P0 lw3 0 = (r, 2, 100) := ⟨(clauseS P0 lw3 0).1, by rw [← h2]⟩
    obtain ⟨A, c, n, q, rfl, _, hx⟩ := hh.two hr
    exact ⟨_, _, _, _, _, _, _, _, _, _, rfl, (ext_mark W6 _ _ _).trans hx⟩
  go_upto_region 8 with (go_at_call 14; refine H3.out.mono ?_; rintro e W7 ⟨k7, n7, s7, A7, l7, c7, B7, m7, d7, nx7, rfl, x7⟩; have X7 := Lib.hid x7; clear x7)
  refine wp_abs (fun V => LwK w V g2 A c n q ∧ OpsOk V tb initI initQ ∧ LwT V g5 A5 c5) ⟨HK2.out.go (X7.out.trans (ext_box4 _ _)), HO2.out.ext (X7.out.trans (ext_box4 _ _)), HL2.out.go (X7.out.trans (ext_box4 _ _))⟩ ?_
  clear hc3 H3 HK2 HO2 HL2 X7 X6
  rintro V3 ⟨hK, hO, hT⟩
  have HK := Lib.hid hK
  have HO := Lib.hid hO
  have HL := Lib.hid hT
  clear hK hO hT
  have H4 : Hid (Calls Tryz.prog 19 #[.string ⟨#[120, 46, 32, 121]⟩, .pointer (some ⟨tb, 0, none⟩)] V3 (fun e w' => ∃ (k n : Int) (s : ByteArray) (A : Option Addr) (l c : Nat) (B : Option Addr) (l2 c2 : Nat) (nx : Int), e = .returned (.tuple #[.agg #[.int .i64 k, .int .i64 n, .string s, .slice A l c, .slice B l2 c2, .int .i64 nx], .int .i64 100]) ∧ Ext V3 w')) := by
    refine Lib.hid ((parseOne_any (s := ⟨#[120, 46, 32, 121]⟩) (by decide) (HG.out.ext HK.out.ext) HO.out).mono ?_)
    rintro e w' ⟨v, rfl, ⟨A, c, n, k, rfl, _⟩, hx⟩
    have h2 : (oneR P0 (lw4 ++ [32, 46])).2 = 100 := lw_4
    have h3 : (oneR ⟨fun s => findO s initI, fun s => findO s initQ⟩ ((⟨#[120, 46, 32, 121]⟩ : ByteArray).data.toList ++ [32, 46])).2 = 100 := h2
    rw [h3]
    exact ⟨_, _, _, _, _, _, _, _, _, _, rfl, hx⟩
  go_upto_region 9 with (go_at_call 19; refine H4.out.mono ?_; rintro e W8 ⟨k8, n8, s8, A8, l8, c8, B8, m8, d8, nx8, rfl, x8⟩; have X8 := Lib.hid x8; clear x8)
  refine wp_abs (fun V => LwK w V g2 A c n q ∧ LwT V g5 A5 c5) ⟨HK.out.go (X8.out.trans (ext_box4 _ _)), HL.out.go (X8.out.trans (ext_box4 _ _))⟩ ?_
  clear H4 HK HO HL X8
  rintro V4 ⟨hK, hT⟩
  have HK := Lib.hid hK
  have HL := Lib.hid hT
  clear hK hT
  have HEX : Hid (Calls Tryz.prog 22 #[.agg #[.int .i64 4, .int .i64 0, .string ⟨#[58, 45]⟩, .slice A 2 c], .agg #[.int .i64 4, .int .i64 0, .string ⟨#[58, 45]⟩, .slice A5 2 c5]] V4 fun e w' => e = .returned (.bool true) ∧ Ext V4 w') := by
    have h := exact_any _ lwT lwT (Nat.le_refl _) lw_z A A5 c c5 V4 _ _ HK.out.tm HL.out.tm
    rw [lw_e] at h
    exact Lib.hid h
  have k2 := HK.out.blk.cell
  have k5 := HL.out.blk.cell
  obtain ⟨b, off, rfl, hcl⟩ := El.Src.form HK.out.ns (by omega) (by omega)
  have e1 : V4.cell? ⟨b, off, none⟩ = some (.string ⟨#[88]⟩) := hcl 0 _ rfl
  clear hcl
  go_wp2_with (go_at_call 22; refine HEX.out.mono ?_; rintro e W9 ⟨rfl, x9⟩; have X9 := Lib.hid x9; have j2 := (HK.out.blk.ext x9).cell; have j5 := (HL.out.blk.ext x9).cell; have f1 := x9.cell e1; clear x9)
  go_ret
  exact ⟨rfl, HK.out.ext.trans X9.out⟩
end Go.Proofs.YtgcdhffeacdegaaGreatDoor
