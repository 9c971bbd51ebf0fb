/- Law 10: lives holds. -/
import Derived.Test.YtgcdhffeacdegaaGreatDoorC37
import Derived.Test.YtgcdhffeacdegaaGreatDoorC17
import Derived.Test.YtgcdhffeacdegaaGreatDoorC36
import Derived.Test.YtgcdhffeacdegaaGreatDoorC29
namespace Go.El
open Go.RowKit Go.Proofs.YtgcdhffeacdegaaGreatDoor
def P0 : Ops := ⟨fun s => findO s initI, fun s => findO s initQ⟩
def lw1 : List UInt8 := [97, 40, 88, 44, 32, 88, 41, 32, 58, 45, 32, 45, 32, 49, 44, 32, 98, 46, 32, 99, 46]
def lw2 : List UInt8 := [97, 46, 32, 91, 49, 124, 84, 93, 46, 32]
def lw3 : List UInt8 := [97, 32, 98, 46]
def lw4 : List UInt8 := [120, 46, 32, 121]
def t1W : Tm := .mk 4 0 ⟨#[97]⟩ [.mk 1 0 ⟨#[]⟩ [], .mk 1 0 ⟨#[]⟩ []]
def t2W : Tm := .mk 4 0 ⟨#[45]⟩ [.mk 2 1 ⟨#[]⟩ []]
def t3W : Tm := .mk 4 0 ⟨#[44]⟩ [t2W, .mk 3 0 ⟨#[98]⟩ []]
def lwT : Tm := .mk 4 0 ⟨#[58, 45]⟩ [t1W, t3W]
theorem lw_1 : clauseS P0 lw1 0 = (⟨lwT, [⟨#[88]⟩], 18⟩, 18, 0) := by kernel_rfl
theorem lw_2 : (allR P0 lw2).1.length = 2 ∧ (allR P0 lw2).2 = (10, 0) := by decide +kernel
theorem lw_3 : (clauseS P0 lw3 0).2 = (2, 100) := by decide +kernel
theorem lw_4 : (oneR P0 (lw4 ++ [32, 46])).2 = 100 := by decide +kernel
theorem lw_e : exT lwT lwT = true := by decide +kernel
theorem lw_z : szT lwT ≤ 1000000000 := by decide +kernel
end Go.El
namespace Go.Proofs.YtgcdhffeacdegaaGreatDoor
open Go.RowKit Go.El

theorem lit_convP (W : World) (l : List UInt8) : (convert 23 23 (.slice (some ⟨W.heap.size, 0, none⟩) l.length l.length)).run Tryz.prog (W.alloc (.cells (l.map u8V).toArray 5)) = .ok (.slice (some ⟨W.heap.size, 0, none⟩) l.length l.length) (W.alloc (.cells (l.map u8V).toArray 5 (l.length, l.length + 1))) := by
  have := Joins.run_convert_bytes_const_at (P := Tryz.prog) W 23 5 (l.map u8V).toArray l.length l.length W.heap.size rfl Tryz.underlying23 Tryz.underlying5
  rw [show (l.map u8V).toArray.size = l.length from by simp] at this
  exact this
theorem lit_clause (W : World) (g : Glob W) {tb : Nat} (ho : OpsOk W tb initI initQ) (l : List UInt8) (hl : l.length ≤ 1000) : Calls Tryz.prog 14 #[.slice (some ⟨W.heap.size, 0, none⟩) l.length l.length, .int .i64 0, .pointer (some ⟨tb, 0, none⟩)] (W.alloc (.cells (l.map u8V).toArray 5 (l.length, l.length + 1))) (ClPost (W.alloc (.cells (l.map u8V).toArray 5 (l.length, l.length + 1))) (clauseS P0 l 0)) :=
  pClause_any (i := 0) (src_mark W l _) (Nat.zero_le _) (by omega) (Nat.le_refl _) (g.ext (ext_mark W _ _ _)) (ho.ext (ext_mark W _ _ _))
theorem lit_allC (W : World) (g : Glob W) {tb : Nat} (ho : OpsOk W tb initI initQ) (l : List UInt8) (hl : l.length ≤ 1000) : Calls Tryz.prog 17 #[.slice (some ⟨W.heap.size, 0, none⟩) l.length l.length, .pointer (some ⟨tb, 0, none⟩)] (W.alloc (.cells (l.map u8V).toArray 5 (l.length, l.length + 1))) (AllPost (W.alloc (.cells (l.map u8V).toArray 5 (l.length, l.length + 1))) (allR P0 l)) :=
  pAllR (src_mark W l _) (by omega) (Nat.le_refl _) (g.ext (ext_mark W _ _ _)) (ho.ext (ext_mark W _ _ _))

/-- What is kept of the first clause. -/
structure LwK (w V : World) (g2 : Nat) (A : Option Addr) (c : Nat) (n : Option Addr) (m : Nat) : Prop where
  ext : Ext w V
  blk : Blk V g2 35 #[.int .i64 4, .int .i64 0, .string ⟨#[58, 45]⟩, .slice A 2 c, .slice n 1 m, .int .i64 18]
  tm : TmIn (fun k => k < V.heap.size) V lwT A c
  ns : El.Src V n 1 1 [.string ⟨#[88]⟩]
theorem LwK.go {w V U : World} {g2 : Nat} {A n : Option Addr} {c m : Nat} (h : LwK w V g2 A c n m) (x : Ext V U) : LwK w U g2 A c n m :=
  ⟨h.ext.trans x, h.blk.ext x, (h.tm.ext x).mono (fun _ hk => Nat.lt_of_lt_of_le hk x.size), h.ns.ext x⟩
theorem tl_ext {V U : World} {t : Tm} {A : Option Addr} {c : Nat} (h : TmIn (fun k => k < V.heap.size) V t A c) (x : Ext V U) : TmIn (fun k => k < U.heap.size) U t A c := (h.ext x).mono (fun _ hk => Nat.lt_of_lt_of_le hk x.size)
theorem tl_leaf (V : World) (k : Int) (n : Int) (s : ByteArray) : TmIn (fun k => k < V.heap.size) V (.mk k n s []) none 0 := TmsIn.term (TmsIn.nil _ _ _ _) k n s
/-- .. and of the term that is wanted. -/
structure LwT (V : World) (g5 : Nat) (A : Option Addr) (c : Nat) : Prop where
  blk : Blk V g5 32 #[.int .i64 4, .int .i64 0, .string ⟨#[58, 45]⟩, .slice A 2 c]
  tm : TmIn (fun k => k < V.heap.size) V lwT A c
theorem LwT.go {V U : World} {g5 : Nat} {A : Option Addr} {c : Nat} (h : LwT V g5 A c) (x : Ext V U) : LwT U g5 A c :=
  ⟨h.blk.ext x, (h.tm.ext x).mono (fun _ hk => Nat.lt_of_lt_of_le hk x.size)⟩
/-- A comp of a literal row. -/
theorem lwComp (W : World) (s : ByteArray) (M : List TmP) (cs : Array Value) (hcs : cs = (flat tmC M).toArray) (hk : ∀ p ∈ M, TmIn (fun k => k < W.heap.size) W p.1 p.2.1 p.2.2) (hn : M ≠ []) (hl : M.length ≤ 1000) :
    Calls Tryz.prog 33 #[.string s, .slice (some ⟨W.heap.size, 0, none⟩) M.length M.length] (W.alloc (.cells cs 32)) fun e w' => ∃ A' c', e = .returned (.agg #[.int .i64 4, .int .i64 0, .string s, .slice A' M.length c']) ∧ TmIn (fun k => k < w'.heap.size) w' (.mk 4 0 s (M.map (·.1))) A' c' ∧ Ext W w' := by
  subst hcs
  have hx := ext_box4 W (.cells (flat tmC M).toArray 32)
  have hlen : (flat tmC M).toArray.size = M.length * 4 := by
    have : ∀ L : List TmP, (flat tmC L).length = L.length * 4 := by
      intro L
      induction L with
      | nil => rfl
      | cons a l ih => simp only [flat, List.flatMap_cons, List.length_append, List.length_cons] at ih ⊢; rw [ih]; show 4 + _ = _; omega
    simpa using this M
  have hs := El.Src.new W (flat tmC M).toArray 32 M.length 4 hlen
  refine (refComp_any s M _ _ _ (fun k => k < (W.alloc (.cells (flat tmC M).toArray 32)).heap.size) hs (fun p hp => ((hk p hp).ext hx).mono (fun k h => Nat.lt_of_lt_of_le h hx.size)) hn hl (fun k h => h)).mono ?_
  rintro e w' ⟨A', c', rfl, ht, hx2⟩
  exact ⟨A', c', rfl, ht.mono (fun k h => by rcases h with h | h; exact Nat.lt_of_lt_of_le h hx2.size; exact h.2), hx.trans hx2⟩

set_option maxRecDepth 100000 in
set_option maxHeartbeats 8000000 in
theorem lives10_any (w : World) (g : Glob w) (hT : TypesAt 0 w) : Calls Tryz.prog 12 #[] w fun e w' => e = .returned (.bool true) ∧ Ext w w' := by
  have HG := Lib.hid g
  have HT := Lib.hid hT
  clear g hT
  go_enter Tryz.func12, Tryz.ntmps12
  go_upto_region 4 with (go_at_call 32; refine (twNews _).mono ?_; rintro e W1 ⟨tb, m1, m2, rfl, hn⟩; have HX := Lib.hid hn.out.2.2.2.2; have HO : Hid (OpsOk W1 tb initI initQ) := Lib.hid ⟨⟨m1, m2, hn.out.2.2.2.1⟩, bd_init, HT.out.ext hn.out.2.2.2.2⟩; clear hn)
  have hc1 : (convert 23 23 (.slice (some ⟨W1.heap.size, 0, none⟩) 21 21)).run Tryz.prog (W1.alloc (.cells #[.int .u8 97, .int .u8 40, .int .u8 88, .int .u8 44, .int .u8 32, .int .u8 88, .int .u8 41, .int .u8 32, .int .u8 58, .int .u8 45, .int .u8 32, .int .u8 45, .int .u8 32, .int .u8 49, .int .u8 44, .int .u8 32, .int .u8 98, .int .u8 46, .int .u8 32, .int .u8 99, .int .u8 46] 5)) = .ok (.slice (some ⟨W1.heap.size, 0, none⟩) 21 21) (W1.alloc (.cells #[.int .u8 97, .int .u8 40, .int .u8 88, .int .u8 44, .int .u8 32, .int .u8 88, .int .u8 41, .int .u8 32, .int .u8 58, .int .u8 45, .int .u8 32, .int .u8 45, .int .u8 32, .int .u8 49, .int .u8 44, .int .u8 32, .int .u8 98, .int .u8 46, .int .u8 32, .int .u8 99, .int .u8 46] 5 (21, 22))) := lit_convP W1 lw1
  have H1 : Hid (Calls Tryz.prog 14 #[.slice (some ⟨W1.heap.size, 0, none⟩) 21 21, .int .i64 0, .pointer (some ⟨tb, 0, none⟩)] (W1.alloc (.cells #[.int .u8 97, .int .u8 40, .int .u8 88, .int .u8 44, .int .u8 32, .int .u8 88, .int .u8 41, .int .u8 32, .int .u8 58, .int .u8 45, .int .u8 32, .int .u8 45, .int .u8 32, .int .u8 49, .int .u8 44, .int .u8 32, .int .u8 98, .int .u8 46, .int .u8 32, .int .u8 99, .int .u8 46] 5 (21, 22))) (fun e w' => ∃ A c n q, e = .returned (.tuple #[.agg #[.int .i64 4, .int .i64 0, .string ⟨#[58, 45]⟩, .slice A 2 c, .slice n 1 q, .int .i64 18], .int .i64 18, .int .i64 0]) ∧ TmIn (fun k => k < w'.heap.size) w' lwT A c ∧ El.Src w' n 1 1 [.string ⟨#[88]⟩] ∧ Ext W1 w')) := by
    have h := lit_clause W1 (HG.out.ext HX.out) HO.out lw1 (by decide)
    rw [lw_1] at h
    refine Lib.hid (h.mono ?_)
    intro e w' hh
    obtain ⟨A, c, n, q, rfl, ⟨ht, hs, hq, hn⟩, hx⟩ := hh.two rfl
    exact ⟨A, c, n, q, rfl, ht.mono (fun _ hk => hk.2), hs, (ext_mark W1 _ _ _).trans hx⟩
  go_upto_region 5 with (go_at_call 14; refine H1.out.mono ?_; rintro e W2 ⟨A, c, n, q, rfl, ht, hs, hx⟩; have HT2 := Lib.hid ht; have HS2 := Lib.hid hs; have HX2 := Lib.hid hx; clear ht hs hx)
  refine wp_abs (fun V => LwK w V W2.heap.size A c n q ∧ OpsOk V tb initI initQ) ⟨⟨(HX.out.trans HX2.out).trans (ext_box4 _ _), Blk.new _ _ _, tl_ext HT2.out (ext_box4 _ _), HS2.out.ext (ext_box4 _ _)⟩, HO.out.ext (HX2.out.trans (ext_box4 _ _))⟩ ?_
  generalize W2.heap.size = g2 at *
  clear hc1 H1 HT2 HS2 HX2 HX HO
  rintro V1 ⟨hK, hO⟩
  have HK := Lib.hid hK
  have HO := Lib.hid hO
  clear hK hO
  have C1 : ∀ V : World, Hid (Calls Tryz.prog 33 #[.string ⟨#[97]⟩, .slice (some ⟨V.heap.size, 0, none⟩) 2 2] (V.alloc (.cells #[.int .i64 1, .int .i64 0, .string ⟨#[]⟩, .slice none 0 0, .int .i64 1, .int .i64 0, .string ⟨#[]⟩, .slice none 0 0] 32)) fun e w' => ∃ A' c', e = .returned (.agg #[.int .i64 4, .int .i64 0, .string ⟨#[97]⟩, .slice A' 2 c']) ∧ TmIn (fun k => k < w'.heap.size) w' t1W A' c' ∧ Ext V w') := fun V => Lib.hid (lwComp V ⟨#[97]⟩ [(.mk 1 0 ⟨#[]⟩ [], none, 0), (.mk 1 0 ⟨#[]⟩ [], none, 0)] _ rfl (fun p hp => by simp only [List.mem_cons, List.not_mem_nil, or_false] at hp; rcases hp with rfl | rfl <;> exact tl_leaf _ _ _ _) (by simp) (by simp))
  have C2 : ∀ V : World, Hid (Calls Tryz.prog 33 #[.string ⟨#[45]⟩, .slice (some ⟨V.heap.size, 0, none⟩) 1 1] (V.alloc (.cells #[.int .i64 2, .int .i64 1, .string ⟨#[]⟩, .slice none 0 0] 32)) fun e w' => ∃ A' c', e = .returned (.agg #[.int .i64 4, .int .i64 0, .string ⟨#[45]⟩, .slice A' 1 c']) ∧ TmIn (fun k => k < w'.heap.size) w' t2W A' c' ∧ Ext V w') := fun V => Lib.hid (lwComp V ⟨#[45]⟩ [(.mk 2 1 ⟨#[]⟩ [], none, 0)] _ rfl (fun p hp => by simp only [List.mem_cons, List.not_mem_nil, or_false] at hp; subst hp; exact tl_leaf _ _ _ _) (by simp) (by simp))
  have C3 : ∀ (V : World) (A2 : Option Addr) (c2 : Nat), TmIn (fun k => k < V.heap.size) V t2W A2 c2 → Hid (Calls Tryz.prog 33 #[.string ⟨#[44]⟩, .slice (some ⟨V.heap.size, 0, none⟩) 2 2] (V.alloc (.cells #[.int .i64 4, .int .i64 0, .string ⟨#[45]⟩, .slice A2 1 c2, .int .i64 3, .int .i64 0, .string ⟨#[98]⟩, .slice none 0 0] 32)) fun e w' => ∃ A' c', e = .returned (.agg #[.int .i64 4, .int .i64 0, .string ⟨#[44]⟩, .slice A' 2 c']) ∧ TmIn (fun k => k < w'.heap.size) w' t3W A' c' ∧ Ext V w') := fun V A2 c2 h2 => Lib.hid (lwComp V ⟨#[44]⟩ [(t2W, A2, c2), (.mk 3 0 ⟨#[98]⟩ [], none, 0)] _ rfl (fun p hp => by simp only [List.mem_cons, List.not_mem_nil, or_false] at hp; rcases hp with rfl | rfl; exact h2; exact tl_leaf _ _ _ _) (by simp) (by simp))
  have C4 : ∀ (V : World) (A1 : Option Addr) (c1 : Nat) (A3 : Option Addr) (c3 : Nat), TmIn (fun k => k < V.heap.size) V t1W A1 c1 → TmIn (fun k => k < V.heap.size) V t3W A3 c3 → Hid (Calls Tryz.prog 33 #[.string ⟨#[58, 45]⟩, .slice (some ⟨V.heap.size, 0, none⟩) 2 2] (V.alloc (.cells #[.int .i64 4, .int .i64 0, .string ⟨#[97]⟩, .slice A1 2 c1, .int .i64 4, .int .i64 0, .string ⟨#[44]⟩, .slice A3 2 c3] 32)) fun e w' => ∃ A' c', e = .returned (.agg #[.int .i64 4, .int .i64 0, .string ⟨#[58, 45]⟩, .slice A' 2 c']) ∧ TmIn (fun k => k < w'.heap.size) w' lwT A' c' ∧ Ext V w') := fun V A1 c1 A3 c3 h1 h3 => Lib.hid (lwComp V ⟨#[58, 45]⟩ [(t1W, A1, c1), (t3W, A3, c3)] _ rfl (fun p hp => by simp only [List.mem_cons, List.not_mem_nil, or_false] at hp; rcases hp with rfl | rfl; exact h1; exact h3) (by simp) (by simp))
  have XR := Lib.hid (Ext.refl V1)
  go_upto_region 6 with (first
    | (go_at_call 34; refine (refVar_any 0 _).mono ?_; rintro e U1 ⟨rfl, x⟩; have XS := Lib.hid (XR.out.trans x); clear XR x; have XR := XS; clear XS)
    | (go_at_call 33; (with_reducible refine (C1 _).out.mono ?_); rintro e U2 ⟨A1, c1, rfl, ht, x⟩; have T1 := Lib.hid ht; have XS := Lib.hid (XR.out.trans x); clear XR x ht; have XR := XS; clear XS)
    | (go_at_call 35; refine (refInt_any 1 _).mono ?_; rintro e U3 ⟨rfl, x⟩; have T1b := Lib.hid (tl_ext T1.out x); have XS := Lib.hid (XR.out.trans x); clear XR x; have XR := XS; clear XS)
    | (go_at_call 33; (with_reducible refine (C2 _).out.mono ?_); rintro e U4 ⟨A2, c2, rfl, ht, x⟩; have T1c := Lib.hid (tl_ext T1b.out x); have T2 := Lib.hid ht; have XS := Lib.hid (XR.out.trans x); clear XR x ht; have XR := XS; clear XS)
    | (go_at_call 36; refine (refAtom_any _ _).mono ?_; rintro e U5 ⟨rfl, x⟩; have T1d := Lib.hid (tl_ext T1c.out x); have T2b := Lib.hid (tl_ext T2.out x); have XS := Lib.hid (XR.out.trans x); clear XR x; have XR := XS; clear XS)
    | (go_at_call 33; (with_reducible refine (C3 _ _ _ T2b.out).out.mono ?_); rintro e U6 ⟨A3, c3, rfl, ht, x⟩; have T1e := Lib.hid (tl_ext T1d.out x); have T3 := Lib.hid ht; have XS := Lib.hid (XR.out.trans x); clear XR x ht; have XR := XS; clear XS)
    | (go_at_call 33; (with_reducible refine (C4 _ _ _ _ _ T1e.out T3.out).out.mono ?_); rintro e U7 ⟨A5, c5, rfl, ht, x⟩; have T5 := Lib.hid ht; have XS := Lib.hid (XR.out.trans x); clear XR x ht; have XR := XS; clear XS))
  refine wp_abs (fun V => LwK w V g2 A c n q ∧ OpsOk V tb initI initQ ∧ LwT V U7.heap.size A5 c5) ⟨HK.out.go (XR.out.trans (ext_box4 _ _)), HO.out.ext (XR.out.trans (ext_box4 _ _)), ⟨Blk.new _ _ _, tl_ext T5.out (ext_box4 _ _)⟩⟩ ?_
  generalize U7.heap.size = g5 at *
  clear C1 C2 C3 C4 XR T1 T1b T1c T1d T1e T2 T2b T3 T5 HK HO
  rintro V2 ⟨hK, hO, hT⟩
  have HK := Lib.hid hK
  have HO := Lib.hid hO
  have HL := Lib.hid hT
  clear hK hO hT
  have hc2 : (convert 23 23 (.slice (some ⟨V2.heap.size, 0, none⟩) 10 10)).run Tryz.prog (V2.alloc (.cells #[.int .u8 97, .int .u8 46, .int .u8 32, .int .u8 91, .int .u8 49, .int .u8 124, .int .u8 84, .int .u8 93, .int .u8 46, .int .u8 32] 5)) = .ok (.slice (some ⟨V2.heap.size, 0, none⟩) 10 10) (V2.alloc (.cells #[.int .u8 97, .int .u8 46, .int .u8 32, .int .u8 91, .int .u8 49, .int .u8 124, .int .u8 84, .int .u8 93, .int .u8 46, .int .u8 32] 5 (10, 11))) := lit_convP V2 lw2
  have H2 : Hid (Calls Tryz.prog 17 #[.slice (some ⟨V2.heap.size, 0, none⟩) 10 10, .pointer (some ⟨tb, 0, none⟩)] (V2.alloc (.cells #[.int .u8 97, .int .u8 46, .int .u8 32, .int .u8 91, .int .u8 49, .int .u8 124, .int .u8 84, .int .u8 93, .int .u8 46, .int .u8 32] 5 (10, 11))) (fun e w' => ∃ A6 c6, e = .returned (.tuple #[.slice A6 2 c6, .int .i64 10, .int .i64 0]) ∧ Ext V2 w')) := by
    refine Lib.hid ((lit_allC V2 (HG.out.ext HK.out.ext) HO.out lw2 (by decide)).mono ?_)
    rintro e w' ⟨v, M, rfl, hm, hl⟩
    obtain ⟨A6, c6, rfl⟩ := own_value hm.own
    have h2 := lw_2
    have hM : M.length = 2 := by rw [← h2.1, ← hl]; simp
    rw [hM, h2.2]
    exact ⟨A6, c6, rfl, (ext_mark V2 _ _ _).trans hm.ext⟩
  go_upto_region 7 with (go_at_call 17; refine H2.out.mono ?_; rintro e W6 ⟨A6, c6, rfl, x6⟩; have X6 := Lib.hid x6; clear x6)
  have HK2 := Lib.hid (HK.out.go X6.out)
  have HO2 := Lib.hid (HO.out.ext X6.out)
  have HL2 := Lib.hid (HL.out.go X6.out)
  clear hc2 H2 HK HO HL
  have hc3 : (convert 23 23 (.slice (some ⟨W6.heap.size, 0, none⟩) 4 4)).run Tryz.prog (W6.alloc (.cells #[.int .u8 97, .int .u8 32, .int .u8 98, .int .u8 46] 5)) = .ok (.slice (some ⟨W6.heap.size, 0, none⟩) 4 4) (W6.alloc (.cells #[.int .u8 97, .int .u8 32, .int .u8 98, .int .u8 46] 5 (4, 5))) := lit_convP W6 lw3
  have H3 : Hid (Calls Tryz.prog 14 #[.slice (some ⟨W6.heap.size, 0, none⟩) 4 4, .int .i64 0, .pointer (some ⟨tb, 0, none⟩)] (W6.alloc (.cells #[.int .u8 97, .int .u8 32, .int .u8 98, .int .u8 46] 5 (4, 5))) (fun e w' => ∃ (k n : Int) (s : ByteArray) (A : Option Addr) (l c : Nat) (B : Option Addr) (l2 c2 : Nat) (nx : Int), e = .returned (.tuple #[.agg #[.int .i64 k, .int .i64 n, .string s, .slice A l c, .slice B l2 c2, .int .i64 nx], .int .i64 2, .int .i64 100]) ∧ Ext W6 w')) := by
    refine Lib.hid ((lit_clause W6 (HG.out.ext HK2.out.ext) HO2.out lw3 (by decide)).mono ?_)
    intro e w' hh
    have h2 := lw_3
    obtain ⟨r, hr⟩ : ∃ r, clauseS P0 lw3 0 = (r, 2, 100) := ⟨(clauseS P0 lw3 0).1, by rw [← h2]⟩
    obtain ⟨A, c, n, q, rfl, _, hx⟩ := hh.two hr
    exact ⟨_, _, _, _, _, _, _, _, _, _, rfl, (ext_mark W6 _ _ _).trans hx⟩
  go_upto_region 8 with (go_at_call 14; refine H3.out.mono ?_; rintro e W7 ⟨k7, n7, s7, A7, l7, c7, B7, m7, d7, nx7, rfl, x7⟩; have X7 := Lib.hid x7; clear x7)
  refine wp_abs (fun V => LwK w V g2 A c n q ∧ OpsOk V tb initI initQ ∧ LwT V g5 A5 c5) ⟨HK2.out.go (X7.out.trans (ext_box4 _ _)), HO2.out.ext (X7.out.trans (ext_box4 _ _)), HL2.out.go (X7.out.trans (ext_box4 _ _))⟩ ?_
  clear hc3 H3 HK2 HO2 HL2 X7 X6
  rintro V3 ⟨hK, hO, hT⟩
  have HK := Lib.hid hK
  have HO := Lib.hid hO
  have HL := Lib.hid hT
  clear hK hO hT
  have H4 : Hid (Calls Tryz.prog 19 #[.string ⟨#[120, 46, 32, 121]⟩, .pointer (some ⟨tb, 0, none⟩)] V3 (fun e w' => ∃ (k n : Int) (s : ByteArray) (A : Option Addr) (l c : Nat) (B : Option Addr) (l2 c2 : Nat) (nx : Int), e = .returned (.tuple #[.agg #[.int .i64 k, .int .i64 n, .string s, .slice A l c, .slice B l2 c2, .int .i64 nx], .int .i64 100]) ∧ Ext V3 w')) := by
    refine Lib.hid ((parseOne_any (s := ⟨#[120, 46, 32, 121]⟩) (by decide) (HG.out.ext HK.out.ext) HO.out).mono ?_)
    rintro e w' ⟨v, rfl, ⟨A, c, n, k, rfl, _⟩, hx⟩
    have h2 : (oneR P0 (lw4 ++ [32, 46])).2 = 100 := lw_4
    have h3 : (oneR ⟨fun s => findO s initI, fun s => findO s initQ⟩ ((⟨#[120, 46, 32, 121]⟩ : ByteArray).data.toList ++ [32, 46])).2 = 100 := h2
    rw [h3]
    exact ⟨_, _, _, _, _, _, _, _, _, _, rfl, hx⟩
  go_upto_region 9 with (go_at_call 19; refine H4.out.mono ?_; rintro e W8 ⟨k8, n8, s8, A8, l8, c8, B8, m8, d8, nx8, rfl, x8⟩; have X8 := Lib.hid x8; clear x8)
  refine wp_abs (fun V => LwK w V g2 A c n q ∧ LwT V g5 A5 c5) ⟨HK.out.go (X8.out.trans (ext_box4 _ _)), HL.out.go (X8.out.trans (ext_box4 _ _))⟩ ?_
  clear H4 HK HO HL X8
  rintro V4 ⟨hK, hT⟩
  have HK := Lib.hid hK
  have HL := Lib.hid hT
  clear hK hT
  have HEX : Hid (Calls Tryz.prog 22 #[.agg #[.int .i64 4, .int .i64 0, .string ⟨#[58, 45]⟩, .slice A 2 c], .agg #[.int .i64 4, .int .i64 0, .string ⟨#[58, 45]⟩, .slice A5 2 c5]] V4 fun e w' => e = .returned (.bool true) ∧ Ext V4 w') := by
    have h := exact_any _ lwT lwT (Nat.le_refl _) lw_z A A5 c c5 V4 _ _ HK.out.tm HL.out.tm
    rw [lw_e] at h
    exact Lib.hid h
  have k2 := HK.out.blk.cell
  have k5 := HL.out.blk.cell
  obtain ⟨b, off, rfl, hcl⟩ := El.Src.form HK.out.ns (by omega) (by omega)
  have e1 : V4.cell? ⟨b, off, none⟩ = some (.string ⟨#[88]⟩) := hcl 0 _ rfl
  clear hcl
  go_wp2_with (go_at_call 22; refine HEX.out.mono ?_; rintro e W9 ⟨rfl, x9⟩; have X9 := Lib.hid x9; have j2 := (HK.out.blk.ext x9).cell; have j5 := (HL.out.blk.ext x9).cell; have f1 := x9.cell e1; clear x9)
  go_ret
  exact ⟨rfl, HK.out.ext.trans X9.out⟩
end Go.Proofs.YtgcdhffeacdegaaGreatDoor

/- Layer 10, plain: a clause's names are no more than its tokens. -/
namespace Go.El

def PR.nfit {α : Type} (m : Nat) : PR α → Prop
  | .bad _ => True
  | .ok _ r ns => ns.length + r.length ≤ m
theorem nfit_le {α : Type} {x : PR α} {a b : Nat} (h : x.nfit a) (hab : a ≤ b) : x.nfit b := by
  cases x with
  | bad q => exact trivial
  | ok u q ms => exact Nat.le_trans h hab
theorem nfit_want {α : Type} {m : Nat} {c : UInt8} {a : α} {r : List TokV} {ns : List ByteArray} (h : ns.length + r.length ≤ m) : (wantP c a r ns).nfit m := by
  unfold wantP
  split
  · simp only [PR.nfit, List.length_tail]
    omega
  · exact trivial
theorem varN_len (s : ByteArray) (ns : List ByteArray) : (varN s ns).length ≤ ns.length + 1 := by
  unfold varN
  cases varI s ns <;> simp
structure NfN (O : Ops) (n : Nat) : Prop where
  term : ∀ most r ns, (termN O n most r ns).nfit (ns.length + r.length)
  loop : ∀ most t p r ns, (loopN O n most t p r ns).nfit (ns.length + r.length)
  oper : ∀ most r ns, (operN O n most r ns).nfit (ns.length + r.length)
  brac : ∀ t r ns, (bracN O n t r ns).nfit (ns.length + r.length)
  named : ∀ s r ns, (namedN O n s r ns).nfit (ns.length + r.length)
  row : ∀ lim acc r ns, (rowN O n lim acc r ns).nfit (ns.length + r.length)
  sign : ∀ s most r ns, (signN O n s most r ns).nfit (ns.length + r.length)
theorem nfit_all (O : Ops) : ∀ n, NfN O n
  | 0 => ⟨fun _ _ _ => trivial, fun _ _ _ _ _ => trivial, fun _ _ _ => trivial, fun _ _ _ => trivial, fun _ _ _ => trivial, fun _ _ _ _ => trivial, fun _ _ _ _ => trivial⟩
  | n + 1 => by
    have ih := nfit_all O n
    refine ⟨fun most r ns => ?_, fun most t p r ns => ?_, fun most r ns => ?_, fun t r ns => ?_, fun s r ns => ?_, fun lim acc r ns => ?_, fun s most r ns => ?_⟩
    · have h1 := ih.oper most r ns
      simp only [termN]
      cases ho : operN O n most r ns with
      | bad q => exact trivial
      | ok a q ms =>
        rw [ho] at h1
        exact nfit_le (ih.loop most a.1 a.2 q ms) h1
    · simp only [loopN]
      cases hi : infixF O r with
      | none => exact Nat.le_refl _
      | some o =>
        simp only
        split
        · exact Nat.le_refl _
        · have h1 := ih.term (rightI o.p o.t) r.tail ns
          cases ht : termN O n (rightI o.p o.t) r.tail ns with
          | bad q => exact trivial
          | ok u q ms =>
            rw [ht] at h1
            simp only [PR.nfit, List.length_tail] at h1
            exact nfit_le (ih.loop most (.mk 4 0 o.s [t, u]) o.p q ms) (by omega)
    · cases r with
      | nil => exact trivial
      | cons t r =>
        simp only [operN]
        split
        · exact nfit_le (ih.brac t r ns) (by simp)
        · split
          · exact trivial
          · split
            · simp only [PR.nfit, List.length_cons]
              omega
            · split
              · have := varN_len t.s ns
                simp only [PR.nfit, List.length_cons]
                omega
              · split
                · exact nfit_le (ih.named _ r ns) (by simp)
                · exact nfit_le (ih.sign _ _ r ns) (by simp)
    · simp only [bracN]
      split
      · have h1 := ih.term 1200 r ns
        cases ht : termN O n 1200 r ns with
        | bad q => exact trivial
        | ok u q ms => rw [ht] at h1; exact nfit_want h1
      · split
        · split
          · exact nfit_le (ih.named nilB r.tail ns) (by simp)
          · have h1 := ih.row false [] r ns
            cases ht : rowN O n false [] r ns with
            | bad q => exact trivial
            | ok l q ms =>
              rw [ht] at h1
              simp only
              split
              · have h2 := ih.term 999 q.tail ms
                cases hu : termN O n 999 q.tail ms with
                | bad q2 => exact trivial
                | ok u q2 m2 =>
                  rw [hu] at h2
                  simp only [PR.nfit, List.length_tail] at h1 h2
                  exact nfit_want (by omega)
              · exact nfit_want h1
        · split
          · split
            · exact nfit_le (ih.named curB r.tail ns) (by simp)
            · have h1 := ih.term 1200 r ns
              cases ht : termN O n 1200 r ns with
              | bad q => exact trivial
              | ok u q ms => rw [ht] at h1; exact nfit_want h1
          · exact trivial
    · simp only [namedN]
      split
      · have h1 := ih.row true [] r.tail ns
        cases ht : rowN O n true [] r.tail ns with
        | bad q => exact trivial
        | ok l q ms =>
          rw [ht] at h1
          simp only [PR.nfit, List.length_tail] at h1
          exact nfit_want (by omega)
      · exact Nat.le_refl _
    · have h1 := ih.term 999 r ns
      simp only [rowN]
      cases ht : termN O n 999 r ns with
      | bad q => exact trivial
      | ok u q ms =>
        rw [ht] at h1
        simp only [PR.nfit] at h1
        simp only
        split
        · split
          · exact trivial
          · exact nfit_le (ih.row lim (acc ++ [u]) q.tail ms) (by simp; omega)
        · exact h1
    · simp only [signN]
      split
      · exact ih.named s r ns
      · split
        · simp only [PR.nfit, List.length_tail]
          omega
        · cases hf : O.fp s with
          | none => exact Nat.le_refl _
          | some o =>
            simp only
            split
            · have h1 := ih.term (rightI o.p o.t) r ns
              cases ht : termN O n (rightI o.p o.t) r ns with
              | bad q => exact trivial
              | ok u q ms => rw [ht] at h1; exact h1
            · exact Nat.le_refl _
/-- A reading is of a size that can be looked at. -/
structure SmallR (r : ReadV) : Prop where
  ns : r.ns.length ≤ 65537
  sz : szT r.t ≤ 65537
theorem small_zero : SmallR zeroR := ⟨by decide, by decide⟩
theorem readT_small {O : Ops} {l : List TokV} {e : Nat} (hl : l.length ≤ 65537) : SmallR (readT O l e).1 := by
  unfold readT
  have h1 := (nfit_all O (5 * l.length + 5)).term 1200 l []
  have h2 := (fit_all O (5 * l.length + 5)).term 1200 l []
  cases ht : termN O (5 * l.length + 5) 1200 l [] with
  | bad q => exact small_zero
  | ok t q ns =>
    rw [ht] at h1 h2
    simp only [PR.nfit, PR.fit, List.length_nil] at h1 h2
    simp only
    split
    · split
      · exact ⟨by show ns.length ≤ _; omega, by show szT t ≤ _; omega⟩
      · exact small_zero
    · exact small_zero
theorem clauseS_small {O : Ops} {B : List UInt8} {i : Nat} (hi : i ≤ B.length) (hB : B.length ≤ 65536) : SmallR (clauseS O B i).1 := by
  unfold clauseS
  cases hx : ctoks B i with
  | error p => exact small_zero
  | ok p =>
    obtain ⟨l, k⟩ := p
    obtain ⟨hL, _, _⟩ := ctoks_ok hi hB hx
    exact readT_small hL.len
theorem allRN_small {O : Ops} {B : List UInt8} (hB : B.length ≤ 65536) : ∀ (n : Nat) {i : Nat} {acc : List ReadV}, i ≤ B.length → acc.length ≤ i → (∀ r ∈ acc, SmallR r) → (∀ r ∈ (allRN O n B i acc).1, SmallR r) ∧ (allRN O n B i acc).1.length ≤ B.length
  | 0, i, acc, hi, ha, h => ⟨h, by show acc.length ≤ _; omega⟩
  | n + 1, i, acc, hi, ha, h => by
    simp only [allRN]
    split
    · next h0 =>
      obtain ⟨k, hk, h1, h2⟩ := clauseS_ok hi hB h0
      rw [hk, Int.toNat_natCast]
      exact allRN_small hB n h2 (by simp; omega) (fun r hr => by
        rcases List.mem_append.1 hr with hr | hr
        · exact h r hr
        · simp at hr
          subst hr
          exact clauseS_small hi hB)
    · split
      · exact ⟨h, by show acc.length ≤ _; omega⟩
      · exact ⟨h, by show acc.length ≤ _; omega⟩
theorem allR_small {O : Ops} {B : List UInt8} (hB : B.length ≤ 65536) : (∀ r ∈ (allR O B).1, SmallR r) ∧ (allR O B).1.length ≤ B.length :=
  allRN_small hB _ (Nat.zero_le _) (Nat.zero_le _) (fun r hr => by simp at hr)
end Go.El
