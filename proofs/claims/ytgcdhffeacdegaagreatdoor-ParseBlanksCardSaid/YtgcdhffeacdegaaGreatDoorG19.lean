/- Layer 6, the reference: rows of terms that are there; Int, Var, Atom, Comp. -/
import Derived.Test.YtgcdhffeacdegaaGreatDoorG17
import Derived.Test.YtgcdhffeacdegaaGreatDoorG15
import Derived.Test.YtgcdhffeacdegaaGreatDoorG08
import Derived.Test.YtgcdhffeacdegaaGreatDoorG09
import Derived.Lib.AppendStr
import Derived.Lib.OwnKind
import Derived.Lib.Builder
import Derived.Lib.UnsafeStr
import Derived.Shelf.RegionOpenPlain
import Derived.Test.YtgcdhffeacdegaaGreatDoorG04
import Derived.Deep.RegionLaw
import Derived.Lib.AppendIntMem
import Derived.Test.YtgcdhffeacdegaaGreatDoorG02
import Derived.Carry
import Derived.ProofKit
import Derived.OpenShut
import Derived.LaidMore
import Derived.Lib.LaidTab
import Derived.Lib.SmallJoins
import Derived.Deep.DeepHandedRow
import Derived.Deep.Slices
import Derived.Deep.Fields
namespace Go.Proofs.YtgcdhffeacdegaaGreatDoor
open Go.RowKit Go.El

/-- Terms that lie in a row. -/
theorem src_tm {w : World} {A : Option Addr} {c : Nat} {M : List TmP} {D : Nat → Prop} (hs : El.Src w A M.length 4 (flat tmC M)) (hk : ∀ p ∈ M, TmIn D w p.1 p.2.1 p.2.2) (hD : ∀ b off, A = some ⟨b, off, none⟩ → D b) (hc : M.length ≤ c) (k n : Int) (s : ByteArray) : TmIn D w (.mk k n s (M.map (·.1))) A c := by
  refine .mk k n s _ A c (M.map (·.2)) (by simp) (fun j t q ht hq => ?_) (fun hne => ?_) (by simpa using hc)
  · rw [List.getElem?_map] at ht hq
    cases hp : M[j]? with
    | none => rw [hp] at ht; simp at ht
    | some p =>
      rw [hp] at ht hq
      simp at ht hq
      subst ht hq
      exact hk p (List.mem_of_getElem? hp)
  · have hlen : 0 < M.length := by
      rcases M with _ | ⟨p, M⟩
      · simp at hne
      · simp
    obtain ⟨b, off, rfl, hcell⟩ := Src.form hs hlen (by omega)
    refine ⟨b, off, rfl, hD b off rfl, fun j t q ht hq => ?_⟩
    rw [List.getElem?_map] at ht hq
    cases hp : M[j]? with
    | none => rw [hp] at ht; simp at ht
    | some p =>
      rw [hp] at ht hq
      simp at ht hq
      subst ht hq
      refine ⟨?_, ?_, ?_, ?_⟩
      · exact hcell (j * 4) _ ((flat_at tmC_len M j 0 p hp (by omega)).trans rfl)
      · exact hcell (j * 4 + 1) _ ((flat_at tmC_len M j 1 p hp (by omega)).trans rfl)
      · exact hcell (j * 4 + 2) _ ((flat_at tmC_len M j 2 p hp (by omega)).trans rfl)
      · exact hcell (j * 4 + 3) _ ((flat_at tmC_len M j 3 p hp (by omega)).trans rfl)
theorem own_empty (X : World) (t : TypeId) (k : Nat) : (X.alloc (.cells #[] t)).ownsRow 0 t k (.slice (some ⟨X.heap.size, 0, none⟩) 0 0) 0 [] := World.ownsRow_lit X #[] 0 (Nat.zero_le _) (by unfold maxLen; omega) (by simp)
theorem own_cap {w : World} {A : Option Addr} {n c : Nat} {t : TypeId} {k : Nat} {xs : List Value} (h : w.ownsRow 0 t k (.slice A n c) n xs) : n ≤ c := by
  rcases h.2 with ⟨h1, h2⟩ | ⟨g', cap', cur, hv, _, _, hnc, _⟩
  · simp only [Value.slice.injEq] at h1
    omega
  · injection hv with _ _ hc
    subst hc
    simpa using hnc

set_option maxRecDepth 100000 in
theorem refVar_any (n : Int) (w : World) :
    Calls Tryz.prog 34 #[.int .i64 n] w fun e w' => e = .returned (.agg #[.int .i64 1, .int .i64 n, .string ⟨#[]⟩, .slice none 0 0]) ∧ Ext w w' := by
  go_enter Tryz.func34, Tryz.ntmps34
  go_wp2_with fail
  have hE := (Ext.refl w).alloc (.cells #[.int .i64 1, .int .i64 n, .string ⟨#[]⟩, .slice none 0 0] 32)
  have hB := Blk.new w 32 #[.int .i64 1, .int .i64 n, .string ⟨#[]⟩, .slice none 0 0]
  generalize w.alloc (.cells #[.int .i64 1, .int .i64 n, .string ⟨#[]⟩, .slice none 0 0] 32) = V at hE hB ⊢
  have r0 : V.cell? ⟨w.heap.size, 0, none⟩ = some (.int .i64 1) := hB.cell 0
  have r1 : V.cell? ⟨w.heap.size, 1, none⟩ = some (.int .i64 n) := hB.cell 1
  have r2 : V.cell? ⟨w.heap.size, 2, none⟩ = some (.string ⟨#[]⟩) := hB.cell 2
  have r3 : V.cell? ⟨w.heap.size, 3, none⟩ = some (.slice none 0 0) := hB.cell 3
  refine bodyPost_ret (v := .agg #[.int .i64 1, .int .i64 n, .string ⟨#[]⟩, .slice none 0 0]) (by simp [results, Tryz.results34, go_sem, r0, r1, r2, r3]) rfl ⟨rfl, hE⟩
set_option maxRecDepth 100000 in
theorem refInt_any (n : Int) (w : World) :
    Calls Tryz.prog 35 #[.int .i64 n] w fun e w' => e = .returned (.agg #[.int .i64 2, .int .i64 n, .string ⟨#[]⟩, .slice none 0 0]) ∧ Ext w w' := by
  go_enter Tryz.func35, Tryz.ntmps35
  go_wp2_with fail
  have hE := (Ext.refl w).alloc (.cells #[.int .i64 2, .int .i64 n, .string ⟨#[]⟩, .slice none 0 0] 32)
  have hB := Blk.new w 32 #[.int .i64 2, .int .i64 n, .string ⟨#[]⟩, .slice none 0 0]
  generalize w.alloc (.cells #[.int .i64 2, .int .i64 n, .string ⟨#[]⟩, .slice none 0 0] 32) = V at hE hB ⊢
  have r0 : V.cell? ⟨w.heap.size, 0, none⟩ = some (.int .i64 2) := hB.cell 0
  have r1 : V.cell? ⟨w.heap.size, 1, none⟩ = some (.int .i64 n) := hB.cell 1
  have r2 : V.cell? ⟨w.heap.size, 2, none⟩ = some (.string ⟨#[]⟩) := hB.cell 2
  have r3 : V.cell? ⟨w.heap.size, 3, none⟩ = some (.slice none 0 0) := hB.cell 3
  refine bodyPost_ret (v := .agg #[.int .i64 2, .int .i64 n, .string ⟨#[]⟩, .slice none 0 0]) (by simp [results, Tryz.results35, go_sem, r0, r1, r2, r3]) rfl ⟨rfl, hE⟩
set_option maxRecDepth 100000 in
theorem refAtom_any (s : ByteArray) (w : World) :
    Calls Tryz.prog 36 #[.string s] w fun e w' => e = .returned (.agg #[.int .i64 3, .int .i64 0, .string s, .slice none 0 0]) ∧ Ext w w' := by
  go_enter Tryz.func36, Tryz.ntmps36
  go_wp2_with fail
  have hE := (Ext.refl w).alloc (.cells #[.int .i64 3, .int .i64 0, .string s, .slice none 0 0] 32)
  have hB := Blk.new w 32 #[.int .i64 3, .int .i64 0, .string s, .slice none 0 0]
  generalize w.alloc (.cells #[.int .i64 3, .int .i64 0, .string s, .slice none 0 0] 32) = V at hE hB ⊢
  have r0 : V.cell? ⟨w.heap.size, 0, none⟩ = some (.int .i64 3) := hB.cell 0
  have r1 : V.cell? ⟨w.heap.size, 1, none⟩ = some (.int .i64 0) := hB.cell 1
  have r2 : V.cell? ⟨w.heap.size, 2, none⟩ = some (.string s) := hB.cell 2
  have r3 : V.cell? ⟨w.heap.size, 3, none⟩ = some (.slice none 0 0) := hB.cell 3
  refine bodyPost_ret (v := .agg #[.int .i64 3, .int .i64 0, .string s, .slice none 0 0]) (by simp [results, Tryz.results36, go_sem, r0, r1, r2, r3]) rfl ⟨rfl, hE⟩

set_option maxRecDepth 100000 in
set_option maxHeartbeats 4000000 in
theorem refComp_any (s : ByteArray) (M : List TmP) (A : Option Addr) (c : Nat) (w : World) (D : Nat → Prop) (hs : El.Src w A M.length 4 (flat tmC M)) (hk : ∀ p ∈ M, TmIn D w p.1 p.2.1 p.2.2) (hn : M ≠ []) (hl : M.length ≤ 1000) (hD : ∀ k, D k → k < w.heap.size) :
    Calls Tryz.prog 33 #[.string s, .slice A M.length c] w fun e w' => ∃ A' c', e = .returned (.agg #[.int .i64 4, .int .i64 0, .string s, .slice A' M.length c']) ∧ TmIn (fun k => D k ∨ (w.heap.size ≤ k ∧ k < w'.heap.size)) w' (.mk 4 0 s (M.map (·.1))) A' c' ∧ Ext w w' := by
  obtain ⟨i1, hi1, hz0, hz1, hz2⟩ := infoP tmInfo4
  have q1 : ((M.length : Int) == 0) = false := by
    have : M.length ≠ 0 := fun e => hn (List.eq_nil_of_length_eq_zero e)
    simpa using this
  have HO := Lib.hid (own_empty (w.alloc (.cells #[.int .i64 0, .int .i64 0, .string ⟨#[]⟩, .slice none 0 0] 32)) 32 4)
  rw [World.size_alloc] at HO
  have HS := Lib.hid (hs.ext (((Ext.refl w).alloc (.cells #[.int .i64 0, .int .i64 0, .string ⟨#[]⟩, .slice none 0 0] 32)).alloc (.cells #[] 32)))
  have hone : ∀ u ∈ flat tmC M, u.oneCell' = true := fun u hu => by
    obtain ⟨p, _, h⟩ := List.mem_flatMap.1 hu
    exact tmC_one p u h
  have HONE := Lib.hid hone
  have HK := Lib.hid hk
  have HD := Lib.hid hD
  clear hs hn hone hk hD
  go_enter Tryz.func33, Tryz.ntmps33
  go_wp2_with (at_builtin; refine wpList_append_src (P := Tryz.prog) rfl (.tmp 11) (.tmp 12) 30 rfl 32 i1 _ 4 56 Tryz.underlying30 hi1 hz0 hz1 hz2 rfl (by omega) (.slice (some ⟨w.heap.size + 1, 0, none⟩) 0 0) rfl _ _ _ rfl 0 [] HO.out (flat tmC M) HS.out HONE.out (by unfold maxLen; omega) (by omega) ?_; intro v3 w3 ho3 hm3 hb3; rw [Nat.zero_add, List.nil_append] at ho3; obtain ⟨A3, c3, rfl⟩ := own_value ho3; have hB3 := ((Blk.new w 32 #[.int .i64 0, .int .i64 0, .string ⟨#[]⟩, .slice none 0 0]).alloc (.cells #[] 32)).mods hm3 (by simp [ownL, Value.ownBlock]); have zc := hB3.cell; have zf := hB3.frozen; have HO3 := Lib.hid ho3; have HM3 := Lib.hid hm3; have HB3 := Lib.hid hB3; have HV3 := Lib.hid hb3; clear ho3 hm3 hB3 hb3)
  have hbf := (((HB3.out.set_ 0 (.int .i64 4)).set_ 1 (.int .i64 0)).set_ 2 (.string s)).set_ 3 (.slice A3 M.length c3)
  have hlt := HB3.out.lt
  have hown : ∀ k, (Value.slice A3 M.length c3).ownBlock = some k → w.heap.size + 1 ≤ k ∧ k < w3.heap.size := fun k e => by
    refine ⟨?_, (HO3.out.lt k e).2⟩
    rcases HV3.out with h | h
    · rw [h] at e
      simp [Value.ownBlock] at e
      omega
    · rw [h] at e
      simp [World.size_alloc] at e
      omega
  have hE3 : Ext w w3 := ext_mods (((Ext.refl w).alloc _).alloc _) HM3.out (fun k hk => by simp [ownL, Value.ownBlock] at hk; omega)
  have hno : (Value.slice A3 M.length c3).ownBlock ≠ some w.heap.size := fun e => by have := (hown _ e).1; omega
  have hO := ownsRow_setCell_other (ownsRow_setCell_other (ownsRow_setCell_other (ownsRow_setCell_other HO3.out (a := ⟨w.heap.size, 0, none⟩) hno (.int .i64 4)) (a := ⟨w.heap.size, 1, none⟩) hno (.int .i64 0)) (a := ⟨w.heap.size, 2, none⟩) hno (.string s)) (a := ⟨w.heap.size, 3, none⟩) hno (.slice A3 M.length c3)
  have hEF := (((hE3.setCell (p := ⟨w.heap.size, 0, none⟩) (by simp) (.int .i64 4)).setCell (p := ⟨w.heap.size, 1, none⟩) (by simp) (.int .i64 0)).setCell (p := ⟨w.heap.size, 2, none⟩) (by simp) (.string s)).setCell (p := ⟨w.heap.size, 3, none⟩) (by simp) (.slice A3 M.length c3)
  have hsz : ((((w3.setCell ⟨w.heap.size, 0, none⟩ (.int .i64 4)).setCell ⟨w.heap.size, 1, none⟩ (.int .i64 0)).setCell ⟨w.heap.size, 2, none⟩ (.string s)).setCell ⟨w.heap.size, 3, none⟩ (.slice A3 M.length c3)).heap.size = w3.heap.size := by simp
  generalize (((w3.setCell ⟨w.heap.size, 0, none⟩ (.int .i64 4)).setCell ⟨w.heap.size, 1, none⟩ (.int .i64 0)).setCell ⟨w.heap.size, 2, none⟩ (.string s)).setCell ⟨w.heap.size, 3, none⟩ (.slice A3 M.length c3) = VF at hbf hO hEF hsz ⊢
  have r0 : VF.cell? ⟨w.heap.size, 0, none⟩ = some (.int .i64 4) := hbf.cell 0
  have r1 : VF.cell? ⟨w.heap.size, 1, none⟩ = some (.int .i64 0) := hbf.cell 1
  have r2 : VF.cell? ⟨w.heap.size, 2, none⟩ = some (.string s) := hbf.cell 2
  have r3 : VF.cell? ⟨w.heap.size, 3, none⟩ = some (.slice A3 M.length c3) := hbf.cell 3
  refine bodyPost_ret (v := .agg #[.int .i64 4, .int .i64 0, .string s, .slice A3 M.length c3]) (by simp [results, Tryz.results33, go_sem, r0, r1, r2, r3]) rfl ⟨A3, c3, rfl, ?_, hEF⟩
  refine src_tm (Src.of_own hO) (fun p hp => ((HK.out p hp).ext hEF).mono (fun k hk => .inl hk)) (fun b off e => ?_) (own_cap hO) 4 0 s
  subst e
  have := hown b rfl
  exact .inr ⟨by omega, by omega⟩

end Go.Proofs.YtgcdhffeacdegaaGreatDoor

/- Layer 11, the program: the walks of operator, within. -/
namespace Go.Proofs.YtgcdhffeacdegaaGreatDoor
open Go.RowKit Go.El

theorem blk2b {w : World} {t t2 : TypeId} {cs cs2 : Array Value} : Blk ((w.alloc (.cells cs t)).alloc (.cells cs2 t2)) (w.heap.size + 1) t2 cs2 := by
  have := Blk.new (w.alloc (.cells cs t)) t2 cs2
  rw [World.size_alloc] at this
  exact this

end Go.Proofs.YtgcdhffeacdegaaGreatDoor

/- Layer 11, plain: two terms that may be have one canonical text just if they are the same. No program in sight. -/
namespace Go.El

end Go.El

/- Layer 11, plain: two terms that may be have one canonical text just if they are the same. No program in sight. -/
namespace Go.El

theorem bytes_ext {s s' : ByteArray} (h : s.data.toList = s'.data.toList) : s = s' := by
  rw [← Lib.mk_data s, ← Lib.mk_data s', h]

mutual
def exT : Tm → Tm → Bool
  | .mk k n s l, .mk k' n' s' l' => decide (k = k' ∧ n = n' ∧ s = s' ∧ l.length = l'.length) && exL l l'
def exL : List Tm → List Tm → Bool
  | a :: l, b :: l' => exT a b && exL l l'
  | _, _ => true
end
mutual
theorem exT_refl : ∀ t, exT t t = true
  | .mk k n s l => by simp only [exT, and_self, decide_true, Bool.true_and]; exact exL_refl l
theorem exL_refl : ∀ l, exL l l = true
  | [] => rfl
  | a :: l => by simp only [exL, exT_refl a, exL_refl l, Bool.and_self]
end
end Go.El

/- Layer 11, the program: the walks of done, written, Canon, Text, Clause. -/
namespace Go.El

end Go.El
namespace Go.Proofs.YtgcdhffeacdegaaGreatDoor
open Go.RowKit Go.El

/-- Operators that are there. -/
def OpsAt (w : World) : OpsV → Value → Prop
  | none, op => op = .pointer none
  | some (I, Q), op => ∃ tb m1 m2, op = .pointer (some ⟨tb, 0, none⟩) ∧ TabAt w tb m1 m2 I Q ∧ (∀ p : OpV, p ∈ I ∨ p ∈ Q → -1000000 ≤ p.p ∧ p.p ≤ 1000000)
theorem OpsAt.ext {w w' : World} {o : OpsV} {op : Value} (h : OpsAt w o op) (x : Ext w w') : OpsAt w' o op := by
  cases o with
  | none => exact h
  | some q =>
    obtain ⟨I, Q⟩ := q
    obtain ⟨tb, m1, m2, e, ht, hp⟩ := h
    exact ⟨tb, m1, m2, e, ht.ext x, hp⟩
end Go.Proofs.YtgcdhffeacdegaaGreatDoor

/- A law's frame: what came in reads as it did; nothing that was there has turned. Over any program. -/
namespace Go.El
open Go.RowKit Go.ChangeShapes Go.WideShapes Go.ChangeAt Go.Deep Go.Joins

section
variable {H : Type} {enc : TypeId × Value → H} {P : Program} {W W' : World}

def readsB (P : Program) (ts : List TypeId) : Bool := ts.all fun t => P.readableRec t && decide (t < P.types.size)

theorem trodAll_law (hl : laidOutB P = true) {sp : Nat → Bool} (hb : Ext W W') : ∀ {ts : List TypeId} {vs : List Value} {ds : List (DataW H)} {ps : List MemPlace}, readsB P ts = true → DataW.TrodAll enc P W 0 (fun _ => true) true ts vs ds ps →
    (∀ x ∈ ps, x.block < W.heap.size) → (∀ x ∈ ps, sp x.block = true) → DataW.TrodAll enc P W' 0 sp true ts vs ds ps
  | [], _, _, _, _, h, _, _ => by
    obtain ⟨rfl, rfl, rfl⟩ := trodAll_nil h
    exact trodAll_mk0
  | t :: ts, _, _, _, hr, h, hlt, hs => by
    obtain ⟨v, vs, d, ds, p, q, rfl, rfl, rfl, h1, h2⟩ := trodAll_cons h
    simp only [readsB, List.all_cons, Bool.and_eq_true, decide_eq_true_eq] at hr
    exact trodAll_cons_mk (WideElems.Trod_stays hl hr.1.1 hr.1.2 h1 (fun x hx => hb.same (hlt x (List.mem_append_left _ hx))) (fun x hx => hs x (List.mem_append_left _ hx)))
      (trodAll_law hl hb (by simpa [readsB] using hr.2) h2 (fun x hx => hlt x (List.mem_append_right _ hx)) (fun x hx => hs x (List.mem_append_right _ hx)))

theorem post_law {f : Func} {s : ChangeSpec} {args : Array Value} {ds gs : List (DataW H)} {before : List MemPlace} {tb : TypeId} (hl : laidOutB P = true) (hr : readsB P f.params.toList = true) (hv : s.vars = [])
    (hres : f.resultTypes = #[tb]) (htb : P.underlying tb = some .bool) (hW : DataW.Whole enc P f.params.toList s.vars false W args.toList ds gs before) (hs : s.fn H (ds ++ gs) = { results := [.lit (.bool true)], args := ds }) (hb : Ext W W') :
    s.post enc P f false true false false W args (.bool true) W' := by
  have hold : ∀ p ∈ before, p.block < W.heap.size := fun p hp => hW.lt p hp
  obtain ⟨p, q, hA, hV, rfl, hz, hn⟩ := id hW
  rw [hv] at hV
  obtain ⟨rfl, rfl⟩ := trodVars_none hV
  refine ⟨ds, [], p ++ [], [], p, [], hW, ?_, ?_, ?_, hb.frame _, fun h => by cases h⟩
  · rw [hs, hres]
    exact trodAll_cons_mk (shut_bool htb _) trodAll_mk0
  · rw [hs]
    exact trodAll_law hl hb hr hA (fun x hx => hold x (by simpa using hx)) (fun x hx => by simpa using hold x (by simpa using hx))
  · rw [hs, hv]
    rfl

/-- From a table of strings that is listed to its cells. -/
theorem cells_of_strs {base : Nat} {sp : Nat → Bool} {held : Bool} {fuel : Nat} {t e : TypeId} {n : Nat} {cs : List Value} {ls : List (List UInt8)} {p : List MemPlace}
    (ht : P.underlying t = some (.array n e)) (he : P.underlying e = some .string) (hce : P.cellsOf e = 1) (hct : P.cellsOf t = n)
    (h : DataW.trod enc P W base sp held fuel t cs = some (.agg (ls.map fun l => .lit (.string l)), p)) : cs = ls.map fun l => Value.string ⟨l.toArray⟩ := by
  obtain ⟨xs, m, rfl, hx, hlen, hxl, hat⟩ := DataW.trod_array ht h
  simp only [Prod.mk.injEq, DataW.agg.injEq] at hx
  have hxs : xs.map (·.1) = ls.map fun l => (DataW.lit (.string l) : DataW H) := hx.1.symm
  have hll : ls.length = n := by
    have := congrArg List.length hxs
    simp at this
    omega
  rw [hct] at hlen
  apply List.ext_getElem?
  intro i
  by_cases hi : i < n
  · have h1 := hat i hi
    rw [List.getElem?_eq_getElem (by omega)] at h1
    obtain ⟨s, hc, hxi, _⟩ := DataW.trod_string he h1
    rw [hce, Nat.mul_one] at hc
    have h2 : cs[i]? = some (.string s) := by
      have := congrArg (·[0]?) hc
      simpa [List.getElem?_take, List.getElem?_drop] using this
    have h3 : (xs.map (·.1))[i]? = some (DataW.lit (.string s.data.toList) : DataW H) := by simp [hxi, (by omega : i < xs.length)]
    rw [hxs] at h3
    simp only [List.getElem?_map, Option.map_eq_some_iff, DataW.lit.injEq, Lit.string.injEq] at h3
    obtain ⟨l, hl, rfl⟩ := h3
    simp [h2, hl]
  · rw [List.getElem?_eq_none (by omega), List.getElem?_eq_none (by simp; omega)]

end

theorem list_of_all {α : Type} {p : Nat → α → Prop} : ∀ (n : Nat), (∀ i, i < n → ∃ x, p i x) → ∃ L : List α, L.length = n ∧ ∀ i x, L[i]? = some x → p i x
  | 0, _ => ⟨[], rfl, fun i x h => by simp at h⟩
  | n + 1, h => by
    obtain ⟨L, hl, hp⟩ := list_of_all n (fun i hi => h i (by omega))
    obtain ⟨x, hx⟩ := h n (by omega)
    refine ⟨L ++ [x], by simp [hl], fun i y hy => ?_⟩
    by_cases hi : i < n
    · rw [List.getElem?_append_left (by omega)] at hy
      exact hp i y hy
    · rw [List.getElem?_append_right (by omega)] at hy
      have : i - L.length = 0 := by
        rcases Nat.eq_zero_or_pos (i - L.length) with h | h
        · exact h
        · rw [List.getElem?_eq_none (by simp; omega)] at hy
          cases hy
      rw [this] at hy
      simp at hy
      subst hy
      have : i = n := by omega
      subst this
      exact hx

theorem src_of_cells {α : Type} {enc : α → List Value} {k : Nat} (hk : ∀ x, (enc x).length = k) (h0 : 0 < k) {w : World} {a : Addr} {L : List α} (h : ∀ i x, L[i]? = some x → ∀ j u, (enc x)[j]? = some u → w.cell? (a.add (i * k + j)) = some u) : Src w (some a) L.length k (flat enc L) :=
  ⟨flat_len hk L, fun _ => ⟨a, rfl, fun j u hu => by
    have hj : j < L.length * k := by
      have := (List.getElem?_eq_some_iff.1 hu).1
      rwa [flat_len hk] at this
    have hi : j / k < L.length := (Nat.div_lt_iff_lt_mul h0).2 hj
    have e : j = j / k * k + j % k := by rw [Nat.mul_comm]; exact (Nat.div_add_mod j k).symm
    have hx : L[j / k]? = some L[j / k] := List.getElem?_eq_getElem hi
    have := flat_at hk L (j / k) (j % k) _ hx (Nat.mod_lt _ h0)
    rw [← e, hu] at this
    have h2 := h _ _ hx _ _ this.symm
    rwa [← e] at h2⟩⟩

section
variable {H : Type} {enc : TypeId × Value → H} {P : Program} {w : World} {base : Nat} {spare : Nat → Bool} {held : Bool}
end

end Go.El
