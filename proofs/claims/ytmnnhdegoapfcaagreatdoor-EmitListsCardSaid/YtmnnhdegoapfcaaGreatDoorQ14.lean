/- Rows of terms that a call gathers. -/
import Derived.Test.YtmnnhdegoapfcaaGreatDoorQ13
import Derived.Test.YtmnnhdegoapfcaaGreatDoorQ03
import Derived.Test.YtmnnhdegoapfcaaGreatDoorQ05
import Derived.Test.YtmnnhdegoapfcaaGreatDoorQ02
import Derived.Test.YtmnnhdegoapfcaaGreatDoorQ01
import Derived.Laws.BytesArg
import Derived.Laws.IdiomStrings
import Derived.Lib.ConvBytes
import Derived.OwnWalk
import Derived.Deep.RegionLaw
import Derived.Lib.Hide
import Derived.Deep.RegionHeld3
import Derived.Test.YtmnnhdegoapfcaaGreatDoorQ12
import Derived.Great.Walk
import Derived.Laws.OwnMore
namespace Go.El
open Go.RowKit
abbrev TmP := Tm × Option Addr × Nat
def tmC (p : TmP) : List Value := [.int .i64 p.1.k, .int .i64 p.1.n, .string p.1.s, .slice p.2.1 p.1.l.length p.2.2]
theorem tmC_len (p : TmP) : (tmC p).length = 4 := rfl
theorem tmC_one (p : TmP) : ∀ u ∈ tmC p, u.oneCell' = true := by
 intro u hu
 simp only [tmC, List.mem_cons, List.not_mem_nil, or_false] at hu
 rcases hu with rfl | rfl | rfl | rfl <;> rfl
end Go.El

/- Layer 6, the program: the walks of Var, build (of Var), Clone. -/
namespace Go.Proofs.YtmnnhdegoapfcaaGreatDoor
open Go.RowKit Go.El
set_option maxRecDepth 100000 in
theorem var_any (n : Int) (w : World) :
  Calls Tryz.prog 220 #[.int .i64 n] w fun e w' => e = .returned (.agg #[.int .i64 1, .int .i64 n, .string ⟨#[]⟩, .slice none 0 0]) ∧ Ext w w' := by
 go_enter Tryz.func220, Tryz.ntmps220
 go_wp2_with fail
 have hE := (Ext.refl w).alloc (.cells #[.int .i64 1, .int .i64 n, .string ⟨#[]⟩, .slice none 0 0] 30)
 have hB := Blk.new w 30 #[.int .i64 1, .int .i64 n, .string ⟨#[]⟩, .slice none 0 0]
 generalize w.alloc (.cells #[.int .i64 1, .int .i64 n, .string ⟨#[]⟩, .slice none 0 0] 30) = V at hE hB ⊢
 have r0 : V.cell? ⟨w.heap.size, 0, none⟩ = some (.int .i64 1) := hB.cell 0
 have r1 : V.cell? ⟨w.heap.size, 1, none⟩ = some (.int .i64 n) := hB.cell 1
 have r2 : V.cell? ⟨w.heap.size, 2, none⟩ = some (.string ⟨#[]⟩) := hB.cell 2
 have r3 : V.cell? ⟨w.heap.size, 3, none⟩ = some (.slice none 0 0) := hB.cell 3
 refine bodyPost_ret (v := .agg #[.int .i64 1, .int .i64 n, .string ⟨#[]⟩, .slice none 0 0]) (by simp [results, Tryz.results220, go_sem, r0, r1, r2, r3]) rfl ⟨rfl, hE⟩
theorem blk3 {w : World} {t : TypeId} {cs cs2 cs3 : Array Value} : Blk (((w.alloc (.cells cs t)).alloc (.cells cs2 t)).alloc (.cells cs3 t)) (w.heap.size + 1 + 1) t cs3 := by
 have := Blk.new ((w.alloc (.cells cs t)).alloc (.cells cs2 t)) t cs3
 rw [World.size_alloc, World.size_alloc] at this
 exact this
theorem blk2 {w : World} {t : TypeId} {cs cs2 cs3 : Array Value} : Blk (((w.alloc (.cells cs t)).alloc (.cells cs2 t)).alloc (.cells cs3 t)) (w.heap.size + 1) t cs2 := by
 have := (Blk.new (w.alloc (.cells cs t)) t cs2).alloc (.cells cs3 t)
 rw [World.size_alloc] at this
 exact this
theorem tmInfo4 : (Tryz.prog.info? 30).map (fun i => (i.zero, i.size, i.bytes)) = some (some (.agg #[.int .i64 0, .int .i64 0, .string ⟨#[]⟩, .slice none 0 0]), 4, 56) := by kernel_rfl
end Go.Proofs.YtmnnhdegoapfcaaGreatDoor

/- Layer 6, the reference: rows of terms that are there; Int, Var, Atom, Comp. -/
namespace Go.Proofs.YtmnnhdegoapfcaaGreatDoor
open Go.RowKit Go.El
theorem src_tm {w : World} {A : Option Addr} {c : Nat} {M : List TmP} {D : Nat → Prop} (hs : El.Src w A M.length 4 (flat tmC M)) (hk : ∀ p ∈ M, TmIn D w p.1 p.2.1 p.2.2) (hD : ∀ b off, A = some ⟨b, off, none⟩ → D b) (hc : M.length ≤ c) (k n : Int) (s : ByteArray) : TmIn D w (.mk k n s (M.map (·.1))) A c := by
 refine .mk k n s _ A c (M.map (·.2)) (by simp) (fun j t q ht hq => ?_) (fun hne => ?_) (by simpa using hc)
 ·rw [List.getElem?_map] at ht hq
  cases hp : M[j]? with
  | none => rw [hp] at ht; simp at ht
  | some p =>
   rw [hp] at ht hq
   simp at ht hq
   subst ht hq
   exact hk p (List.mem_of_getElem? hp)
 ·have hlen : 0 < M.length := by
   rcases M with _ | ⟨p, M⟩
   ·simp at hne
   ·simp
  obtain ⟨b, off, rfl, hcell⟩ := Src.form hs hlen (by omega)
  refine ⟨b, off, rfl, hD b off rfl, fun j t q ht hq => ?_⟩
  rw [List.getElem?_map] at ht hq
  cases hp : M[j]? with
  | none => rw [hp] at ht; simp at ht
  | some p =>
   rw [hp] at ht hq
   simp at ht hq
   subst ht hq
   refine ⟨?_, ?_, ?_, ?_⟩
   ·exact hcell (j * 4) _ ((flat_at tmC_len M j 0 p hp (by omega)).trans rfl)
   ·exact hcell (j * 4 + 1) _ ((flat_at tmC_len M j 1 p hp (by omega)).trans rfl)
   ·exact hcell (j * 4 + 2) _ ((flat_at tmC_len M j 2 p hp (by omega)).trans rfl)
   ·exact hcell (j * 4 + 3) _ ((flat_at tmC_len M j 3 p hp (by omega)).trans rfl)
theorem own_empty (X : World) (t : TypeId) (k : Nat) : (X.alloc (.cells #[] t)).ownsRow 0 t k (.slice (some ⟨X.heap.size, 0, none⟩) 0 0) 0 [] := World.ownsRow_lit X #[] 0 (Nat.zero_le _) (by unfold maxLen; omega) (by simp)
theorem own_cap {w : World} {A : Option Addr} {n c : Nat} {t : TypeId} {k : Nat} {xs : List Value} (h : w.ownsRow 0 t k (.slice A n c) n xs) : n ≤ c := by
 rcases h.2 with ⟨h1, h2⟩ | ⟨g', cap', cur, hv, _, _, hnc, _⟩
 ·simp only [Value.slice.injEq] at h1
  omega
 ·injection hv with _ _ hc
  subst hc
  simpa using hnc
set_option maxRecDepth 100000 in
theorem refVar_any (n : Int) (w : World) :
  Calls Tryz.prog 17 #[.int .i64 n] w fun e w' => e = .returned (.agg #[.int .i64 1, .int .i64 n, .string ⟨#[]⟩, .slice none 0 0]) ∧ Ext w w' := by
 go_enter Tryz.func17, Tryz.ntmps17
 go_wp2_with fail
 have hE := (Ext.refl w).alloc (.cells #[.int .i64 1, .int .i64 n, .string ⟨#[]⟩, .slice none 0 0] 30)
 have hB := Blk.new w 30 #[.int .i64 1, .int .i64 n, .string ⟨#[]⟩, .slice none 0 0]
 generalize w.alloc (.cells #[.int .i64 1, .int .i64 n, .string ⟨#[]⟩, .slice none 0 0] 30) = V at hE hB ⊢
 have r0 : V.cell? ⟨w.heap.size, 0, none⟩ = some (.int .i64 1) := hB.cell 0
 have r1 : V.cell? ⟨w.heap.size, 1, none⟩ = some (.int .i64 n) := hB.cell 1
 have r2 : V.cell? ⟨w.heap.size, 2, none⟩ = some (.string ⟨#[]⟩) := hB.cell 2
 have r3 : V.cell? ⟨w.heap.size, 3, none⟩ = some (.slice none 0 0) := hB.cell 3
 refine bodyPost_ret (v := .agg #[.int .i64 1, .int .i64 n, .string ⟨#[]⟩, .slice none 0 0]) (by simp [results, Tryz.results17, go_sem, r0, r1, r2, r3]) rfl ⟨rfl, hE⟩
set_option maxRecDepth 100000 in
set_option maxHeartbeats 4000000 in
theorem refComp_any (s : ByteArray) (M : List TmP) (A : Option Addr) (c : Nat) (w : World) (D : Nat → Prop) (hs : El.Src w A M.length 4 (flat tmC M)) (hk : ∀ p ∈ M, TmIn D w p.1 p.2.1 p.2.2) (hn : M ≠ []) (hl : M.length ≤ 1000) (hD : ∀ k, D k → k < w.heap.size) :
  Calls Tryz.prog 24 #[.string s, .slice A M.length c] w fun e w' => ∃ A' c', e = .returned (.agg #[.int .i64 4, .int .i64 0, .string s, .slice A' M.length c']) ∧ TmIn (fun k => D k ∨ (w.heap.size ≤ k ∧ k < w'.heap.size)) w' (.mk 4 0 s (M.map (·.1))) A' c' ∧ Ext w w' := by
 obtain ⟨i1, hi1, hz0, hz1, hz2⟩ := infoP tmInfo4
 have q1 : ((M.length : Int) == 0) = false := by
  have : M.length ≠ 0 := fun e => hn (List.eq_nil_of_length_eq_zero e)
  simpa using this
 have HO := Lib.hid (own_empty (w.alloc (.cells #[.int .i64 0, .int .i64 0, .string ⟨#[]⟩, .slice none 0 0] 30)) 30 4)
 rw [World.size_alloc] at HO
 have HS := Lib.hid (hs.ext (((Ext.refl w).alloc (.cells #[.int .i64 0, .int .i64 0, .string ⟨#[]⟩, .slice none 0 0] 30)).alloc (.cells #[] 30)))
 have hone : ∀ u ∈ flat tmC M, u.oneCell' = true := fun u hu => by
  obtain ⟨p, _, h⟩ := List.mem_flatMap.1 hu
  exact tmC_one p u h
 have HONE := Lib.hid hone
 have HK := Lib.hid hk
 have HD := Lib.hid hD
 clear hs hn hone hk hD
 go_enter Tryz.func24, Tryz.ntmps24
 go_wp2_with (at_builtin; refine wpList_append_src (P := Tryz.prog) rfl (.tmp 11) (.tmp 12) 28 rfl 30 i1 _ 4 56 Tryz.underlying28 hi1 hz0 hz1 hz2 rfl (by omega) (.slice (some ⟨w.heap.size + 1, 0, none⟩) 0 0) rfl _ _ _ rfl 0 [] HO.out (flat tmC M) HS.out HONE.out (by unfold maxLen; omega) (by omega) ?_; intro v3 w3 ho3 hm3 hb3; rw [Nat.zero_add, List.nil_append] at ho3; obtain ⟨A3, c3, rfl⟩ := own_value ho3; have hB3 := ((Blk.new w 30 #[.int .i64 0, .int .i64 0, .string ⟨#[]⟩, .slice none 0 0]).alloc (.cells #[] 30)).mods hm3 (by simp [ownL, Value.ownBlock]); have zc := hB3.cell; have zf := hB3.frozen; have HO3 := Lib.hid ho3; have HM3 := Lib.hid hm3; have HB3 := Lib.hid hB3; have HV3 := Lib.hid hb3; clear ho3 hm3 hB3 hb3)
 have hbf := (((HB3.out.set_ 0 (.int .i64 4)).set_ 1 (.int .i64 0)).set_ 2 (.string s)).set_ 3 (.slice A3 M.length c3)
 have hlt := HB3.out.lt
 have hown : ∀ k, (Value.slice A3 M.length c3).ownBlock = some k → w.heap.size + 1 ≤ k ∧ k < w3.heap.size := fun k e => by
  refine ⟨?_, (HO3.out.lt k e).2⟩
  rcases HV3.out with h | h
  ·rw [h] at e
   simp [Value.ownBlock] at e
   omega
  ·rw [h] at e
   simp [World.size_alloc] at e
   omega
 have hE3 : Ext w w3 := ext_mods (((Ext.refl w).alloc _).alloc _) HM3.out (fun k hk => by simp [ownL, Value.ownBlock] at hk; omega)
 have hno : (Value.slice A3 M.length c3).ownBlock ≠ some w.heap.size := fun e => by have := (hown _ e).1; omega
 have hO := ownsRow_setCell_other (ownsRow_setCell_other (ownsRow_setCell_other (ownsRow_setCell_other HO3.out (a := ⟨w.heap.size, 0, none⟩) hno (.int .i64 4)) (a := ⟨w.heap.size, 1, none⟩) hno (.int .i64 0)) (a := ⟨w.heap.size, 2, none⟩) hno (.string s)) (a := ⟨w.heap.size, 3, none⟩) hno (.slice A3 M.length c3)
 have hEF := (((hE3.setCell (p := ⟨w.heap.size, 0, none⟩) (by simp) (.int .i64 4)).setCell (p := ⟨w.heap.size, 1, none⟩) (by simp) (.int .i64 0)).setCell (p := ⟨w.heap.size, 2, none⟩) (by simp) (.string s)).setCell (p := ⟨w.heap.size, 3, none⟩) (by simp) (.slice A3 M.length c3)
 have hsz : ((((w3.setCell ⟨w.heap.size, 0, none⟩ (.int .i64 4)).setCell ⟨w.heap.size, 1, none⟩ (.int .i64 0)).setCell ⟨w.heap.size, 2, none⟩ (.string s)).setCell ⟨w.heap.size, 3, none⟩ (.slice A3 M.length c3)).heap.size = w3.heap.size := by simp
 generalize (((w3.setCell ⟨w.heap.size, 0, none⟩ (.int .i64 4)).setCell ⟨w.heap.size, 1, none⟩ (.int .i64 0)).setCell ⟨w.heap.size, 2, none⟩ (.string s)).setCell ⟨w.heap.size, 3, none⟩ (.slice A3 M.length c3) = VF at hbf hO hEF hsz ⊢
 have r0 : VF.cell? ⟨w.heap.size, 0, none⟩ = some (.int .i64 4) := hbf.cell 0
 have r1 : VF.cell? ⟨w.heap.size, 1, none⟩ = some (.int .i64 0) := hbf.cell 1
 have r2 : VF.cell? ⟨w.heap.size, 2, none⟩ = some (.string s) := hbf.cell 2
 have r3 : VF.cell? ⟨w.heap.size, 3, none⟩ = some (.slice A3 M.length c3) := hbf.cell 3
 refine bodyPost_ret (v := .agg #[.int .i64 4, .int .i64 0, .string s, .slice A3 M.length c3]) (by simp [results, Tryz.results24, go_sem, r0, r1, r2, r3]) rfl ⟨A3, c3, rfl, ?_, hEF⟩
 refine src_tm (Src.of_own hO) (fun p hp => ((HK.out p hp).ext hEF).mono (fun k hk => .inl hk)) (fun b off e => ?_) (own_cap hO) 4 0 s
 subst e
 have := hown b rfl
 exact .inr ⟨by omega, by omega⟩
end Go.Proofs.YtmnnhdegoapfcaaGreatDoor

/- Layer 11, plain: variables are numbered as one comes to them. No program in sight. -/
namespace Go.El
def addV (n : Int) (l : List Int) : List Int := if n ∈ l then l else l ++ [n]
mutual
def vsT : Tm → List Int → List Int
 | .mk k n _ l, acc => if k = 1 then addV n acc else vsL l acc
def vsL : List Tm → List Int → List Int
 | [], acc => acc
 | a :: r, acc => vsL r (vsT a acc)
end
def plc (n : Int) : List Int → Nat
 | [] => 0
 | m :: l => if m = n then 0 else plc n l + 1
mutual
def rnT : Tm → List Int → Tm
 | .mk k n s l, acc => if k = 1 then .mk 1 (plc n (addV n acc)) ⟨#[]⟩ [] else .mk k n s (rnL l acc)
def rnL : List Tm → List Int → List Tm
 | [], _ => []
 | a :: r, acc => rnT a acc :: rnL r (vsT a acc)
end
theorem vsL_take : ∀ {l : List Tm} {j : Nat} {u : Tm} (acc : List Int), l[j]? = some u → vsL (l.take (j + 1)) acc = vsT u (vsL (l.take j) acc)
 | [], j, u, acc, h => by simp at h
 | a :: r, 0, u, acc, h => by
  simp at h
  subst h
  simp [vsL]
 | a :: r, j + 1, u, acc, h => by
  have := vsL_take (l := r) (j := j) (u := u) (vsT a acc) (by simpa using h)
  simp only [List.take_succ_cons, vsL]
  exact this
theorem rnL_take : ∀ {l : List Tm} {j : Nat} {u : Tm} (acc : List Int), l[j]? = some u → rnL (l.take (j + 1)) acc = rnL (l.take j) acc ++ [rnT u (vsL (l.take j) acc)]
 | [], j, u, acc, h => by simp at h
 | a :: r, 0, u, acc, h => by
  simp at h
  subst h
  simp [vsL, rnL]
 | a :: r, j + 1, u, acc, h => by
  have := rnL_take (l := r) (j := j) (u := u) (vsT a acc) (by simpa using h)
  simp only [List.take_succ_cons, vsL, rnL]
  rw [this]
  rfl
theorem rnL_len : ∀ (l : List Tm) (acc : List Int), (rnL l acc).length = l.length
 | [], _ => rfl
 | a :: r, acc => by simp [rnL, rnL_len r]
theorem addV_len (n : Int) (l : List Int) : (addV n l).length ≤ l.length + 1 ∧ l.length ≤ (addV n l).length := by
 unfold addV
 split
 ·omega
 ·simp
mutual
theorem vsT_len : ∀ (t : Tm) (acc : List Int), (vsT t acc).length ≤ acc.length + szT t ∧ acc.length ≤ (vsT t acc).length
 | .mk k n _ l, acc => by
  have := vsL_len l acc
  have := addV_len n acc
  simp only [vsT, szT]
  split <;> omega
theorem vsL_len : ∀ (l : List Tm) (acc : List Int), (vsL l acc).length ≤ acc.length + szL l ∧ acc.length ≤ (vsL l acc).length
 | [], acc => by simp [vsL]
 | a :: r, acc => by
  have := vsT_len a acc
  have := vsL_len r (vsT a acc)
  simp only [vsL, szL]
  omega
end
def numF (i : Nat) : List Int → List (Int × Value)
 | [] => []
 | n :: l => (n, .int .i64 (i : Int)) :: numF (i + 1) l
def numP (l : List Int) : List (Int × Value) := numF 0 l
theorem numF_find (n : Int) : ∀ (l : List Int) (i : Nat), findP n (numF i l) = if n ∈ l then some (.int .i64 ((i + plc n l : Nat) : Int)) else none
 | [], i => by simp [numF, findP]
 | m :: l, i => by
  have ih := numF_find n l (i + 1)
  simp only [numF, findP, plc]
  by_cases h : m = n
  ·simp [h]
  ·have h2 : ¬ n = m := fun e => h e.symm
   rw [if_neg h, ih]
   simp only [List.mem_cons, h2, false_or, if_neg h]
   split
   ·congr 2
    omega
   ·rfl
theorem numP_find (n : Int) (l : List Int) : findP n (numP l) = if n ∈ l then some (.int .i64 (plc n l : Int)) else none := by
 have := numF_find n l 0
 simpa [numP] using this
theorem numF_set {n : Int} : ∀ {l : List Int} {i : Nat}, n ∉ l → setP n (.int .i64 ((i + l.length : Nat) : Int)) (numF i l) = numF i (l ++ [n])
 | [], i, _ => by simp [numF, setP]
 | m :: l, i, h => by
  have h1 : m ≠ n := fun e => h (by simp [e])
  have h2 : n ∉ l := fun e => h (by simp [e])
  have ih := numF_set (l := l) (i := i + 1) h2
  simp only [numF, setP, List.cons_append, if_neg h1, List.length_cons]
  rw [← ih]
  congr 3
  simp
  omega
theorem numP_set {n : Int} {l : List Int} (h : n ∉ l) : setP n (.int .i64 (l.length : Int)) (numP l) = numP (l ++ [n]) := by
 have := numF_set (i := 0) h
 simpa [numP] using this
theorem plc_new {n : Int} : ∀ {l : List Int}, n ∉ l → plc n (l ++ [n]) = l.length
 | [], _ => by simp [plc]
 | m :: l, h => by
  have h1 : m ≠ n := fun e => h (by simp [e])
  have h2 : n ∉ l := fun e => h (by simp [e])
  simp [plc, h1, plc_new h2]
end Go.El
/- Layer 11, plain: the text of an answer. No program in sight. -/
namespace Go.El
end Go.El

/- Layers 15 and 17, plain: where a clause's variables live, and its code. No program in sight. -/
namespace Go.El
structure Cls where
 h : Tm
 gs : List (Int × Tm)
 vars : Int
def fstNo : List Int → Int
 | [] => 0
 | e :: l => if e = 0 then fstNo l else e
def mayC (c : Cls) : Int :=
 if fstNo (chkT c.h :: c.gs.map fun g => chkT g.2) ≠ 0 then fstNo (chkT c.h :: c.gs.map fun g => chkT g.2)
 else if (c.gs.any fun g => decide (g.1 < 1) || decide (4 < g.1)) = true ∨ c.h.k < 3 ∨ 64 < c.gs.length then 1 else 0
structure Spn where
 n : Int
 a : Int
 b : Int
deriving DecidableEq
def noteS (k : Int) (n : Int) : List Spn → List Spn
 | [] => [⟨n, k, k⟩]
 | x :: l => if x.n = n then { x with b := k } :: l else x :: noteS k n l
def notesS (k : Int) (ns : List Int) (l : List Spn) : List Spn := ns.foldl (fun l n => noteS k n l) l
def gathG (s : List Spn × Nat) (g : Int × Tm) : List Spn × Nat :=
 let l := if g.1 = 3 ∨ (g.1 = 2 ∧ 0 < s.2) then noteS s.2 (-1) (noteS 0 (-1) s.1) else s.1
 if g.1 = 2 then (l, s.2) else (notesS s.2 (vsT g.2 []) l, s.2 + 1)
def gathF (c : Cls) : List Spn × Nat := c.gs.foldl gathG (notesS 0 (vsT c.h []) [], 0)
def spLt (x y : Spn) : Bool := decide (y.b < x.b) || (decide (x.b = y.b) && decide (x.n < y.n))
def spIns (x : Spn) : List Spn → List Spn
 | [] => [x]
 | y :: l => if spLt y x then y :: spIns x l else x :: y :: l
def spSort (l : List Spn) : List Spn := l.foldl (fun l x => spIns x l) []
def perm (x : Spn) : Bool := decide (x.n = -1) || !decide (x.a = x.b)
def slotsF (c : Cls) : List Spn := spSort ((gathF c).1.filter perm)
structure PlanV where
 env : Bool
 slots : List Int
 level : Int
 live : List Int
def liveF (l : List Spn) (k : Nat) : Int := (l.findIdx? fun x => decide (x.b ≤ (k : Int))).getD l.length
def levF (l : List Spn) : Int := match l.findIdx? (fun x => decide (x.n = -1)) with
 | some i => i + 1
 | none => 0
def planF (c : Cls) : PlanV :=
 let l := slotsF c
 let k := (gathF c).2
 ⟨decide (2 ≤ k) || decide (0 < levF l) || (decide (k = 1) && ((c.gs.getLast?.map (·.1)) == some 2)), l.map (·.n), levF l, (List.range k).map fun i => liveF l i⟩
def planE (c : Cls) : Int := if mayC c ≠ 0 then mayC c else if 64 < (slotsF c).length then 62 else 0
def arF (g : Int × Tm) : Int := if g.1 = 1 then g.2.l.length else if g.1 = 3 ∨ g.1 = 4 then 2 else 0
def baseF (c : Cls) : Int := if planE c ≠ 0 ∧ planE c ≠ 62 then 0 else c.gs.foldl (fun n g => max n (arF g)) c.h.l.length
structure Mk where
 next : Int
 regs : List (Int × Int)
 out : List Ins
namespace Mk
def add (m : Mk) (i : Ins) : Mk := { m with out := m.out ++ [i] }
def full (m : Mk) : Bool := decide (255 < m.next) || decide (4096 < m.out.length)
def take (m : Mk) : Mk := { m with next := m.next + 1 }
end Mk
def findR (n : Int) : List (Int × Int) → Option Int
 | [] => none
 | p :: l => if p.1 = n then some p.2 else findR n l
def slotN (S : List Int) (n : Int) : Option Int := (S.findIdx? fun x => decide (x = n)).map fun (i : Nat) => -(i : Int) - 1
namespace Mk
def pick (S : List Int) (m : Mk) (n : Int) : Int × Bool × Mk := match findR n m.regs with
 | some v => (v, false, m)
 | none => match slotN S n with
  | some v => (v, true, { m with regs := m.regs ++ [(n, v)] })
  | none => (m.next + 1, true, { m.take with regs := m.regs ++ [(n, m.next + 1)] })
def simple (S : List Int) (m : Mk) (t : Tm) (o a : Int) : Option Mk :=
 if t.k = 1 then some ((m.pick S t.n).2.2.add ⟨if (m.pick S t.n).2.1 then o else o + 1, ⟨#[]⟩, 0, (m.pick S t.n).1, a⟩)
 else if t.k = 3 then some (m.add ⟨o + 2, t.s, 0, 0, a⟩)
 else if t.k = 2 then some (m.add ⟨o + 3, ⟨#[]⟩, t.n, 0, a⟩)
 else none
def uniS (S : List Int) (m : Mk) : List Tm → Mk × List (Tm × Int)
 | [] => (m, [])
 | t :: r => match m.simple S t 6 0 with
  | some m' => m'.uniS S r
  | none => let q := (m.take.add ⟨6, ⟨#[]⟩, 0, m.next + 1, 0⟩).uniS S r; (q.1, (t, m.next + 1) :: q.2)
def struc (S : List Int) (m : Mk) (x : Tm × Int) : Mk × List (Tm × Int) := (m.add ⟨5, x.1.s, x.1.l.length, 0, x.2⟩).uniS S x.1.l
def queue (S : List Int) : Nat → Mk → List (Tm × Int) → Mk
 | 0, m, _ => m
 | _ + 1, m, [] => m
 | f + 1, m, x :: q => if m.full then m else queue S f (m.struc S x).1 (q ++ (m.struc S x).2)
def get (S : List Int) (m : Mk) (t : Tm) (a : Int) : Mk := match m.simple S t 1 a with
 | some m' => m'
 | none => queue S (szT t) m [(t, a)]
end Mk
def setS (S : List Int) (m : Mk) : List (Tm × Int) → Mk
 | [] => m
 | x :: r => setS S ((m.simple S x.1 15 0).getD (m.add ⟨16, ⟨#[]⟩, 0, x.2, 0⟩)) r
mutual
def putT (S : List Int) : Tm → Int → Mk → Mk
 | .mk k n s l, a, m => match m.simple S (.mk k n s l) 10 a with
  | some m' => m'
  | none => if m.full then m else
    let q := putL S l m
    setS S (q.1.add ⟨14, s, l.length, 0, a⟩) (l.zip q.2)
def putL (S : List Int) : List Tm → Mk → Mk × List Int
 | [], m => (m, [])
 | t :: r, m => if t.k = 4 then let q := putL S r (putT S t (m.next + 1) m.take); (q.1, (m.next + 1) :: q.2)
  else let q := putL S r m; (q.1, 0 :: q.2)
end
def putR (S : List Int) : List Tm → Int → Mk → Mk
 | [], _, m => m
 | t :: r, a, m => putR S r (a + 1) (putT S t a m)
def argsF (p : PlanV) (m : Mk) (g : Int × Tm) : Mk :=
 if g.1 = 4 then (putT p.slots g.2 1 m).add ⟨27, ⟨#[]⟩, 0, 2, 0⟩
 else if g.1 = 3 then (putT p.slots g.2 1 m).add ⟨11, ⟨#[]⟩, 0, -p.level, 2⟩
 else putR p.slots g.2.l 1 m
def leaveF (p : PlanV) (m : Mk) : Mk := if p.env then m.add ⟨20, ⟨#[]⟩, 0, 0, 0⟩ else m
def callF (p : PlanV) (m : Mk) (g : Int × Tm) (live : Int) : Mk :=
 let q := argsF p m g
 if 0 ≤ live then (if g.1 = 1 then q.add ⟨21, g.2.s, g.2.l.length, 0, live⟩ else q.add ⟨23, ⟨#[]⟩, 0, 0, live⟩)
 else if g.1 = 1 then (leaveF p q).add ⟨22, g.2.s, g.2.l.length, 0, 0⟩
 else (leaveF p q).add ⟨24, ⟨#[]⟩, 0, 0, 0⟩
def goalsF (p : PlanV) : List (Int × Tm) → Nat → Bool → Mk → Mk
 | [], _, last, m => if last then m else (leaveF p m).add ⟨25, ⟨#[]⟩, 0, 0, 0⟩
 | g :: r, k, last, m =>
  if g.1 ≠ 2 then goalsF p r (k + 1) r.isEmpty (callF p m g (if r.isEmpty then -1 else p.live.getD k 0))
  else if k = 0 then goalsF p r k last (m.add ⟨28, ⟨#[]⟩, 0, 0, 0⟩)
  else goalsF p r k last (m.add ⟨29, ⟨#[]⟩, 0, -p.level, 0⟩)
def headF (S : List Int) : List Tm → Int → Mk → Mk
 | [], _, m => m
 | t :: r, a, m => headF S r (a + 1) (m.get S t a)
def startF (c : Cls) : Mk :=
 let p := planF c
 let m : Mk := ⟨baseF c, [], []⟩
 let m := if p.env then m.add ⟨19, ⟨#[]⟩, p.slots.length, 0, 0⟩ else m
 if 0 < p.level then m.add ⟨26, ⟨#[]⟩, 0, -p.level, 0⟩ else m
def makeF (c : Cls) : Mk := goalsF (planF c) c.gs 0 false (headF (planF c).slots c.h.l 1 (startF c))
def compF (c : Cls) : List Ins × Int :=
 if planE c ≠ 0 then ([], planE c) else if (makeF c).full then ([], 62) else ((makeF c).out, 0)
def vT (n : Int) : Tm := .mk 1 n ⟨#[]⟩ []
def nmB (c : UInt8) : ByteArray := ⟨#[c]⟩
def lvC : Cls := ⟨.mk 4 0 (nmB 112) [vT 0, .mk 4 0 (nmB 102) [vT 1]], [(1, .mk 4 0 (nmB 113) [vT 1])], 2⟩
def oneC : Cls := ⟨.mk 4 0 (nmB 112) [vT 0, vT 1], [(1, .mk 4 0 (nmB 113) [vT 0, vT 2]), (1, .mk 4 0 (nmB 114) [vT 2, vT 1]), (1, .mk 4 0 (nmB 115) [vT 1])], 3⟩
def fiveI (i : Ins) : Int × ByteArray × Int × Int × Int := (i.op, i.s, i.n, i.v, i.a)
theorem fiveI_inj {a b : Ins} (h : fiveI a = fiveI b) : a = b := by
 obtain ⟨o, s, n, v, x⟩ := a
 obtain ⟨o', s', n', v', x'⟩ := b
 simp only [fiveI, Prod.mk.injEq] at h
 obtain ⟨rfl, rfl, rfl, rfl, rfl⟩ := h
 rfl
theorem five_list : ∀ {l m : List Ins}, l.map fiveI = m.map fiveI → l = m
 | [], [], _ => rfl
 | [], _ :: _, h => by cases h
 | _ :: _, [], h => by cases h
 | a :: l, b :: m, h => by
  injection h with h1 h2
  rw [fiveI_inj h1, five_list h2]
theorem comp_lv : compF lvC = ([⟨1, ⟨#[]⟩, 0, 3, 1⟩, ⟨5, nmB 102, 1, 0, 2⟩, ⟨6, ⟨#[]⟩, 0, 4, 0⟩, ⟨11, ⟨#[]⟩, 0, 4, 1⟩, ⟨22, nmB 113, 1, 0, 0⟩], 0) := by
 have h1 : (compF lvC).1.map fiveI = [⟨1, ⟨#[]⟩, 0, 3, 1⟩, ⟨5, nmB 102, 1, 0, 2⟩, ⟨6, ⟨#[]⟩, 0, 4, 0⟩, ⟨11, ⟨#[]⟩, 0, 4, 1⟩, ⟨22, nmB 113, 1, 0, 0⟩] := by decide +kernel
 have h2 : (compF lvC).2 = 0 := by decide +kernel
 have h3 := five_list (m := [⟨1, ⟨#[]⟩, 0, 3, 1⟩, ⟨5, nmB 102, 1, 0, 2⟩, ⟨6, ⟨#[]⟩, 0, 4, 0⟩, ⟨11, ⟨#[]⟩, 0, 4, 1⟩, ⟨22, nmB 113, 1, 0, 0⟩]) h1
 exact Prod.ext h3 h2
theorem comp_one : (compF oneC).1.length = 12 ∧ (compF oneC).2 = 0 := by decide +kernel
theorem base_lv : baseF lvC = 2 := by decide +kernel
end Go.El

/- Layer 17, plain: code calls what the clause's goals call, in order, and cuts as often as it has cuts. No program in sight. -/
namespace Go.El
theorem pick_out (S : List Int) (m : Mk) (n : Int) : (m.pick S n).2.2.out = m.out := by
 unfold Mk.pick
 split
 ·rfl
 ·split <;> rfl
theorem pick_next (S : List Int) (m : Mk) (n : Int) : m.next ≤ (m.pick S n).2.2.next := by
 unfold Mk.pick
 split
 ·exact Int.le_refl _
 ·split
  ·exact Int.le_refl _
  ·simp only [Mk.take]; omega
theorem take_next (m : Mk) : m.next ≤ m.take.next := by simp only [Mk.take]; omega
end Go.El

/- Layer 14, plain: clauses out of terms (the document's answer); names of variables do not matter. No program in sight. -/
namespace Go.El
def cutB : ByteArray := ⟨#[33]⟩
def semB : ByteArray := ⟨#[59]⟩
def ifB : ByteArray := ⟨#[45, 62]⟩
def notB : ByteArray := ⟨#[92, 43]⟩
def tm0 : Tm := .mk 0 0 ⟨#[]⟩ []
def isC (t : Tm) (s : ByteArray) (n : Int) : Bool := decide (t.k = 4) && (decide (t.s = s) && decide ((t.l.length : Int) = n))
def goalK (t : Tm) : Int := if t.k = 1 then 4 else if t.k = 3 ∧ t.s = cutB then 2 else if isC t semB 2 = true ∨ isC t ifB 2 = true ∨ isC t notB 1 = true then 3 else 1
theorem may_chk {t : Tm} : mayT t = true ↔ chkT t = 0 := by
 unfold mayT
 simp
theorem fstNo_all : ∀ {l : List Int}, (∀ e ∈ l, e = 0) → fstNo l = 0
 | [], _ => rfl
 | e :: l, h => by
  have he := h e (by simp)
  subst he
  simp only [fstNo, if_true]
  exact fstNo_all (fun x hx => h x (List.mem_cons_of_mem _ hx))
end Go.El

/- Layer 14, the reference: the walks of in, Builtin, comp, goal. -/
namespace Go.El
open Go.RowKit
theorem str_lit (s : ByteArray) (l : List UInt8) : (s.toList == l) = decide (s = ⟨l.toArray⟩) := by
 rw [ByteArray.toList_eq]
 have h : s.data.toList = l ↔ s = ⟨l.toArray⟩ := by
  constructor
  ·rintro rfl
   simp
  ·rintro rfl
   simp
 by_cases hs : s = ⟨l.toArray⟩
 ·rw [decide_eq_true hs, h.2 hs]
  simp
 ·rw [decide_eq_false hs]
  simpa using fun e => hs (h.1 e)
end Go.El
namespace Go.Proofs.YtmnnhdegoapfcaaGreatDoor
open Go.RowKit Go.El
end Go.Proofs.YtmnnhdegoapfcaaGreatDoor

/- Layer 13, the reference: balls (their shape alone). -/
namespace Go.Proofs.YtmnnhdegoapfcaaGreatDoor
open Go.RowKit Go.El
theorem flat_len4 : ∀ L : List TmP, (flat tmC L).length = L.length * 4 := by
 intro L
 induction L with
 | nil => rfl
 | cons a l ih => simp only [flat, List.flatMap_cons, List.length_append, List.length_cons] at ih ⊢; rw [ih]; show 4 + _ = _; omega
end Go.Proofs.YtmnnhdegoapfcaaGreatDoor
