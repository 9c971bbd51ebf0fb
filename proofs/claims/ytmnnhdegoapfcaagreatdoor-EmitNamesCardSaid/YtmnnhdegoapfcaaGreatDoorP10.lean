/- Layer 6, the reference: rows of terms that are there; Int, Var, Atom, Comp. -/
import Derived.Test.YtmnnhdegoapfcaaGreatDoorP09
import Derived.Test.YtmnnhdegoapfcaaGreatDoorP08
import Derived.Test.YtmnnhdegoapfcaaGreatDoorP01
namespace Go.Proofs.YtmnnhdegoapfcaaGreatDoor
open Go.RowKit Go.El
theorem src_tm {w : World} {A : Option Addr} {c : Nat} {M : List TmP} {D : Nat → Prop} (hs : El.Src w A M.length 4 (flat tmC M)) (hk : ∀ p ∈ M, TmIn D w p.1 p.2.1 p.2.2) (hD : ∀ b off, A = some ⟨b, off, none⟩ → D b) (hc : M.length ≤ c) (k n : Int) (s : ByteArray) : TmIn D w (.mk k n s (M.map (·.1))) A c := by
 refine .mk k n s _ A c (M.map (·.2)) (by simp) (fun j t q ht hq => ?_) (fun hne => ?_) (by simpa using hc)
 ·rw [List.getElem?_map] at ht hq
  cases hp : M[j]? with
  | none => rw [hp] at ht; simp at ht
  | some p =>
   rw [hp] at ht hq
   simp at ht hq
   subst ht hq
   exact hk p (List.mem_of_getElem? hp)
 ·have hlen : 0 < M.length := by
   rcases M with _ | ⟨p, M⟩
   ·simp at hne
   ·simp
  obtain ⟨b, off, rfl, hcell⟩ := Src.form hs hlen (by omega)
  refine ⟨b, off, rfl, hD b off rfl, fun j t q ht hq => ?_⟩
  rw [List.getElem?_map] at ht hq
  cases hp : M[j]? with
  | none => rw [hp] at ht; simp at ht
  | some p =>
   rw [hp] at ht hq
   simp at ht hq
   subst ht hq
   refine ⟨?_, ?_, ?_, ?_⟩
   ·exact hcell (j * 4) _ ((flat_at tmC_len M j 0 p hp (by omega)).trans rfl)
   ·exact hcell (j * 4 + 1) _ ((flat_at tmC_len M j 1 p hp (by omega)).trans rfl)
   ·exact hcell (j * 4 + 2) _ ((flat_at tmC_len M j 2 p hp (by omega)).trans rfl)
   ·exact hcell (j * 4 + 3) _ ((flat_at tmC_len M j 3 p hp (by omega)).trans rfl)
theorem own_empty (X : World) (t : TypeId) (k : Nat) : (X.alloc (.cells #[] t)).ownsRow 0 t k (.slice (some ⟨X.heap.size, 0, none⟩) 0 0) 0 [] := World.ownsRow_lit X #[] 0 (Nat.zero_le _) (by unfold maxLen; omega) (by simp)
theorem own_cap {w : World} {A : Option Addr} {n c : Nat} {t : TypeId} {k : Nat} {xs : List Value} (h : w.ownsRow 0 t k (.slice A n c) n xs) : n ≤ c := by
 rcases h.2 with ⟨h1, h2⟩ | ⟨g', cap', cur, hv, _, _, hnc, _⟩
 ·simp only [Value.slice.injEq] at h1
  omega
 ·injection hv with _ _ hc
  subst hc
  simpa using hnc
set_option maxRecDepth 100000 in
theorem refVar_any (n : Int) (w : World) :
  Calls Tryz.prog 17 #[.int .i64 n] w fun e w' => e = .returned (.agg #[.int .i64 1, .int .i64 n, .string ⟨#[]⟩, .slice none 0 0]) ∧ Ext w w' := by
 go_enter Tryz.func17, Tryz.ntmps17
 go_wp2_with fail
 have hE := (Ext.refl w).alloc (.cells #[.int .i64 1, .int .i64 n, .string ⟨#[]⟩, .slice none 0 0] 30)
 have hB := Blk.new w 30 #[.int .i64 1, .int .i64 n, .string ⟨#[]⟩, .slice none 0 0]
 generalize w.alloc (.cells #[.int .i64 1, .int .i64 n, .string ⟨#[]⟩, .slice none 0 0] 30) = V at hE hB ⊢
 have r0 : V.cell? ⟨w.heap.size, 0, none⟩ = some (.int .i64 1) := hB.cell 0
 have r1 : V.cell? ⟨w.heap.size, 1, none⟩ = some (.int .i64 n) := hB.cell 1
 have r2 : V.cell? ⟨w.heap.size, 2, none⟩ = some (.string ⟨#[]⟩) := hB.cell 2
 have r3 : V.cell? ⟨w.heap.size, 3, none⟩ = some (.slice none 0 0) := hB.cell 3
 refine bodyPost_ret (v := .agg #[.int .i64 1, .int .i64 n, .string ⟨#[]⟩, .slice none 0 0]) (by simp [results, Tryz.results17, go_sem, r0, r1, r2, r3]) rfl ⟨rfl, hE⟩
set_option maxRecDepth 100000 in
theorem refInt_any (n : Int) (w : World) :
  Calls Tryz.prog 78 #[.int .i64 n] w fun e w' => e = .returned (.agg #[.int .i64 2, .int .i64 n, .string ⟨#[]⟩, .slice none 0 0]) ∧ Ext w w' := by
 go_enter Tryz.func78, Tryz.ntmps78
 go_wp2_with fail
 have hE := (Ext.refl w).alloc (.cells #[.int .i64 2, .int .i64 n, .string ⟨#[]⟩, .slice none 0 0] 30)
 have hB := Blk.new w 30 #[.int .i64 2, .int .i64 n, .string ⟨#[]⟩, .slice none 0 0]
 generalize w.alloc (.cells #[.int .i64 2, .int .i64 n, .string ⟨#[]⟩, .slice none 0 0] 30) = V at hE hB ⊢
 have r0 : V.cell? ⟨w.heap.size, 0, none⟩ = some (.int .i64 2) := hB.cell 0
 have r1 : V.cell? ⟨w.heap.size, 1, none⟩ = some (.int .i64 n) := hB.cell 1
 have r2 : V.cell? ⟨w.heap.size, 2, none⟩ = some (.string ⟨#[]⟩) := hB.cell 2
 have r3 : V.cell? ⟨w.heap.size, 3, none⟩ = some (.slice none 0 0) := hB.cell 3
 refine bodyPost_ret (v := .agg #[.int .i64 2, .int .i64 n, .string ⟨#[]⟩, .slice none 0 0]) (by simp [results, Tryz.results78, go_sem, r0, r1, r2, r3]) rfl ⟨rfl, hE⟩
set_option maxRecDepth 100000 in
theorem refAtom_any (s : ByteArray) (w : World) :
  Calls Tryz.prog 33 #[.string s] w fun e w' => e = .returned (.agg #[.int .i64 3, .int .i64 0, .string s, .slice none 0 0]) ∧ Ext w w' := by
 go_enter Tryz.func33, Tryz.ntmps33
 go_wp2_with fail
 have hE := (Ext.refl w).alloc (.cells #[.int .i64 3, .int .i64 0, .string s, .slice none 0 0] 30)
 have hB := Blk.new w 30 #[.int .i64 3, .int .i64 0, .string s, .slice none 0 0]
 generalize w.alloc (.cells #[.int .i64 3, .int .i64 0, .string s, .slice none 0 0] 30) = V at hE hB ⊢
 have r0 : V.cell? ⟨w.heap.size, 0, none⟩ = some (.int .i64 3) := hB.cell 0
 have r1 : V.cell? ⟨w.heap.size, 1, none⟩ = some (.int .i64 0) := hB.cell 1
 have r2 : V.cell? ⟨w.heap.size, 2, none⟩ = some (.string s) := hB.cell 2
 have r3 : V.cell? ⟨w.heap.size, 3, none⟩ = some (.slice none 0 0) := hB.cell 3
 refine bodyPost_ret (v := .agg #[.int .i64 3, .int .i64 0, .string s, .slice none 0 0]) (by simp [results, Tryz.results33, go_sem, r0, r1, r2, r3]) rfl ⟨rfl, hE⟩
set_option maxRecDepth 100000 in
set_option maxHeartbeats 4000000 in
theorem refComp_any (s : ByteArray) (M : List TmP) (A : Option Addr) (c : Nat) (w : World) (D : Nat → Prop) (hs : El.Src w A M.length 4 (flat tmC M)) (hk : ∀ p ∈ M, TmIn D w p.1 p.2.1 p.2.2) (hn : M ≠ []) (hl : M.length ≤ 1000) (hD : ∀ k, D k → k < w.heap.size) :
  Calls Tryz.prog 24 #[.string s, .slice A M.length c] w fun e w' => ∃ A' c', e = .returned (.agg #[.int .i64 4, .int .i64 0, .string s, .slice A' M.length c']) ∧ TmIn (fun k => D k ∨ (w.heap.size ≤ k ∧ k < w'.heap.size)) w' (.mk 4 0 s (M.map (·.1))) A' c' ∧ Ext w w' := by
 obtain ⟨i1, hi1, hz0, hz1, hz2⟩ := infoP tmInfo4
 have q1 : ((M.length : Int) == 0) = false := by
  have : M.length ≠ 0 := fun e => hn (List.eq_nil_of_length_eq_zero e)
  simpa using this
 have HO := Lib.hid (own_empty (w.alloc (.cells #[.int .i64 0, .int .i64 0, .string ⟨#[]⟩, .slice none 0 0] 30)) 30 4)
 rw [World.size_alloc] at HO
 have HS := Lib.hid (hs.ext (((Ext.refl w).alloc (.cells #[.int .i64 0, .int .i64 0, .string ⟨#[]⟩, .slice none 0 0] 30)).alloc (.cells #[] 30)))
 have hone : ∀ u ∈ flat tmC M, u.oneCell' = true := fun u hu => by
  obtain ⟨p, _, h⟩ := List.mem_flatMap.1 hu
  exact tmC_one p u h
 have HONE := Lib.hid hone
 have HK := Lib.hid hk
 have HD := Lib.hid hD
 clear hs hn hone hk hD
 go_enter Tryz.func24, Tryz.ntmps24
 go_wp2_with (at_builtin; refine wpList_append_src (P := Tryz.prog) rfl (.tmp 11) (.tmp 12) 28 rfl 30 i1 _ 4 56 Tryz.underlying28 hi1 hz0 hz1 hz2 rfl (by omega) (.slice (some ⟨w.heap.size + 1, 0, none⟩) 0 0) rfl _ _ _ rfl 0 [] HO.out (flat tmC M) HS.out HONE.out (by unfold maxLen; omega) (by omega) ?_; intro v3 w3 ho3 hm3 hb3; rw [Nat.zero_add, List.nil_append] at ho3; obtain ⟨A3, c3, rfl⟩ := own_value ho3; have hB3 := ((Blk.new w 30 #[.int .i64 0, .int .i64 0, .string ⟨#[]⟩, .slice none 0 0]).alloc (.cells #[] 30)).mods hm3 (by simp [ownL, Value.ownBlock]); have zc := hB3.cell; have zf := hB3.frozen; have HO3 := Lib.hid ho3; have HM3 := Lib.hid hm3; have HB3 := Lib.hid hB3; have HV3 := Lib.hid hb3; clear ho3 hm3 hB3 hb3)
 have hbf := (((HB3.out.set_ 0 (.int .i64 4)).set_ 1 (.int .i64 0)).set_ 2 (.string s)).set_ 3 (.slice A3 M.length c3)
 have hlt := HB3.out.lt
 have hown : ∀ k, (Value.slice A3 M.length c3).ownBlock = some k → w.heap.size + 1 ≤ k ∧ k < w3.heap.size := fun k e => by
  refine ⟨?_, (HO3.out.lt k e).2⟩
  rcases HV3.out with h | h
  ·rw [h] at e
   simp [Value.ownBlock] at e
   omega
  ·rw [h] at e
   simp [World.size_alloc] at e
   omega
 have hE3 : Ext w w3 := ext_mods (((Ext.refl w).alloc _).alloc _) HM3.out (fun k hk => by simp [ownL, Value.ownBlock] at hk; omega)
 have hno : (Value.slice A3 M.length c3).ownBlock ≠ some w.heap.size := fun e => by have := (hown _ e).1; omega
 have hO := ownsRow_setCell_other (ownsRow_setCell_other (ownsRow_setCell_other (ownsRow_setCell_other HO3.out (a := ⟨w.heap.size, 0, none⟩) hno (.int .i64 4)) (a := ⟨w.heap.size, 1, none⟩) hno (.int .i64 0)) (a := ⟨w.heap.size, 2, none⟩) hno (.string s)) (a := ⟨w.heap.size, 3, none⟩) hno (.slice A3 M.length c3)
 have hEF := (((hE3.setCell (p := ⟨w.heap.size, 0, none⟩) (by simp) (.int .i64 4)).setCell (p := ⟨w.heap.size, 1, none⟩) (by simp) (.int .i64 0)).setCell (p := ⟨w.heap.size, 2, none⟩) (by simp) (.string s)).setCell (p := ⟨w.heap.size, 3, none⟩) (by simp) (.slice A3 M.length c3)
 have hsz : ((((w3.setCell ⟨w.heap.size, 0, none⟩ (.int .i64 4)).setCell ⟨w.heap.size, 1, none⟩ (.int .i64 0)).setCell ⟨w.heap.size, 2, none⟩ (.string s)).setCell ⟨w.heap.size, 3, none⟩ (.slice A3 M.length c3)).heap.size = w3.heap.size := by simp
 generalize (((w3.setCell ⟨w.heap.size, 0, none⟩ (.int .i64 4)).setCell ⟨w.heap.size, 1, none⟩ (.int .i64 0)).setCell ⟨w.heap.size, 2, none⟩ (.string s)).setCell ⟨w.heap.size, 3, none⟩ (.slice A3 M.length c3) = VF at hbf hO hEF hsz ⊢
 have r0 : VF.cell? ⟨w.heap.size, 0, none⟩ = some (.int .i64 4) := hbf.cell 0
 have r1 : VF.cell? ⟨w.heap.size, 1, none⟩ = some (.int .i64 0) := hbf.cell 1
 have r2 : VF.cell? ⟨w.heap.size, 2, none⟩ = some (.string s) := hbf.cell 2
 have r3 : VF.cell? ⟨w.heap.size, 3, none⟩ = some (.slice A3 M.length c3) := hbf.cell 3
 refine bodyPost_ret (v := .agg #[.int .i64 4, .int .i64 0, .string s, .slice A3 M.length c3]) (by simp [results, Tryz.results24, go_sem, r0, r1, r2, r3]) rfl ⟨A3, c3, rfl, ?_, hEF⟩
 refine src_tm (Src.of_own hO) (fun p hp => ((HK.out p hp).ext hEF).mono (fun k hk => .inl hk)) (fun b off e => ?_) (own_cap hO) 4 0 s
 subst e
 have := hown b rfl
 exact .inr ⟨by omega, by omega⟩
end Go.Proofs.YtmnnhdegoapfcaaGreatDoor

/- Layer 11, plain: variables are numbered as one comes to them. No program in sight. -/
namespace Go.El
def addV (n : Int) (l : List Int) : List Int := if n ∈ l then l else l ++ [n]
mutual
def vsT : Tm → List Int → List Int
 | .mk k n _ l, acc => if k = 1 then addV n acc else vsL l acc
def vsL : List Tm → List Int → List Int
 | [], acc => acc
 | a :: r, acc => vsL r (vsT a acc)
end
def plc (n : Int) : List Int → Nat
 | [] => 0
 | m :: l => if m = n then 0 else plc n l + 1
mutual
def rnT : Tm → List Int → Tm
 | .mk k n s l, acc => if k = 1 then .mk 1 (plc n (addV n acc)) ⟨#[]⟩ [] else .mk k n s (rnL l acc)
def rnL : List Tm → List Int → List Tm
 | [], _ => []
 | a :: r, acc => rnT a acc :: rnL r (vsT a acc)
end
theorem vsL_take : ∀ {l : List Tm} {j : Nat} {u : Tm} (acc : List Int), l[j]? = some u → vsL (l.take (j + 1)) acc = vsT u (vsL (l.take j) acc)
 | [], j, u, acc, h => by simp at h
 | a :: r, 0, u, acc, h => by
  simp at h
  subst h
  simp [vsL]
 | a :: r, j + 1, u, acc, h => by
  have := vsL_take (l := r) (j := j) (u := u) (vsT a acc) (by simpa using h)
  simp only [List.take_succ_cons, vsL]
  exact this
theorem rnL_take : ∀ {l : List Tm} {j : Nat} {u : Tm} (acc : List Int), l[j]? = some u → rnL (l.take (j + 1)) acc = rnL (l.take j) acc ++ [rnT u (vsL (l.take j) acc)]
 | [], j, u, acc, h => by simp at h
 | a :: r, 0, u, acc, h => by
  simp at h
  subst h
  simp [vsL, rnL]
 | a :: r, j + 1, u, acc, h => by
  have := rnL_take (l := r) (j := j) (u := u) (vsT a acc) (by simpa using h)
  simp only [List.take_succ_cons, vsL, rnL]
  rw [this]
  rfl
theorem rnL_len : ∀ (l : List Tm) (acc : List Int), (rnL l acc).length = l.length
 | [], _ => rfl
 | a :: r, acc => by simp [rnL, rnL_len r]
theorem addV_len (n : Int) (l : List Int) : (addV n l).length ≤ l.length + 1 ∧ l.length ≤ (addV n l).length := by
 unfold addV
 split
 ·omega
 ·simp
theorem addV_mem (n : Int) (l : List Int) : n ∈ addV n l := by
 unfold addV
 split
 ·assumption
 ·simp
theorem plc_lt {n : Int} : ∀ {l : List Int}, n ∈ l → plc n l < l.length
 | m :: l, h => by
  unfold plc
  split
  ·simp
  ·rename_i hne
   have : n ∈ l := by
    rcases List.mem_cons.1 h with e | e
    ·exact absurd e.symm hne
    ·exact e
   have := plc_lt this
   simp
   omega
mutual
theorem vsT_len : ∀ (t : Tm) (acc : List Int), (vsT t acc).length ≤ acc.length + szT t ∧ acc.length ≤ (vsT t acc).length
 | .mk k n _ l, acc => by
  have := vsL_len l acc
  have := addV_len n acc
  simp only [vsT, szT]
  split <;> omega
theorem vsL_len : ∀ (l : List Tm) (acc : List Int), (vsL l acc).length ≤ acc.length + szL l ∧ acc.length ≤ (vsL l acc).length
 | [], acc => by simp [vsL]
 | a :: r, acc => by
  have := vsT_len a acc
  have := vsL_len r (vsT a acc)
  simp only [vsL, szL]
  omega
end
theorem part_var {n : Int} {s : ByteArray} {m : Nat} (h : partK 1 n s m = true) : 0 ≤ n ∧ n < 1073741824 ∧ s.size = 0 ∧ m = 0 := by
 simpa [partK] using h
mutual
theorem rnT_size : ∀ (t : Tm) (acc : List Int), okT t = true → szT (rnT t acc) = szT t ∧ dpT (rnT t acc) = dpT t ∧ (acc.length + szT t ≤ 1073741824 → okT (rnT t acc) = true)
 | .mk k n s l, acc, h => by
  simp only [okT, Bool.and_eq_true] at h
  have hl := rnL_size l acc h.2
  simp only [rnT]
  split
  ·rename_i hk
   subst hk
   have hp := part_var h.1
   have := List.length_eq_zero_iff.1 hp.2.2.2
   subst this
   refine ⟨by simp [szT, szL], by simp [dpT, dpL], fun hb => ?_⟩
   simp only [szT, szL] at hb
   have h1 := plc_lt (addV_mem n acc)
   have h2 := addV_len n acc
   simp only [okT, okL, Bool.and_true]
   unfold partK
   rw [if_pos rfl]
   refine decide_eq_true ⟨by omega, by omega, rfl, rfl⟩
  ·simp only [szT, dpT, okT, rnL_len, Bool.and_eq_true]
   exact ⟨by omega, by omega, fun hb => ⟨h.1, hl.2.2 (by omega)⟩⟩
theorem rnL_size : ∀ (l : List Tm) (acc : List Int), okL l = true → szL (rnL l acc) = szL l ∧ dpL (rnL l acc) = dpL l ∧ (acc.length + szL l ≤ 1073741824 → okL (rnL l acc) = true)
 | [], acc, _ => by simp [rnL, okL]
 | a :: r, acc, h => by
  simp only [okL, Bool.and_eq_true] at h
  have h1 := rnT_size a acc h.1
  have h2 := rnL_size r (vsT a acc) h.2
  have h3 := vsT_len a acc
  simp only [rnL, szL, dpL, okL, Bool.and_eq_true]
  exact ⟨by omega, by omega, fun hb => ⟨h1.2.2 (by omega), h2.2.2 (by omega)⟩⟩
end
theorem rnT_may {t : Tm} {acc : List Int} (h : mayT t = true) (hl : acc.length ≤ 1000000000) : mayT (rnT t acc) = true := by
 obtain ⟨h1, h2, h3⟩ := mayT_iff.1 h
 obtain ⟨a, b, c⟩ := rnT_size t acc h1
 exact mayT_iff.2 ⟨c (by omega), by omega, by omega⟩
def numF (i : Nat) : List Int → List (Int × Value)
 | [] => []
 | n :: l => (n, .int .i64 (i : Int)) :: numF (i + 1) l
def numP (l : List Int) : List (Int × Value) := numF 0 l
theorem numF_find (n : Int) : ∀ (l : List Int) (i : Nat), findP n (numF i l) = if n ∈ l then some (.int .i64 ((i + plc n l : Nat) : Int)) else none
 | [], i => by simp [numF, findP]
 | m :: l, i => by
  have ih := numF_find n l (i + 1)
  simp only [numF, findP, plc]
  by_cases h : m = n
  ·simp [h]
  ·have h2 : ¬ n = m := fun e => h e.symm
   rw [if_neg h, ih]
   simp only [List.mem_cons, h2, false_or, if_neg h]
   split
   ·congr 2
    omega
   ·rfl
theorem numP_find (n : Int) (l : List Int) : findP n (numP l) = if n ∈ l then some (.int .i64 (plc n l : Int)) else none := by
 have := numF_find n l 0
 simpa [numP] using this
theorem numF_set {n : Int} : ∀ {l : List Int} {i : Nat}, n ∉ l → setP n (.int .i64 ((i + l.length : Nat) : Int)) (numF i l) = numF i (l ++ [n])
 | [], i, _ => by simp [numF, setP]
 | m :: l, i, h => by
  have h1 : m ≠ n := fun e => h (by simp [e])
  have h2 : n ∉ l := fun e => h (by simp [e])
  have ih := numF_set (l := l) (i := i + 1) h2
  simp only [numF, setP, List.cons_append, if_neg h1, List.length_cons]
  rw [← ih]
  congr 3
  simp
  omega
theorem numP_set {n : Int} {l : List Int} (h : n ∉ l) : setP n (.int .i64 (l.length : Int)) (numP l) = numP (l ++ [n]) := by
 have := numF_set (i := 0) h
 simpa [numP] using this
theorem plc_new {n : Int} : ∀ {l : List Int}, n ∉ l → plc n (l ++ [n]) = l.length
 | [], _ => by simp [plc]
 | m :: l, h => by
  have h1 : m ≠ n := fun e => h (by simp [e])
  have h2 : n ∉ l := fun e => h (by simp [e])
  simp [plc, h1, plc_new h2]
end Go.El
/- Layer 11, plain: the text of an answer. No program in sight. -/
namespace Go.El
end Go.El

/- Layers 15 and 17, plain: where a clause's variables live, and its code. No program in sight. -/
namespace Go.El
structure Cls where
 h : Tm
 gs : List (Int × Tm)
 vars : Int
def fstNo : List Int → Int
 | [] => 0
 | e :: l => if e = 0 then fstNo l else e
def mayC (c : Cls) : Int :=
 if fstNo (chkT c.h :: c.gs.map fun g => chkT g.2) ≠ 0 then fstNo (chkT c.h :: c.gs.map fun g => chkT g.2)
 else if (c.gs.any fun g => decide (g.1 < 1) || decide (4 < g.1)) = true ∨ c.h.k < 3 ∨ 64 < c.gs.length then 1 else 0
structure Spn where
 n : Int
 a : Int
 b : Int
deriving DecidableEq
def noteS (k : Int) (n : Int) : List Spn → List Spn
 | [] => [⟨n, k, k⟩]
 | x :: l => if x.n = n then { x with b := k } :: l else x :: noteS k n l
def notesS (k : Int) (ns : List Int) (l : List Spn) : List Spn := ns.foldl (fun l n => noteS k n l) l
def gathG (s : List Spn × Nat) (g : Int × Tm) : List Spn × Nat :=
 let l := if g.1 = 3 ∨ (g.1 = 2 ∧ 0 < s.2) then noteS s.2 (-1) (noteS 0 (-1) s.1) else s.1
 if g.1 = 2 then (l, s.2) else (notesS s.2 (vsT g.2 []) l, s.2 + 1)
def gathF (c : Cls) : List Spn × Nat := c.gs.foldl gathG (notesS 0 (vsT c.h []) [], 0)
def spLt (x y : Spn) : Bool := decide (y.b < x.b) || (decide (x.b = y.b) && decide (x.n < y.n))
def spIns (x : Spn) : List Spn → List Spn
 | [] => [x]
 | y :: l => if spLt y x then y :: spIns x l else x :: y :: l
def spSort (l : List Spn) : List Spn := l.foldl (fun l x => spIns x l) []
def perm (x : Spn) : Bool := decide (x.n = -1) || !decide (x.a = x.b)
def slotsF (c : Cls) : List Spn := spSort ((gathF c).1.filter perm)
structure PlanV where
 env : Bool
 slots : List Int
 level : Int
 live : List Int
def liveF (l : List Spn) (k : Nat) : Int := (l.findIdx? fun x => decide (x.b ≤ (k : Int))).getD l.length
def levF (l : List Spn) : Int := match l.findIdx? (fun x => decide (x.n = -1)) with
 | some i => i + 1
 | none => 0
def planF (c : Cls) : PlanV :=
 let l := slotsF c
 let k := (gathF c).2
 ⟨decide (2 ≤ k) || decide (0 < levF l) || (decide (k = 1) && ((c.gs.getLast?.map (·.1)) == some 2)), l.map (·.n), levF l, (List.range k).map fun i => liveF l i⟩
def planE (c : Cls) : Int := if mayC c ≠ 0 then mayC c else if 64 < (slotsF c).length then 62 else 0
def arF (g : Int × Tm) : Int := if g.1 = 1 then g.2.l.length else if g.1 = 3 ∨ g.1 = 4 then 2 else 0
def baseF (c : Cls) : Int := if planE c ≠ 0 ∧ planE c ≠ 62 then 0 else c.gs.foldl (fun n g => max n (arF g)) c.h.l.length
structure Mk where
 next : Int
 regs : List (Int × Int)
 out : List Ins
namespace Mk
def add (m : Mk) (i : Ins) : Mk := { m with out := m.out ++ [i] }
def full (m : Mk) : Bool := decide (255 < m.next) || decide (4096 < m.out.length)
def take (m : Mk) : Mk := { m with next := m.next + 1 }
end Mk
def findR (n : Int) : List (Int × Int) → Option Int
 | [] => none
 | p :: l => if p.1 = n then some p.2 else findR n l
def slotN (S : List Int) (n : Int) : Option Int := (S.findIdx? fun x => decide (x = n)).map fun (i : Nat) => -(i : Int) - 1
namespace Mk
def pick (S : List Int) (m : Mk) (n : Int) : Int × Bool × Mk := match findR n m.regs with
 | some v => (v, false, m)
 | none => match slotN S n with
  | some v => (v, true, { m with regs := m.regs ++ [(n, v)] })
  | none => (m.next + 1, true, { m.take with regs := m.regs ++ [(n, m.next + 1)] })
def simple (S : List Int) (m : Mk) (t : Tm) (o a : Int) : Option Mk :=
 if t.k = 1 then some ((m.pick S t.n).2.2.add ⟨if (m.pick S t.n).2.1 then o else o + 1, ⟨#[]⟩, 0, (m.pick S t.n).1, a⟩)
 else if t.k = 3 then some (m.add ⟨o + 2, t.s, 0, 0, a⟩)
 else if t.k = 2 then some (m.add ⟨o + 3, ⟨#[]⟩, t.n, 0, a⟩)
 else none
def uniS (S : List Int) (m : Mk) : List Tm → Mk × List (Tm × Int)
 | [] => (m, [])
 | t :: r => match m.simple S t 6 0 with
  | some m' => m'.uniS S r
  | none => let q := (m.take.add ⟨6, ⟨#[]⟩, 0, m.next + 1, 0⟩).uniS S r; (q.1, (t, m.next + 1) :: q.2)
def struc (S : List Int) (m : Mk) (x : Tm × Int) : Mk × List (Tm × Int) := (m.add ⟨5, x.1.s, x.1.l.length, 0, x.2⟩).uniS S x.1.l
def queue (S : List Int) : Nat → Mk → List (Tm × Int) → Mk
 | 0, m, _ => m
 | _ + 1, m, [] => m
 | f + 1, m, x :: q => if m.full then m else queue S f (m.struc S x).1 (q ++ (m.struc S x).2)
def get (S : List Int) (m : Mk) (t : Tm) (a : Int) : Mk := match m.simple S t 1 a with
 | some m' => m'
 | none => queue S (szT t) m [(t, a)]
end Mk
def setS (S : List Int) (m : Mk) : List (Tm × Int) → Mk
 | [] => m
 | x :: r => setS S ((m.simple S x.1 15 0).getD (m.add ⟨16, ⟨#[]⟩, 0, x.2, 0⟩)) r
mutual
def putT (S : List Int) : Tm → Int → Mk → Mk
 | .mk k n s l, a, m => match m.simple S (.mk k n s l) 10 a with
  | some m' => m'
  | none => if m.full then m else
    let q := putL S l m
    setS S (q.1.add ⟨14, s, l.length, 0, a⟩) (l.zip q.2)
def putL (S : List Int) : List Tm → Mk → Mk × List Int
 | [], m => (m, [])
 | t :: r, m => if t.k = 4 then let q := putL S r (putT S t (m.next + 1) m.take); (q.1, (m.next + 1) :: q.2)
  else let q := putL S r m; (q.1, 0 :: q.2)
end
def putR (S : List Int) : List Tm → Int → Mk → Mk
 | [], _, m => m
 | t :: r, a, m => putR S r (a + 1) (putT S t a m)
def argsF (p : PlanV) (m : Mk) (g : Int × Tm) : Mk :=
 if g.1 = 4 then (putT p.slots g.2 1 m).add ⟨27, ⟨#[]⟩, 0, 2, 0⟩
 else if g.1 = 3 then (putT p.slots g.2 1 m).add ⟨11, ⟨#[]⟩, 0, -p.level, 2⟩
 else putR p.slots g.2.l 1 m
def leaveF (p : PlanV) (m : Mk) : Mk := if p.env then m.add ⟨20, ⟨#[]⟩, 0, 0, 0⟩ else m
def callF (p : PlanV) (m : Mk) (g : Int × Tm) (live : Int) : Mk :=
 let q := argsF p m g
 if 0 ≤ live then (if g.1 = 1 then q.add ⟨21, g.2.s, g.2.l.length, 0, live⟩ else q.add ⟨23, ⟨#[]⟩, 0, 0, live⟩)
 else if g.1 = 1 then (leaveF p q).add ⟨22, g.2.s, g.2.l.length, 0, 0⟩
 else (leaveF p q).add ⟨24, ⟨#[]⟩, 0, 0, 0⟩
def goalsF (p : PlanV) : List (Int × Tm) → Nat → Bool → Mk → Mk
 | [], _, last, m => if last then m else (leaveF p m).add ⟨25, ⟨#[]⟩, 0, 0, 0⟩
 | g :: r, k, last, m =>
  if g.1 ≠ 2 then goalsF p r (k + 1) r.isEmpty (callF p m g (if r.isEmpty then -1 else p.live.getD k 0))
  else if k = 0 then goalsF p r k last (m.add ⟨28, ⟨#[]⟩, 0, 0, 0⟩)
  else goalsF p r k last (m.add ⟨29, ⟨#[]⟩, 0, -p.level, 0⟩)
def headF (S : List Int) : List Tm → Int → Mk → Mk
 | [], _, m => m
 | t :: r, a, m => headF S r (a + 1) (m.get S t a)
def startF (c : Cls) : Mk :=
 let p := planF c
 let m : Mk := ⟨baseF c, [], []⟩
 let m := if p.env then m.add ⟨19, ⟨#[]⟩, p.slots.length, 0, 0⟩ else m
 if 0 < p.level then m.add ⟨26, ⟨#[]⟩, 0, -p.level, 0⟩ else m
def makeF (c : Cls) : Mk := goalsF (planF c) c.gs 0 false (headF (planF c).slots c.h.l 1 (startF c))
def compF (c : Cls) : List Ins × Int :=
 if planE c ≠ 0 then ([], planE c) else if (makeF c).full then ([], 62) else ((makeF c).out, 0)
def vT (n : Int) : Tm := .mk 1 n ⟨#[]⟩ []
def nmB (c : UInt8) : ByteArray := ⟨#[c]⟩
def lvC : Cls := ⟨.mk 4 0 (nmB 112) [vT 0, .mk 4 0 (nmB 102) [vT 1]], [(1, .mk 4 0 (nmB 113) [vT 1])], 2⟩
def oneC : Cls := ⟨.mk 4 0 (nmB 112) [vT 0, vT 1], [(1, .mk 4 0 (nmB 113) [vT 0, vT 2]), (1, .mk 4 0 (nmB 114) [vT 2, vT 1]), (1, .mk 4 0 (nmB 115) [vT 1])], 3⟩
def fiveI (i : Ins) : Int × ByteArray × Int × Int × Int := (i.op, i.s, i.n, i.v, i.a)
theorem fiveI_inj {a b : Ins} (h : fiveI a = fiveI b) : a = b := by
 obtain ⟨o, s, n, v, x⟩ := a
 obtain ⟨o', s', n', v', x'⟩ := b
 simp only [fiveI, Prod.mk.injEq] at h
 obtain ⟨rfl, rfl, rfl, rfl, rfl⟩ := h
 rfl
theorem five_list : ∀ {l m : List Ins}, l.map fiveI = m.map fiveI → l = m
 | [], [], _ => rfl
 | [], _ :: _, h => by cases h
 | _ :: _, [], h => by cases h
 | a :: l, b :: m, h => by
  injection h with h1 h2
  rw [fiveI_inj h1, five_list h2]
theorem comp_lv : compF lvC = ([⟨1, ⟨#[]⟩, 0, 3, 1⟩, ⟨5, nmB 102, 1, 0, 2⟩, ⟨6, ⟨#[]⟩, 0, 4, 0⟩, ⟨11, ⟨#[]⟩, 0, 4, 1⟩, ⟨22, nmB 113, 1, 0, 0⟩], 0) := by
 have h1 : (compF lvC).1.map fiveI = [⟨1, ⟨#[]⟩, 0, 3, 1⟩, ⟨5, nmB 102, 1, 0, 2⟩, ⟨6, ⟨#[]⟩, 0, 4, 0⟩, ⟨11, ⟨#[]⟩, 0, 4, 1⟩, ⟨22, nmB 113, 1, 0, 0⟩] := by decide +kernel
 have h2 : (compF lvC).2 = 0 := by decide +kernel
 have h3 := five_list (m := [⟨1, ⟨#[]⟩, 0, 3, 1⟩, ⟨5, nmB 102, 1, 0, 2⟩, ⟨6, ⟨#[]⟩, 0, 4, 0⟩, ⟨11, ⟨#[]⟩, 0, 4, 1⟩, ⟨22, nmB 113, 1, 0, 0⟩]) h1
 exact Prod.ext h3 h2
theorem comp_one : (compF oneC).1.length = 12 ∧ (compF oneC).2 = 0 := by decide +kernel
theorem base_lv : baseF lvC = 2 := by decide +kernel
end Go.El

/- Layer 6, plain: a renamed term whose variables become others, and is renamed again, is the renamed term. No program in sight. -/
namespace Go.El
mutual
def rpT (f : Int → Int) : Tm → Tm
 | .mk k n s l => if k = 1 then .mk 1 (f n) ⟨#[]⟩ [] else .mk k n s (rpL f l)
def rpL (f : Int → Int) : List Tm → List Tm
 | [] => []
 | a :: r => rpT f a :: rpL f r
end
theorem plc_map {f : Int → Int} {n : Int} : ∀ {l : List Int}, (∀ x ∈ l, f x = f n → x = n) → plc (f n) (l.map f) = plc n l
 | [], _ => rfl
 | m :: l, h => by
  have ih := plc_map (f := f) (n := n) (l := l) (fun x hx => h x (List.mem_cons_of_mem _ hx))
  simp only [List.map_cons, plc]
  by_cases e : m = n
  ·rw [if_pos e, if_pos (by rw [e])]
  ·rw [if_neg e, if_neg (fun g => e (h m (by simp) g)), ih]
theorem addV_map {f : Int → Int} {n : Int} {l : List Int} (h : ∀ x ∈ l, f x = f n → x = n) : addV (f n) (l.map f) = (addV n l).map f := by
 unfold addV
 by_cases e : n ∈ l
 ·rw [if_pos e, if_pos (List.mem_map_of_mem e)]
 ·rw [if_neg e, if_neg]
  ·simp
  ·intro g
   obtain ⟨x, hx, hf⟩ := List.mem_map.1 g
   exact e (by rw [← h x hx hf]; exact hx)
theorem rp_pair (f : Int → Int) (hf : ∀ x y, f x = f y → x = y) : (∀ (t : Tm) (acc : List Int), rnT (rpT f t) (acc.map f) = rnT t acc ∧ vsT (rpT f t) (acc.map f) = (vsT t acc).map f) ∧ True := by
 refine ⟨?_, trivial⟩
 have key : ∀ N, (∀ t : Tm, szT t ≤ N → ∀ acc : List Int, rnT (rpT f t) (acc.map f) = rnT t acc ∧ vsT (rpT f t) (acc.map f) = (vsT t acc).map f) := by
  intro N
  induction N with
  | zero => intro t h; have := szT_pos t; omega
  | succ N ih =>
   rintro ⟨k, n, s, l⟩ hN acc
   simp only [szT] at hN
   by_cases hk : k = 1
   ·subst hk
    simp only [rpT, rnT, vsT, if_true]
    rw [addV_map (fun x _ h => hf x n h), plc_map (fun x _ h => hf x n h)]
    exact ⟨rfl, rfl⟩
   ·simp only [rpT, rnT, vsT, if_neg hk]
    have hL : ∀ (l : List Tm) (acc : List Int), szL l ≤ N → rnL (rpL f l) (acc.map f) = rnL l acc ∧ vsL (rpL f l) (acc.map f) = (vsL l acc).map f := by
     intro l
     induction l with
     | nil => intro acc _; exact ⟨rfl, rfl⟩
     | cons a r ihl =>
      intro acc h
      simp only [szL] at h
      obtain ⟨h1, h2⟩ := ih a (by omega) acc
      obtain ⟨h3, h4⟩ := ihl (vsT a acc) (by omega)
      simp only [rpL, rnL, vsL]
      rw [h1, h2, h3, h4]
      exact ⟨rfl, rfl⟩
    obtain ⟨h1, h2⟩ := hL l acc (by omega)
    rw [h1, h2]
    exact ⟨rfl, rfl⟩
 exact fun t => key _ t (Nat.le_refl _)
theorem rn_rp {f : Int → Int} (hf : ∀ x y, f x = f y → x = y) (t : Tm) : rnT (rpT f t) [] = rnT t [] := ((rp_pair f hf).1 t []).1
def rng (n : Nat) : List Int := (List.range n).map fun (i : Nat) => (i : Int)
theorem rng_len (n : Nat) : (rng n).length = n := by simp [rng]
theorem rng_succ (n : Nat) : rng (n + 1) = rng n ++ [(n : Int)] := by simp [rng, List.range_succ]
theorem rng_mem {n : Nat} {x : Int} : x ∈ rng n ↔ 0 ≤ x ∧ x < n := by
 simp only [rng, List.mem_map, List.mem_range]
 constructor
 ·rintro ⟨a, h, rfl⟩; omega
 ·rintro ⟨h1, h2⟩; exact ⟨x.toNat, by omega, by omega⟩
theorem plc_rng : ∀ {n : Nat} {k : Nat}, k < n → plc (k : Int) (rng n) = k := by
 intro n
 induction n with
 | zero => intro k h; omega
 | succ n ih =>
  intro k h
  rw [rng_succ]
  by_cases e : k = n
  ·subst e
   have : (k : Int) ∉ rng k := fun h => by have := rng_mem.1 h; omega
   rw [plc_new this, rng_len]
  ·have hm : (k : Int) ∈ rng n := rng_mem.2 ⟨by omega, by omega⟩
   have hk := ih (k := k) (by omega)
   have key : ∀ {l r : List Int} {x : Int}, x ∈ l → plc x (l ++ r) = plc x l := by
    intro l r x hx
    induction l with
    | nil => cases hx
    | cons a l ihl =>
     simp only [List.cons_append, plc]
     by_cases ea : a = x
     ·rw [if_pos ea, if_pos ea]
     ·rw [if_neg ea, if_neg ea]
      rcases List.mem_cons.1 hx with h | h
      ·exact absurd h.symm ea
      ·rw [ihl h]
   rw [key hm, hk]
theorem rn_again : ∀ (N : Nat) (t : Tm), szT t ≤ N → ∀ acc : List Int, rnT (rnT t acc) (rng acc.length) = rnT t acc ∧ vsT (rnT t acc) (rng acc.length) = rng (vsT t acc).length
 | 0, t, h, _ => by have := szT_pos t; omega
 | N + 1, .mk k n s l, hN, acc => by
  simp only [szT] at hN
  by_cases hk : k = 1
  ·subst hk
   simp only [rnT, vsT, if_true]
   have hp := plc_lt (addV_mem n acc)
   by_cases hm : n ∈ acc
   ·have e : addV n acc = acc := if_pos hm
    rw [e] at hp ⊢
    have hm2 : ((plc n acc : Nat) : Int) ∈ rng acc.length := rng_mem.2 ⟨by omega, by omega⟩
    have e2 : addV ((plc n acc : Nat) : Int) (rng acc.length) = rng acc.length := if_pos hm2
    rw [e2, plc_rng hp]
    exact ⟨rfl, rfl⟩
   ·have e : addV n acc = acc ++ [n] := if_neg hm
    rw [e, plc_new hm]
    have hm2 : ((acc.length : Nat) : Int) ∉ rng acc.length := fun h => by have := rng_mem.1 h; omega
    have e2 : addV ((acc.length : Nat) : Int) (rng acc.length) = rng (acc.length + 1) := by rw [rng_succ]; exact if_neg hm2
    rw [e2, plc_rng (by omega)]
    simp
  ·simp only [rnT, vsT, if_neg hk]
   have hL : ∀ (l : List Tm) (acc : List Int), szL l ≤ N → rnL (rnL l acc) (rng acc.length) = rnL l acc ∧ vsL (rnL l acc) (rng acc.length) = rng (vsL l acc).length := by
    intro l
    induction l with
    | nil => intro acc _; exact ⟨rfl, rfl⟩
    | cons a r ihl =>
     intro acc h
     simp only [szL] at h
     obtain ⟨h1, h2⟩ := rn_again N a (by omega) acc
     obtain ⟨h3, h4⟩ := ihl (vsT a acc) (by omega)
     simp only [rnL, vsL]
     rw [h1, h2, h3, h4]
     exact ⟨rfl, rfl⟩
   obtain ⟨h1, h2⟩ := hL l acc (by omega)
   rw [h1, h2]
   exact ⟨rfl, rfl⟩
theorem rn_rn (t : Tm) : rnT (rnT t []) [] = rnT t [] := (rn_again _ t (Nat.le_refl _) []).1
theorem names_same {f : Int → Int} (hf : ∀ x y, f x = f y → x = y) (t : Tm) : rnT (rpT f (rnT t [])) [] = rnT t [] := by
 rw [rn_rp hf, rn_rn]
end Go.El
