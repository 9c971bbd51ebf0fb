/- The evaluator's copies, cleared slices and maps, made slices and the round's entry are the model's. -/
import Derived.Test.YtkenjhchfidpbaaGreatDoorC10
import Derived.Deep.AppendSrc
namespace Go.Ev
open Go.RowKit
section
variable {C : Ctx} {P : Program} {N : Kp} {φ : Pl} {h h' : H} {w : World} {T : PT AV} {a : Act}

/-- Cells read. -/
theorem cells_ok (s : Sim N φ h w) {i o n : Nat} {l : List AV} (e : loadC h i o n = some l) {b k : Nat} (hp : φ i = some (b, k)) :
    ∃ l' : List Value, (∀ w' : World, w'.heap = w.heap → (loadCells ⟨b, k + o, none⟩ n).run P w' = .ok l'.toArray w') ∧ VRs φ l l' ∧ l'.length = n := by
  obtain ⟨l', h1, h2, h3⟩ := loadC_rel s e hp
  refine ⟨l', fun w' hw => ?_, h2, h1⟩
  have := run_loadCells_list (P := P) w' ⟨b, k + o, none⟩ l' (fun j v hj => by rw [Addr.add_mid, World.cell?_of_block (w := w) (w' := w') (by rw [hw])]; exact h3 j v hj)
  rw [h1] at this
  exact this
/-- Cells written. -/
theorem cellsW_ok (s : Sim N φ h w) {i o : Nat} {l : List AV} {l' : List Value} (e : storeC h i o l = some h') (hl : VRs φ l l') {b k : Nat} (hp : φ i = some (b, k)) :
    (storeCells ⟨b, k + o, none⟩ l').run P w = .ok () (w.setCells b (k + o) l') ∧ Sim N φ h' (w.setCells b (k + o) l') ∧ Below N w (w.setCells b (k + o) l') := by
  obtain ⟨a1, a2, a3, a4⟩ := storeC_rel s e hl hp
  have := run_storeCells_cells (P := P) b (k + o) l' 0 w (fun j hj => by simpa using (a3 j hj).1) (fun j hj => by simpa using (a3 j hj).2) a4
  exact ⟨by simpa only [Nat.add_zero] using this, a1, a2⟩

theorem lastN_eq : ∀ l : List Nat, lastN l = l.getLast?
  | [] => rfl
  | [_] => rfl
  | x :: y :: l => by
    show lastN (y :: l) = _
    rw [lastN_eq (y :: l), List.getLast?_cons_cons]
theorem ER.find {l : List (AV × AV × Nat)} {l' : List MapEntry} (hh : ER φ l l') {n : Nat} {k v : AV} {b : Nat} (e : l.find? (fun x => Nat.beq x.2.2 n) = some (k, v, b)) :
    ∃ k' v', l'.find? (fun x => x.born == n) = some ⟨k', v', b⟩ ∧ VR φ k k' ∧ VR φ v v' := by
  induction hh with
  | nil => exact absurd e (by simp)
  | cons k0 v0 n0 l k0' v0' l' hk hv t ih =>
    rw [List.find?_cons] at e
    rw [List.find?_cons]
    have hb : (n0 == n) = Nat.beq n0 n := by rw [Bool.eq_iff_iff, beq_iff_eq, Nat.beq_eq]
    simp only [hb]
    cases hn : Nat.beq n0 n with
    | true =>
      simp only [hn] at e
      injection e with e; injection e with e1 e2; injection e2 with e2 e3; subst e1 e2 e3
      exact ⟨k0', v0', rfl, hk, hv⟩
    | false =>
      simp only [hn] at e
      exact ih e
theorem entryA_ok (s : Sim N φ h w) {x v : AV} {x' : Value} (hx : VR φ x x') (e : entryA h x = some v) : ∃ v', (Instr.entry x').run P w = .ok v' w ∧ VR φ v v' := by
  unfold entryA at e
  split at e
  · rename_i r
    split at e
    · rename_i m since seen st hb
      obtain ⟨rr, o, hr, rfl, ho, hbr, hnc⟩ := s.it hx hb (by intros; exact Blk.noConfusion)
      cases hbr with
      | mit _ q hm _ seen' _ =>
        have hg : (getObj rr).run P w = .ok (.mapIter (some q) since seen' st) w := getObj_run ho hnc
        split at e
        · rename_i sn es ck hl hbm
          obtain ⟨es', hom, her⟩ := s.map hbm hm
          have hgm : (getObj q).run P w = .ok (.map es' ck) w := getObj_run hom (by intro c e f; exact Obj.noConfusion)
          have e1 := cond_some e
          clear e
          obtain ⟨hc, e⟩ := e1
          have hck := Nat.eq_of_beq_eq_true hc
          subst hck
          split at e
          · rename_i en hf
            obtain ⟨k, v0, b⟩ := en
            injection e with e; subst e
            obtain ⟨k', v', f1, f2, f3⟩ := her.find hf
            have hback : seen'.back? = some sn := by rw [lastN_eq] at hl; rw [← Array.getLast?_toList]; exact hl
            have hf' : es'.find? (fun x => x.born == sn) = some ⟨k', v', b⟩ := by rw [← Array.find?_toList]; exact f1
            refine ⟨.tuple #[k', v'], ?_, .tup _ _ (.cons _ _ _ _ f2 (.cons _ _ _ _ f3 .nil))⟩
            simp only [Instr.entry, Sem.run_bind, hg, Result.andThen_ok, hback, hgm, bne_self_eq_false, Bool.false_eq_true, if_false, hf', Sem.run_pure]
          · exact absurd e (by simp)
        · exact absurd e (by simp)
    · exact absurd e (by simp)
  · exact absurd e (by simp)

/-! What is appended or copied -/
theorem srcA_ok (s : Sim N φ h w) {z n : Nat} {x : AV} {x' : Value} {l : List AV} (hx : VR φ x x') (e : srcA h z x = some (n, l)) :
    (∀ w' : World, (Builtin.lenOf x').run P w' = .ok n w') ∧ (∀ n', n' ≤ n → ∃ l' : List Value, (∀ w' : World, w'.heap = w.heap → (Builtin.firstCells z n' x').run P w' = .ok l'.toArray w') ∧ VRs φ (l.take (n' * z)) l' ∧ l'.length = n' * z) ∧ l.length = n * z := by
  unfold srcA at e
  split at e
  · cases hx
    injection e with e; injection e with e1 e2; subst e1 e2
    exact ⟨fun _ => rfl, fun n' hn => by
      have : n' = 0 := by omega
      subst this
      exact ⟨[], fun _ _ => rfl, by simpa using VRs.nil, by simp⟩, by simp⟩
  · cases hx with
    | slz a c' =>
      injection e with e; injection e with e1 e2; subst e1 e2
      exact ⟨fun _ => rfl, fun n' hn => by
        have : n' = 0 := by omega
        subst this
        refine ⟨[], fun w' _ => ?_, by simpa using VRs.nil, by simp⟩
        simp only [Builtin.firstCells, Nat.zero_mul]
        rfl, by simp⟩
  · rename_i i off len c zz
    cases hx with
    | sl _ _ _ _ c' b k _ hb hc he hz =>
      split at e
      · rename_i l0 hl0
        injection e with e; injection e with e1 e2; subst e1 e2
        obtain ⟨t, cc, m, fl, hbb, hle, hg⟩ := loadC_row hl0
        have hlen := (getN_some _ _ _ hg).1
        obtain ⟨l', h1, h2, h3⟩ := loadC_rel s hl0 hb
        have hzz : Nat.mul len z = len * z := rfl
        rw [hzz] at h1 hlen
        refine ⟨fun _ => rfl, fun n' hn => ?_, hlen⟩
        have hmul : n' * z ≤ len * z := Nat.mul_le_mul_right z hn
        have hl : (l'.take (n' * z)).length = n' * z := by rw [List.length_take]; omega
        refine ⟨l'.take (n' * z), fun w' hw => ?_, h2.take _, hl⟩
        have := run_loadCells_list (P := P) w' ⟨b, k + off, none⟩ (l'.take (n' * z)) (fun j v hj => by
          rw [Addr.add_mid, World.cell?_of_block (w := w) (w' := w') (by rw [hw])]
          refine h3 j v ?_
          rw [List.getElem?_take] at hj
          split at hj
          · exact hj
          · exact absurd hj (by simp))
        rw [hl] at this
        exact this
      · exact absurd e (by simp)
  · rename_i b
    cases hx
    rename_i b
    obtain ⟨hz, e⟩ := cond_some e
    have hz' := Nat.eq_of_beq_eq_true hz
    subst hz'
    injection e with e; injection e with e1 e2; subst e1 e2
    have hlen : (nats b).length = b.size := nats_len b
    refine ⟨fun w' => by show _ = Result.ok (nats b).length w'; rw [hlen]; rfl, fun n' hn => ?_, by rw [List.length_map, Nat.mul_one]⟩
    have hn' : n' ≤ b.size := by rw [← hlen]; exact hn
    refine ⟨(b.data.toList.take n').map fun u => .int .u8 u.toNat, fun w' _ => ?_, ?_, ?_⟩
    · simp only [Builtin.firstCells, Sem.run_pure]
      congr 1
      apply Array.ext'
      simp [ByteArray.data_extract]
    · rw [Nat.mul_one, ← List.map_take, ← List.map_take, List.map_map]
      generalize b.data.toList.take n' = q
      induction q with
      | nil => exact .nil
      | cons u q ih => exact .cons _ _ _ _ (.int _ _) ih
    · rw [List.length_map, List.length_take, Array.length_toList, Nat.mul_one]
      have : b.data.size = b.size := rfl
      omega
  · exact absurd e (by simp)

theorem copyA_ok (K : CtxOk C P) (s : Sim N φ h w) {ts : Array TypeId} {d x v : AV} {d' x' : Value} (hd : VR φ d d') (hx : VR φ x x') (e : copyA C h ts.toList d x = some (v, h')) (ty : TypeId) :
    Made P N φ w (Builtin.copy_ ts ty #[d', x']) v h' := by
  have hq0 : (#[d', x'] : Array Value)[0]? = some d' := rfl
  have hq1 : (#[d', x'] : Array Value)[1]? = some x' := rfl
  unfold copyA at e
  split at e
  · exact absurd e (by simp)
  · rename_i t rest hts
    have ht : ts[0]? = some t := by rw [← Array.getElem?_toList, hts]; rfl
    split at e
    · rename_i el hu
      split at e
      · exact absurd e (by simp)
      · rename_i z hs
        split at e
        · exact absurd e (by simp)
        · rename_i n l hsrc
          obtain ⟨g1, g2, g3⟩ := srcA_ok (P := P) s hx hsrc
          split at e
          · cases hd
            injection e with e; injection e with e1 e2; subst e1 e2
            obtain ⟨l', f1, f2, f3⟩ := g2 0 (Nat.zero_le _)
            have f1 := f1 w rfl
            have hmin : Nat.min n 0 = 0 := Nat.min_zero n
            refine ⟨.int .i64 0, w, φ, ?_, Le.refl φ, .int _ _, s, Below.refl N w⟩
            simp only [Builtin.copy_, ht, hq0, hq1, Sem.run_bind, run_und K hu, Result.andThen_ok, g1, run_siz K hs, hmin, f1, Sem.run_pure]
            rfl
          · cases hd with
            | slz a c' =>
              injection e with e; injection e with e1 e2; subst e1 e2
              obtain ⟨l', f1, f2, f3⟩ := g2 0 (Nat.zero_le _)
              have f1 := f1 w rfl
              have hl' : l' = [] := List.eq_nil_of_length_eq_zero (by simpa using f3)
              subst hl'
              have hmin : Nat.min n 0 = 0 := Nat.min_zero n
              refine ⟨.int .i64 0, w, φ, ?_, Le.refl φ, .int _ _, s, Below.refl N w⟩
              simp only [Builtin.copy_, ht, hq0, hq1, Sem.run_bind, run_und K hu, Result.andThen_ok, g1, run_siz K hs, hmin, f1, Sem.run_pure]
              rfl
          · rename_i i off len c zz
            cases hd with
            | sl _ _ _ _ c' b k _ hb hc he hz =>
              have key : ∀ n', Nat.min n len = n' → n' ≤ n → ∀ h'', storeC h i off (l.take (n' * z)) = some h'' → Made P N φ w (Builtin.copy_ ts ty #[.slice (some ⟨b, k + off, none⟩) len c', x']) (.int .i64 (.ofNat n')) h'' := by
                intro n' hmin hle h'' hst
                obtain ⟨l', f1, f2, f3⟩ := g2 n' hle
                have f1 := f1 w rfl
                obtain ⟨w1, w2, w3⟩ := cellsW_ok (P := P) s hst f2 hb
                refine ⟨goInt n', _, φ, ?_, Le.refl φ, .int _ _, w2, w3⟩
                simp only [Builtin.copy_, ht, hq0, hq1, Sem.run_bind, run_und K hu, Result.andThen_ok, g1, run_siz K hs, hmin, f1, w1, Sem.run_pure]
              cases hcmp : Nat.ble n len with
              | true =>
                rw [hcmp] at e; simp only [cond_true] at e
                have hle := Nat.le_of_ble_eq_true hcmp
                split at e
                · rename_i h'' hst
                  injection e with e; injection e with e1 e2; subst e1 e2
                  exact key n (Nat.min_eq_left hle) (Nat.le_refl _) _ (by rw [List.take_of_length_le (by omega)]; exact hst)
                · exact absurd e (by simp)
              | false =>
                rw [hcmp] at e; simp only [cond_false] at e
                have hle : len ≤ n := by
                  rcases Nat.le_total n len with h1 | h1
                  · rw [Nat.ble_eq_true_of_le h1] at hcmp; exact absurd hcmp (by simp)
                  · exact h1
                split at e
                · rename_i h'' hst
                  injection e with e; injection e with e1 e2; subst e1 e2
                  exact key len (Nat.min_eq_right hle) hle _ hst
                · exact absurd e (by simp)
          · exact absurd e (by simp)
    · exact absurd e (by simp)

theorem clearA_ok (K : CtxOk C P) (s : Sim N φ h w) {ts : Array TypeId} {x : AV} {x' : Value} (hx : VR φ x x') (e : clearA C h ts.toList x = some h') (ty : TypeId) :
    ∃ w', (Builtin.clear_ ts ty #[x']).run P w = .ok (.tuple #[]) w' ∧ Sim N φ h' w' ∧ Below N w w' := by
  have hq0 : (#[x'] : Array Value)[0]? = some x' := rfl
  unfold clearA at e
  split at e
  · exact absurd e (by simp)
  · rename_i t rest hts
    have ht : ts[0]? = some t := by rw [← Array.getElem?_toList, hts]; rfl
    split at e
    · rename_i hu
      cases hx
      injection e with e; subst e
      exact ⟨w, by simp only [Builtin.clear_, ht, hq0, Sem.run_bind, run_und K hu, Result.andThen_ok, Sem.run_pure], s, Below.refl N w⟩
    · rename_i hu
      cases hx
      injection e with e; subst e
      exact ⟨w, by simp only [Builtin.clear_, ht, hq0, Sem.run_bind, run_und K hu, Result.andThen_ok, Sem.run_pure], s, Below.refl N w⟩
    · rename_i el i off n c zz hu
      cases hx with
      | sl _ _ _ _ c' b k _ hb hc he hz =>
        cases n with
        | zero =>
          have e' : some h = some h' := e
          injection e' with e'; subst e'
          exact ⟨w, by simp only [Builtin.clear_, ht, hq0, Sem.run_bind, run_und K hu, Result.andThen_ok, Sem.run_pure], s, Below.refl N w⟩
        | succ n =>
          have e' : (match zer C el with | some z => storeC h i off (repl (n + 1) (cellsA z)) | none => none) = some h' := e
          clear e
          split at e'
          · rename_i zv hz1
            obtain ⟨z', z1, z2⟩ := run_zer K hz1 w
            have hcr := cells_rel (z2 φ)
            have hlen : (cellsA zv).length = z'.cells.size := by have := hcr.length; simpa using this.symm
            obtain ⟨w1, w2, w3⟩ := cellsW_ok (P := P) s e' (repl_rel hcr hlen) hb
            refine ⟨_, ?_, w2, w3⟩
            have hzc : Builtin.zeroCells z'.cells (n + 1) = (Array.range ((n + 1) * z'.cells.size)).map (z'.cells[· % z'.cells.size]!) := rfl
            simp only [Builtin.clear_, ht, hq0, Sem.run_bind, run_und K hu, Result.andThen_ok, z1, hzc, w1, Sem.run_pure]
          · exact absurd e' (by simp)
    · rename_i hu
      cases hx
      injection e with e; subst e
      exact ⟨w, by simp only [Builtin.clear_, ht, hq0, Sem.run_bind, run_und K hu, Result.andThen_ok, Sem.run_pure], s, Below.refl N w⟩
    · rename_i kt et i hu
      cases hx with
      | map _ r hr =>
        split at e
        · rename_i es ck hb
          obtain ⟨es', ho, her⟩ := s.map hb hr
          injection e with e; subst e
          have hno : ∀ c e f, (Obj.map es' ck) ≠ .cells c e f := by intro c e f; exact Obj.noConfusion
          obtain ⟨z1, z2⟩ := s.updO hb rfl hr ho (o' := .map #[] ck) (b1 := .map [] ck) (.map [] #[] ck .nil)
          have hg : (getObj r).run P w = .ok (.map es' ck) w := getObj_run ho hno
          have hset : (setObj r (.map #[] ck)).run P w = .ok () (setO w r (.map #[] ck)) := setObj_run ho hno
          refine ⟨_, ?_, z1, z2⟩
          simp only [Builtin.clear_, ht, hq0, Sem.run_bind, run_und K hu, Result.andThen_ok, hg, hset, Sem.run_pure]
        · exact absurd e (by simp)
    · exact absurd e (by simp)

theorem makeSl_ok (K : CtxOk C P) (s : Sim N φ h w) {t : TypeId} {l c v : AV} {l' c' : Value} (hl : VR φ l l') (hc : VR φ c c') (e : makeSl C h t l c = some (v, h')) : Made P N φ w (Instr.makeSlice t l' c') v h' := by
  unfold makeSl at e
  split at e
  · rename_i el kl ln kc cn hu
    cases hl
    cases hc
    split at e
    · rename_i sz z b hs hz hb
      obtain ⟨hh, e1⟩ := cond_some e
      clear e
      simp only [Bool.and_eq_true] at hh
      obtain ⟨⟨⟨⟨h1, h2⟩, h3⟩, h4⟩, h5⟩ := hh
      have h1 : ln ≤ cn := Nat.le_of_ble_eq_true h1
      have h2 : cn * sz ≤ 100000 := Nat.le_of_ble_eq_true h2
      have h3 : cn * b ≤ 1000000 := Nat.le_of_ble_eq_true h3
      have h4 : cn ≤ 1000000 := Nat.le_of_ble_eq_true h4
      have h5 := Nat.eq_of_beq_eq_true h5
      split at e1
      · rename_i i k hn
        injection e1 with e1; injection e1 with e1 e2; subst e1 e2
        obtain ⟨bb, b1, b2⟩ := zero_row (K := K) hz h5 w (n := cn)
        obtain ⟨ψ, r0, r1, r2, r3, r4⟩ := newRow_made (P := P) s (b2 φ) hn
        refine ⟨.slice (some ⟨w.heap.size, 0, none⟩) ln cn, _, ψ, ?_, r1, by simpa using VR.sl (φ := ψ) i 0 ln cn cn w.heap.size 0 0 r2 (Nat.le_refl _) (fun _ => rfl) (fun h => absurd rfl h), r3, r4⟩
        obtain ⟨ti, t1, t2⟩ := byt_ok K hb
        have w1 : IntKind.i64.wrap (Int.ofNat ln) = (ln : Int) := wrap_nat .i64 ln (by simp only [lim]; omega)
        have w2 : IntKind.i64.wrap (Int.ofNat cn) = (cn : Int) := wrap_nat .i64 cn (by simp only [lim]; omega)
        have hty : (typeInfo el).run P w = .ok ti w := by simp [typeInfo, t1]
        have c1 : ¬ ((cn : Int) < 0) := by omega
        have c2 : ¬ ((ti.bytes : Int) * (cn : Int) > 2 ^ 48) := by
          rw [t2]
          have : ((b : Int) * (cn : Int)) = ((cn * b : Nat) : Int) := by rw [Nat.mul_comm]; simp
          rw [this]; omega
        have c3 : ¬ ((ln : Int) < 0) := by omega
        have c4 : ¬ ((ln : Int) > (cn : Int)) := by omega
        have hroom : ¬ (cn * ti.bytes > roomBytes) := by rw [t2]; unfold roomBytes; omega
        simp only [Instr.makeSlice, Sem.run_bind, run_und K hu, Result.andThen_ok, asInt, asIntOf, Sem.run_pure, hty, w1, w2, c1, c2, c3, c4, decide_false, Bool.or_false, Bool.false_eq_true, if_false, Int.toNat_natCast, askRoom, hroom, run_siz K hs, b1, r0]
      · exact absurd e1 (by simp)
    · exact absurd e (by simp)
  · exact absurd e (by simp)
end
end Go.Ev
