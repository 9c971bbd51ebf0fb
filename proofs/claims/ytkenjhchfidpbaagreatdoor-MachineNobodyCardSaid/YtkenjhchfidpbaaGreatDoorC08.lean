/- The evaluator's operations on maps are the model's. -/
import Derived.Test.YtkenjhchfidpbaaGreatDoorC07
namespace Go.Ev
open Go.RowKit
section
variable {C : Ctx} {P : Program} {N : Kp} {φ : Pl} {h h' : H} {w : World} {T : PT AV} {a : Act}

def setO (w : World) (r : Nat) (o : Obj) : World := { w with heap := w.heap.setIfInBounds r o }
theorem getObj_run {r : Nat} {o : Obj} (ho : w.heap[r]? = some o) (hc : ∀ c e f, o ≠ .cells c e f) : (getObj r).run P w = .ok o w := by
  unfold getObj
  cases o with
  | cells c e f => exact absurd rfl (hc c e f)
  | _ => simp only [Sem.run, ho]
theorem setObj_run {r : Nat} {o o' : Obj} (ho : w.heap[r]? = some o) (hc : ∀ c e f, o ≠ .cells c e f) : (setObj r o').run P w = .ok () (setO w r o') := by
  unfold setObj
  cases o with
  | cells c e f => exact absurd rfl (hc c e f)
  | _ => simp only [Sem.run, ho]; rfl
theorem setO_at {r : Nat} {o o' : Obj} (ho : w.heap[r]? = some o) : (setO w r o').heap[r]? = some o' := by
  have : r < w.heap.size := (Array.getElem?_eq_some_iff.1 ho).1
  simp [setO, this]
theorem setO_ne {r j : Nat} {o' : Obj} (hj : j ≠ r) : (setO w r o').heap[j]? = w.heap[j]? := by
  simp only [setO, Array.getElem?_setIfInBounds]
  rw [if_neg (by omega)]
theorem setO_size {r : Nat} {o' : Obj} : (setO w r o').heap.size = w.heap.size := by simp [setO]
theorem below_setO {r : Nat} {o' : Obj} (hr : ¬ N.o r) : Below N w (setO w r o') := ⟨rfl, rfl, rfl, by rw [setO_size]; exact Nat.le_refl _, fun k hk => setO_ne (fun e => hr (e ▸ hk))⟩
/-- A block that is no row is another one. -/
theorem Sim.updO (s : Sim N φ h w) {i : Nat} {b0 b1 : Blk} (hb : h.b.get i = some b0) (hro : ro b0 = false) {r : Nat} (hp : φ i = some (r, 0)) {o o' : Obj} (ho : w.heap[r]? = some o) (hr : BR φ b1 o' 0) (hno : ∀ cs t fr, o' ≠ .cells cs t fr := by intros; exact Obj.noConfusion) :
    Sim N φ ⟨h.b.put i b1, h.nx⟩ (setO w r o') ∧ Below N w (setO w r o') :=
  ⟨s.upd hb hro hp (setO_at ho) hr (fun _ hj => setO_ne hj) setO_size (fun cs t fr e => absurd e (hno cs t fr)), below_setO (s.own i b0 r 0 hb hro hp)⟩

/-- The block of a map. -/
theorem Sim.map (s : Sim N φ h w) {i : Nat} {es : List (AV × AV × Nat)} {ck : Nat} (hb : h.b.get i = some (.map es ck)) {r : Nat} (hp : φ i = some (r, 0)) :
    ∃ es', w.heap[r]? = some (.map es' ck) ∧ ER φ es es'.toList := by
  obtain ⟨o, ho, hr⟩ := s.at hb hp
  cases hr with
  | map _ es' _ he => exact ⟨es', ho, he⟩

theorem lookA_ok (K : CtxOk C P) (s : Sim N φ h w) {t : TypeId} {m k v : AV} {m' k' : Value} {ok : Bool} (hm : VR φ m m') (hk : VR φ k k') (e : lookA C h t m k ok = some v) :
    ∃ v', (Instr.lookup t m' k' ok).run P w = .ok v' w ∧ VR φ v v' := by
  unfold lookA at e
  split at e
  · rename_i kt et hu
    cases hko : keyOk C 50 kt k with
    | false => rw [hko] at e; exact absurd e (by simp)
    | true =>
      rw [hko] at e; simp only [cond_true] at e
      have hck : ∀ b, (Instr.checkKey b 10000 kt k').run P w = .ok () w := fun b => keyOk_ok K b 50 kt k k' hko hk 10000 (by omega)
      have fin : ∀ {x : AV} {x' : Value} {f : Bool}, VR φ x x' → VR φ (bif ok then .tup [x, .bool f] else x) (if ok then .tuple #[x', .bool f] else x') := by
        intro x x' f hx
        cases ok
        · exact hx
        · exact .tup _ _ (.cons _ _ _ _ hx (.cons _ _ _ _ (.bool f) .nil))
      split at e
      · cases hm
        split at e
        · rename_i z hz
          injection e with e; subst e
          obtain ⟨z', hz1, hz2⟩ := run_zer K hz w
          have hfind : (Instr.findKey kt k' []).run P w = .ok none w := by
            cases hkt : und C kt with
            | none => unfold keyOk at hko; rw [hkt] at hko; cases k <;> exact absurd hko (by simp)
            | some d => simp [Instr.findKey, run_und K hkt, Instr.findNow]
          refine ⟨_, ?_, fin (hz2 φ)⟩
          simp only [Instr.lookup, Sem.run_bind, run_und K hu, Result.andThen_ok, Sem.run_pure, hck, hfind, hz1]
        · exact absurd e (by simp)
      · rename_i i
        cases hm with
        | map _ r hr =>
          split at e
          · rename_i es ck hb
            obtain ⟨es', ho, her⟩ := s.map hb hr
            have hg : (getObj r).run P w = .ok (.map es' ck) w := getObj_run ho (by intro c e f; exact Obj.noConfusion)
            have hkt : ∃ d, und C kt = some d := by
              cases hkt : und C kt with
              | none => unfold keyOk at hko; rw [hkt] at hko; cases k <;> exact absurd hko (by simp)
              | some d => exact ⟨d, rfl⟩
            obtain ⟨d, hkt⟩ := hkt
            split at e
            · rename_i j x hf
              injection e with e; subst e
              obtain ⟨r', h1, h2⟩ := findE_ok K s hkt hk her hf
              cases r' with
              | none => exact h2.elim
              | some q =>
                obtain ⟨q1, q2⟩ := q
                refine ⟨_, ?_, fin h2.2⟩
                simp only [Instr.lookup, Sem.run_bind, run_und K hu, Result.andThen_ok, hg, Sem.run_pure, hck, h1]
            · rename_i hf
              split at e
              · rename_i z hz
                injection e with e; subst e
                obtain ⟨z', hz1, hz2⟩ := run_zer K hz w
                obtain ⟨r', h1, h2⟩ := findE_ok K s hkt hk her hf
                cases r' with
                | some q => exact h2.elim
                | none =>
                  refine ⟨_, ?_, fin (hz2 φ)⟩
                  simp only [Instr.lookup, Sem.run_bind, run_und K hu, Result.andThen_ok, hg, Sem.run_pure, hck, h1, hz1]
              · exact absurd e (by simp)
            · exact absurd e (by simp)
          · exact absurd e (by simp)
      · exact absurd e (by simp)
  · exact absurd e (by simp)

theorem bits0_eq {x y : AV} (e : bits0 x y = true) : x = y := by
  unfold bits0 at e
  split at e
  · split at e <;> first | rfl | exact absurd e (by simp)
  · simp only [Bool.and_eq_true] at e
    rw [(kEq_eq _ _).1 e.1]
    have := e.2; rw [eqI_eq] at this
    rw [beq_iff_eq.1 this]
  · rw [eqS_eq] at e; rw [beq_iff_eq.1 e]
  · simp only [Bool.and_eq_true] at e
    rw [Nat.eq_of_beq_eq_true e.1, Nat.eq_of_beq_eq_true e.2]
  · rfl
  · exact absurd e (by simp)
theorem bits0_same {x y : AV} (e : bits0 x y = true) {u v : Value} (hu : VR φ x u) (hv : VR φ y v) (n : Nat) : Instr.sameBits n u v = true := by
  have := bits0_eq e
  subst this
  cases x with
  | bool b => cases hu; cases hv; simp [Instr.sameBits]
  | int k n => cases hu; cases hv; simp [Instr.sameBits]
  | str s =>
    cases hu with
    | str b =>
      generalize hs : b.data.toList.map UInt8.toNat = s at hv
      cases hv with
      | str c =>
        have := map_toNat_inj hs
        have hbc : b = c := by
          cases b with | mk bd => cases c with | mk cd => simp only [ByteArray.mk.injEq]; exact Array.toList_inj.1 this
        subst hbc
        simp [Instr.sameBits, beq_toListBytes]
  | ptr i o =>
    cases hu with
    | ptr _ _ b k hb =>
      cases hv with
      | ptr _ _ b' k' hb' =>
        rw [hb] at hb'; injection hb' with hb'; injection hb' with e1 e2; subst e1 e2
        simp [Instr.sameBits]
  | nilp => cases hu; cases hv; simp [Instr.sameBits]
  | _ => exact absurd e (by simp [bits0])
theorem bitsL_same : ∀ {x y : List AV}, bitsL x y = true → ∀ {u v : List Value}, VRs φ x u → VRs φ y v → ∀ n, u.length = v.length ∧ x = y ∧ (u.zip v).all (fun p => Instr.sameBits n p.1 p.2) = true
  | [], [], _, u, v, hu, hv, n => by cases hu; cases hv; exact ⟨rfl, rfl, rfl⟩
  | [], _ :: _, e, _, _, _, _, _ => by exact absurd e (by simp [bitsL])
  | _ :: _, [], e, _, _, _, _, _ => by exact absurd e (by simp [bitsL])
  | x :: a, y :: b, e, u, v, hu, hv, n => by
    cases hu with
    | cons _ u' _ us h1 h2 =>
      cases hv with
      | cons _ v' _ vs h3 h4 =>
        simp only [bitsL, Bool.and_eq_true] at e
        obtain ⟨e1, e2, e3⟩ := bitsL_same e.2 h2 h4 n
        have := bits0_same e.1 h1 h3 n
        exact ⟨by simp [e1], by rw [bits0_eq e.1, e2], by simp [this, e3]⟩
theorem bitsA_same {x y : AV} (e : bitsA x y = true) {u v : Value} (hu : VR φ x u) (hv : VR φ y v) (n : Nat) : x = y ∧ Instr.sameBits (n + 1) u v = true := by
  unfold bitsA at e
  split at e
  · cases hu with
    | agg _ us h1 =>
      cases hv with
      | agg _ vs h2 =>
        obtain ⟨e1, e2, e3⟩ := bitsL_same e h1 h2 n
        refine ⟨by rw [e2], ?_⟩
        have hsz : us.size = vs.size := by simpa using e1
        simp only [Instr.sameBits, hsz, beq_self_eq_true, Bool.true_and]
        exact e3
  · have := bits0_eq e
    subst this
    exact ⟨rfl, bits0_same e hu hv _⟩

theorem ER.length {l : List (AV × AV × Nat)} {l' : List MapEntry} (hh : ER φ l l') : l'.length = l.length := by
  induction hh with
  | nil => rfl
  | cons _ _ _ _ _ _ _ _ _ _ ih => simp [ih]
theorem ER.snoc {l : List (AV × AV × Nat)} {l' : List MapEntry} (hh : ER φ l l') {k v : AV} {n : Nat} {k' v' : Value} (hk : VR φ k k') (hv : VR φ v v') : ER φ (l ++ [(k, v, n)]) (l' ++ [⟨k', v', n⟩]) := by
  induction hh with
  | nil => exact .cons _ _ _ _ _ _ _ hk hv .nil
  | cons _ _ _ _ _ _ _ a b _ ih => exact .cons _ _ _ _ _ _ _ a b ih
theorem keyAt_some : ∀ {es : List (AV × AV × Nat)} {j : Nat} {k : AV}, keyAt es j k = true → ∃ ka va n, es[j]? = some (ka, va, n) ∧ bitsA ka k = true
  | [], _, _, e => by exact absurd e (by simp [keyAt])
  | (ka, va, n) :: _, 0, _, e => ⟨ka, va, n, rfl, e⟩
  | _ :: l, j + 1, k, e => by
    have e' : keyAt l j k = true := e
    obtain ⟨ka, va, n, h1, h2⟩ := keyAt_some e'
    exact ⟨ka, va, n, by simpa using h1, h2⟩
theorem ER.get {l : List (AV × AV × Nat)} {l' : List MapEntry} (hh : ER φ l l') {j : Nat} {k v : AV} {n : Nat} (e : l[j]? = some (k, v, n)) : ∃ m, l'[j]? = some m ∧ VR φ k m.key ∧ VR φ v m.val ∧ m.born = n := by
  induction hh generalizing j with
  | nil => simp at e
  | cons _ _ _ _ k' v' _ a b _ ih =>
    cases j with
    | zero => simp at e; obtain ⟨rfl, rfl, rfl⟩ := e; exact ⟨⟨k', v', _⟩, by simp, a, b, rfl⟩
    | succ j => simp at e; obtain ⟨m, h1, h2⟩ := ih e; exact ⟨m, by simpa using h1, h2⟩
/-- An entry's value is another one; its key may be another spelling of the same. -/
theorem ER.set {l : List (AV × AV × Nat)} {l' : List MapEntry} (hh : ER φ l l') {j : Nat} {_k v : AV} {_k' v' : Value} (hv : VR φ v v') (f : MapEntry → MapEntry)
    (hf : ∀ ka va n m, l[j]? = some (ka, va, n) → VR φ ka m.key → m.born = n → VR φ ka (f m).key ∧ (f m).val = v' ∧ (f m).born = n) : ER φ (setE l j v) (l'.modify j f) := by
  induction hh generalizing j with
  | nil => cases j <;> exact .nil
  | cons ka va n l ka' va' l' a b t ih =>
    cases j with
    | zero =>
      obtain ⟨h1, h2, h3⟩ := hf ka va n ⟨ka', va', n⟩ rfl a rfl
      have : (f ⟨ka', va', n⟩) = ⟨(f ⟨ka', va', n⟩).key, v', n⟩ := by
        generalize f ⟨ka', va', n⟩ = m at h2 h3 ⊢
        obtain ⟨x, y, z⟩ := m
        simp only at h2 h3; rw [h2, h3]
      show ER φ ((ka, v, n) :: l) (f ⟨ka', va', n⟩ :: l')
      rw [this]
      exact .cons _ _ _ _ _ _ _ h1 hv t
    | succ j => exact .cons _ _ _ _ _ _ _ a b (ih (fun ka va n m e => hf ka va n m (by simpa using e)))
theorem ER.del {l : List (AV × AV × Nat)} {l' : List MapEntry} (hh : ER φ l l') : ∀ (j : Nat), ER φ (delE l j) (l'.eraseIdx j) := by
  induction hh with
  | nil => intro j; cases j <;> exact .nil
  | cons ka va n l ka' va' l' a b t ih =>
    intro j
    cases j with
    | zero => exact t
    | succ j => exact .cons _ _ _ _ _ _ _ a b (ih j)

theorem key_type (_K : CtxOk C P) {t : TypeId} {k : AV} (e : keyOk C 50 t k = true) : ∃ d, und C t = some d := by
  cases hkt : und C t with
  | none => unfold keyOk at e; rw [hkt] at e; cases k <;> exact absurd e (by simp)
  | some d => exact ⟨d, rfl⟩

theorem updA_ok (K : CtxOk C P) (s : Sim N φ h w) {t : TypeId} {m k v : AV} {m' k' v' : Value} (hm : VR φ m m') (hk : VR φ k k') (hv : VR φ v v') (e : updA C h t m k v = some h') :
    ∃ w', (Instr.mapUpdate t m' k' v').run P w = .ok () w' ∧ Sim N φ h' w' ∧ Below N w w' := by
  unfold updA at e
  split at e
  · rename_i kt et hu
    cases hko : keyOk C 50 kt k with
    | false => rw [hko] at e; exact absurd e (by simp)
    | true =>
      rw [hko] at e; simp only [cond_true] at e
      have hck : ∀ b, (Instr.checkKey b 10000 kt k').run P w = .ok () w := fun b => keyOk_ok K b 50 kt k k' hko hk 10000 (by omega)
      obtain ⟨d, hkt⟩ := key_type K hko
      split at e
      · rename_i i
        cases hm with
        | map _ r hr =>
          split at e
          · rename_i es ck hb
            obtain ⟨es', ho, her⟩ := s.map hb hr
            have hg : (getObj r).run P w = .ok (.map es' ck) w := getObj_run ho (by intro c e f; exact Obj.noConfusion)
            have hset : ∀ o', (setObj r o').run P w = .ok () (setO w r o') := fun o' => setObj_run ho (by intro c e f; exact Obj.noConfusion)
            split at e
            · rename_i j x hf
              obtain ⟨r', h1, h2⟩ := findE_ok K s hkt hk her hf
              cases r' with
              | none => exact h2.elim
              | some q =>
                obtain ⟨q1, q2⟩ := q
                obtain ⟨rfl, hq⟩ := h2
                cases hka : keyAt es j k with
                | false => rw [hka] at e; exact absurd e (by simp)
                | true =>
                  rw [hka] at e; simp only [cond_true] at e
                  injection e with e; subst e
                  obtain ⟨ka, va, n, g1, g2⟩ := keyAt_some hka
                  obtain ⟨en, p1, p2, p3, p4⟩ := her.get g1
                  obtain ⟨b1, b2⟩ := bitsA_same g2 p2 hk 9999
                  subst b1
                  have p1' : es'[j]? = some en := by simpa using p1
                  have hkeep : (Instr.keyThatStays (((es'[j]?).map (·.key)).getD k') k').run P w = .ok k' w := by
                    rw [p1']; simp only [Option.map_some, Option.getD_some, Instr.keyThatStays]
                    rw [if_pos b2]; rfl
                  obtain ⟨z1, z2⟩ := s.updO hb rfl hr ho (o' := .map (es'.modify j fun e => { e with key := k', val := v' }) ck) (b1 := .map (setE es j v) ck) (.map _ _ _ (by
                    rw [Array.toList_modify]
                    exact her.set (_k' := k') (_k := ka) hv _ (fun ka2 va2 n2 m2 g3 _ hbn => by
                      rw [g1] at g3; injection g3 with g3; injection g3 with g4 g5; subst g4
                      exact ⟨hk, rfl, hbn⟩)))
                  refine ⟨_, ?_, z1, z2⟩
                  simp only [Instr.mapUpdate, Sem.run_bind, run_und K hu, Result.andThen_ok, hg, hck, h1, hkeep, hset]
            · rename_i hf
              injection e with e; subst e
              obtain ⟨r', h1, h2⟩ := findE_ok K s hkt hk her hf
              cases r' with
              | some q => exact h2.elim
              | none =>
                obtain ⟨z1, z2⟩ := s.updO hb rfl hr ho (o' := .map (es'.push { key := k', val := v', born := ck }) (ck + 1)) (b1 := .map (es ++ [(k, v, ck)]) (ck + 1)) (.map _ _ _ (by
                  rw [Array.toList_push]; exact her.snoc hk hv))
                refine ⟨_, ?_, z1, z2⟩
                simp only [Instr.mapUpdate, Sem.run_bind, run_und K hu, Result.andThen_ok, hg, hck, h1, hset]
            · exact absurd e (by simp)
          · exact absurd e (by simp)
      · exact absurd e (by simp)
  · exact absurd e (by simp)
end
end Go.Ev

/- The evaluator's other operations on maps, and its iterators, are the model's. -/
namespace Go.Ev
open Go.RowKit
section
variable {C : Ctx} {P : Program} {N : Kp} {φ : Pl} {h h' : H} {w : World} {T : PT AV} {a : Act}

theorem Sim.congr {k : H} (s : Sim N φ k w) (e : ∀ j, h.b.get j = k.b.get j) (n : h.nx = k.nx) : Sim N φ h w :=
  ⟨fun i b hb => s.blk i b (by rw [← e]; exact hb), fun i j b c r k k' h1 h2 => s.inj i j b c r k k' (by rw [← e]; exact h1) (by rw [← e]; exact h2), fun i hi => s.fresh i (by rw [← n]; exact hi),
    fun i b r k hb => s.own i b r k (by rw [← e]; exact hb), s.glob, by rw [n]; exact s.big, by rw [n]; exact s.low, s.size, fun i b r k hb => s.hid i b r k (by rw [← e]; exact hb), by rw [n]; exact s.res, fun i b r k cs t fr hb => s.rm i b r k cs t fr (by rw [← e]; exact hb)⟩
/-- A block that is no row is another one that stands for the same. -/
theorem Sim.keepO (s : Sim N φ h w) {i : Nat} {b0 : Blk} (hb : h.b.get i = some b0) (hro : ro b0 = false) {r : Nat} (hp : φ i = some (r, 0)) {o o' : Obj} (ho : w.heap[r]? = some o) (hr : BR φ b0 o' 0) (hno : ∀ cs t fr, o' ≠ .cells cs t fr := by intros; exact Obj.noConfusion) :
    Sim N φ h (setO w r o') ∧ Below N w (setO w r o') := by
  obtain ⟨a, b⟩ := s.updO hb hro hp ho hr hno
  refine ⟨a.congr (fun j => ?_) rfl, b⟩
  have hi : i < 5000000 := Nat.lt_of_lt_of_le (s.lt hb) s.low
  rw [put_get _ _ _ _ hi]
  by_cases hj : j = i
  · subst hj; rw [if_pos rfl]; exact hb
  · rw [if_neg hj]

theorem delA_ok (K : CtxOk C P) (s : Sim N φ h w) {t : TypeId} {ts : Array TypeId} (ht : ts[0]? = some t) {m k : AV} {m' k' : Value} (hm : VR φ m m') (hk : VR φ k k') (e : delA C h t m k = some h') (ty : TypeId) :
    ∃ w', (Builtin.delete_ ts ty #[m', k']).run P w = .ok (.tuple #[]) w' ∧ Sim N φ h' w' ∧ Below N w w' := by
  have hq0 : (#[m', k'] : Array Value)[0]? = some m' := rfl
  have hq1 : (#[m', k'] : Array Value)[1]? = some k' := rfl
  unfold delA at e
  split at e
  · rename_i kt et hu
    cases hko : keyOk C 50 kt k with
    | false => rw [hko] at e; exact absurd e (by simp)
    | true =>
      rw [hko] at e; simp only [cond_true] at e
      have hck : ∀ b, (Instr.checkKey b 10000 kt k').run P w = .ok () w := fun b => keyOk_ok K b 50 kt k k' hko hk 10000 (by omega)
      obtain ⟨d, hkt⟩ := key_type K hko
      split at e
      · cases hm
        injection e with e; subst e
        exact ⟨w, by simp only [Builtin.delete_, ht, hq0, hq1, Sem.run_bind, run_und K hu, Result.andThen_ok, hck, Sem.run_pure], s, Below.refl N w⟩
      · rename_i i
        cases hm with
        | map _ r hr =>
          split at e
          · rename_i es ck hb
            obtain ⟨es', ho, her⟩ := s.map hb hr
            have hg : (getObj r).run P w = .ok (.map es' ck) w := getObj_run ho (by intro c e f; exact Obj.noConfusion)
            have hset : ∀ o', (setObj r o').run P w = .ok () (setO w r o') := fun o' => setObj_run ho (by intro c e f; exact Obj.noConfusion)
            split at e
            · rename_i j x hf
              injection e with e; subst e
              obtain ⟨r', h1, h2⟩ := findE_ok K s hkt hk her hf
              cases r' with
              | none => exact h2.elim
              | some q =>
                obtain ⟨q1, q2⟩ := q
                obtain ⟨rfl, hq⟩ := h2
                obtain ⟨z1, z2⟩ := s.updO hb rfl hr ho (o' := .map (es'.eraseIdxIfInBounds j) ck) (b1 := .map (delE es j) ck) (.map _ _ _ (by
                  have : (es'.eraseIdxIfInBounds j).toList = es'.toList.eraseIdx j := by
                    unfold Array.eraseIdxIfInBounds
                    split
                    · exact Array.toList_eraseIdx
                    · rw [List.eraseIdx_of_length_le (by simp; omega)]
                  rw [this]; exact her.del j))
                refine ⟨_, ?_, z1, z2⟩
                simp only [Builtin.delete_, ht, hq0, hq1, Sem.run_bind, run_und K hu, Result.andThen_ok, hg, hck, h1, hset, Sem.run_pure]
            · rename_i hf
              injection e with e; subst e
              obtain ⟨r', h1, h2⟩ := findE_ok K s hkt hk her hf
              cases r' with
              | some q => exact h2.elim
              | none =>
                obtain ⟨z1, z2⟩ := s.keepO hb rfl hr ho (o' := .map es' ck) (.map _ _ _ her)
                refine ⟨_, ?_, z1, z2⟩
                simp only [Builtin.delete_, ht, hq0, hq1, Sem.run_bind, run_und K hu, Result.andThen_ok, hg, hck, h1, hset, Sem.run_pure]
            · exact absurd e (by simp)
          · exact absurd e (by simp)
      · exact absurd e (by simp)
  · exact absurd e (by simp)

theorem ER.key {l : List (AV × AV × Nat)} {l' : List MapEntry} (hh : ER φ l l') {j : Nat} {ka va : AV} {n : Nat} (e : l[j]? = some (ka, va, n)) {k' : Value} (hk : VR φ ka k') : ER φ l (l'.modify j fun e => { e with key := k' }) := by
  induction hh generalizing j with
  | nil => simp at e
  | cons kb vb m l kb' vb' l' a b t ih =>
    cases j with
    | zero =>
      simp at e; obtain ⟨rfl, rfl, rfl⟩ := e
      exact .cons _ _ _ _ k' vb' l' hk b t
    | succ j => exact .cons _ _ _ _ _ _ _ a b (ih (by simpa using e))
theorem entA_ok (K : CtxOk C P) (s : Sim N φ h w) {t : TypeId} {m k v : AV} {m' k' : Value} (hm : VR φ m m') (hk : VR φ k k') (e : entA C h t m k = some (v, h')) :
    ∃ w' v', (Instr.mapEntry t m' k').run P w = .ok v' w' ∧ VR φ v v' ∧ Sim N φ h' w' ∧ Below N w w' := by
  unfold entA at e
  split at e
  · rename_i kt et hu
    cases hko : keyOk C 50 kt k with
    | false => rw [hko] at e; exact absurd e (by simp)
    | true =>
      rw [hko] at e; simp only [cond_true] at e
      have hck : ∀ b, (Instr.checkKey b 10000 kt k').run P w = .ok () w := fun b => keyOk_ok K b 50 kt k k' hko hk 10000 (by omega)
      obtain ⟨d, hkt⟩ := key_type K hko
      split at e
      · rename_i i
        cases hm with
        | map _ r hr =>
          split at e
          · rename_i es ck hb
            obtain ⟨es', ho, her⟩ := s.map hb hr
            have hg : (getObj r).run P w = .ok (.map es' ck) w := getObj_run ho (by intro c e f; exact Obj.noConfusion)
            have hset : ∀ o', (setObj r o').run P w = .ok () (setO w r o') := fun o' => setObj_run ho (by intro c e f; exact Obj.noConfusion)
            split at e
            · rename_i j x hf
              obtain ⟨r', h1, h2⟩ := findE_ok K s hkt hk her hf
              cases r' with
              | none => exact h2.elim
              | some q =>
                obtain ⟨q1, q2⟩ := q
                obtain ⟨rfl, hq⟩ := h2
                cases hka : keyAt es j k with
                | false => rw [hka] at e; exact absurd e (by simp)
                | true =>
                  rw [hka] at e; simp only [cond_true] at e
                  obtain ⟨ka, va, n, g1, g2⟩ := keyAt_some hka
                  rw [g1] at e
                  injection e with e; injection e with e1 e2; subst e1 e2
                  obtain ⟨en, p1, p2, p3, p4⟩ := her.get g1
                  obtain ⟨b1, b2⟩ := bitsA_same g2 p2 hk 9999
                  subst b1
                  have p1' : es'[j]? = some en := by simpa using p1
                  have hkeep : (Instr.keyThatStays (((es'[j]?).map (·.key)).getD k') k').run P w = .ok k' w := by
                    rw [p1']; simp only [Option.map_some, Option.getD_some, Instr.keyThatStays]
                    rw [if_pos b2]; rfl
                  obtain ⟨z1, z2⟩ := s.keepO hb rfl hr ho (o' := .map (es'.modify j fun e => { e with key := k' }) ck) (.map _ _ _ (by rw [Array.toList_modify]; exact her.key g1 hk))
                  refine ⟨_, .tuple #[q2, goInt n], ?_, .tup _ _ (.cons _ _ _ _ hq (.cons _ _ _ _ (.int _ _) .nil)), z1, z2⟩
                  simp only [Instr.mapEntry, Sem.run_bind, run_und K hu, Result.andThen_ok, hg, hck, h1, hkeep, hset, Sem.run_pure]
                  rw [p1']; simp only [Option.map_some, Option.getD_some, p4]
            · rename_i hf
              split at e
              · rename_i z hz
                injection e with e; injection e with e1 e2; subst e1 e2
                obtain ⟨z', hz1, hz2⟩ := run_zer K hz w
                obtain ⟨r', h1, h2⟩ := findE_ok K s hkt hk her hf
                cases r' with
                | some q => exact h2.elim
                | none =>
                  obtain ⟨z1, z2⟩ := s.updO hb rfl hr ho (o' := .map (es'.push { key := k', val := z', born := ck }) (ck + 1)) (b1 := .map (es ++ [(k, z, ck)]) (ck + 1)) (.map _ _ _ (by
                    rw [Array.toList_push]; exact her.snoc hk (hz2 φ)))
                  refine ⟨_, .tuple #[z', goInt ck], ?_, .tup _ _ (.cons _ _ _ _ (hz2 φ) (.cons _ _ _ _ (.int _ _) .nil)), z1, z2⟩
                  simp only [Instr.mapEntry, Sem.run_bind, run_und K hu, Result.andThen_ok, hg, hck, h1, hz1, hset, Sem.run_pure]
              · exact absurd e (by simp)
            · exact absurd e (by simp)
          · exact absurd e (by simp)
      · exact absurd e (by simp)
  · exact absurd e (by simp)

theorem born_find {es : List (AV × AV × Nat)} {l : List MapEntry} (her : ER φ es l) (b : Nat) : ∀ (i j : Nat), bornAt es b i = some j → ∃ k, j = i + k ∧ l.findIdx? (fun e => (e.born : Int) == (b : Int)) = some k := by
  induction her with
  | nil => intro i j e; exact absurd e (by simp [bornAt])
  | cons ka va n es ka' va' l a c t ih =>
    intro i j e
    unfold bornAt at e
    rw [List.findIdx?_cons]
    cases hb : Nat.beq n b with
    | true =>
      rw [hb] at e; simp only [cond_true] at e
      injection e with e; subst e
      have := Nat.eq_of_beq_eq_true hb
      subst this
      exact ⟨0, rfl, by simp⟩
    | false =>
      rw [hb] at e; simp only [cond_false] at e
      obtain ⟨k, h1, h2⟩ := ih _ _ e
      have h1' : j = i + 1 + k := h1
      have hne : ((n : Int) == (b : Int)) = false := by
        have : n ≠ b := by intro hnb; subst hnb; exact absurd hb (by simp)
        simp; omega
      refine ⟨k + 1, by omega, ?_⟩
      simp only [hne, Bool.false_eq_true, if_false, h2]; rfl
theorem entSt_ok (s : Sim N φ h w) {t : TypeId} {m b v : AV} {m' b' v' : Value} (hm : VR φ m m') (hb : VR φ b b') (hv : VR φ v v') (e : entSt h m b v = some h') :
    ∃ w', (Instr.entryStore t m' b' v').run P w = .ok () w' ∧ Sim N φ h' w' ∧ Below N w w' := by
  unfold entSt at e
  split at e
  · rename_i i kd st
    cases hb
    cases hm with
    | map _ r hr =>
      split at e
      · rename_i es ck hbk
        obtain ⟨es', ho, her⟩ := s.map hbk hr
        split at e
        · rename_i j hj
          injection e with e; subst e
          obtain ⟨k, rfl, hk⟩ := born_find her st 0 j hj
          rw [Nat.zero_add] at hj ⊢
          have hk' : es'.findIdx? (fun e => (e.born : Int) == (st : Int)) = some k := by obtain ⟨l0⟩ := es'; simpa using hk
          have hg : (getObj r).run P w = .ok (.map es' ck) w := getObj_run ho (by intro c e f; exact Obj.noConfusion)
          have hset : ∀ o', (setObj r o').run P w = .ok () (setO w r o') := fun o' => setObj_run ho (by intro c e f; exact Obj.noConfusion)
          obtain ⟨z1, z2⟩ := s.updO hbk rfl hr ho (o' := .map (es'.modify k fun e => { e with val := v' }) ck) (b1 := .map (setE es k v) ck) (.map _ _ _ (by
            rw [Array.toList_modify]
            cases hes : es[k]? with
            | none => exact her.set (_k := .nilp) (_k' := v') hv _ (fun ka va n m g _ _ => by rw [hes] at g; exact absurd g (by simp))
            | some q =>
              exact her.set (_k := .nilp) (_k' := v') hv _ (fun ka va n m g hka hbn => ⟨hka, rfl, hbn⟩)))
          refine ⟨_, ?_, z1, z2⟩
          have hst : (asInt (.int kd (Int.ofNat st))).run P w = .ok (st : Int) w := rfl
          simp only [Instr.entryStore, Sem.run_bind, hg, Result.andThen_ok, hst, hk', hset]
        · exact absurd e (by simp)
      · exact absurd e (by simp)
  · exact absurd e (by simp)
end
end Go.Ev
