/- The evaluator's lengths, elements, maps are the model's. -/
import Derived.Test.YtkenjhchfidpbaaGreatDoorC06
namespace Go.Ev
open Go.RowKit
section
variable {C : Ctx} {P : Program} {N : Kp} {φ : Pl} {h h' : H} {w : World} {T : PT AV} {a : Act}

/-- A builtin's argument types, as the evaluator has them. -/
theorem lenA_ok (K : CtxOk C P) (s : Sim N φ h w) {ts : Array TypeId} {x v : AV} {x' : Value} (hx : VR φ x x') (e : lenA C h ts.toList x = some v) (ty : TypeId) :
    ∃ v', (Builtin.len_ ts ty #[x']).run P w = .ok v' w ∧ VR φ v v' := by
  unfold lenA at e
  split at e
  · exact absurd e (by simp)
  · rename_i t rest hts
    have ht : ts[0]? = some t := by rw [← Array.getElem?_toList, hts]; rfl
    have hq : ∀ u : Value, (#[u] : Array Value)[0]? = some u := fun _ => rfl
    split at e
    · rename_i b hu
      cases hx
      rename_i b
      injection e with e; subst e
      refine ⟨goInt b.size, by simp only [Builtin.len_, ht, hq, Sem.run_bind, run_und K hu, Result.andThen_ok]; rfl, ?_⟩
      have := nats_len b
      show VR φ (.int .i64 (.ofNat (nats b).length)) _
      rw [this]; exact .int _ _
    · rename_i hu
      cases hx
      injection e with e; subst e
      exact ⟨_, by simp only [Builtin.len_, ht, hq, Sem.run_bind, run_und K hu, Result.andThen_ok]; rfl, .int _ _⟩
    · rename_i hu
      cases hx
      injection e with e; subst e
      exact ⟨_, by simp only [Builtin.len_, ht, hq, Sem.run_bind, run_und K hu, Result.andThen_ok]; rfl, .int _ _⟩
    · rename_i hu
      cases hx
      injection e with e; subst e
      exact ⟨_, by simp only [Builtin.len_, ht, hq, Sem.run_bind, run_und K hu, Result.andThen_ok]; rfl, .int _ _⟩
    · rename_i hu
      injection e with e; subst e
      exact ⟨_, by simp only [Builtin.len_, ht, hq, Sem.run_bind, run_und K hu, Result.andThen_ok]; rfl, .int _ _⟩
    · rename_i ar hu
      split at e
      · rename_i n el hu2
        injection e with e; subst e
        exact ⟨goInt n, by simp only [Builtin.len_, ht, hq, Sem.run_bind, run_und K hu, run_und K hu2, Result.andThen_ok, Sem.run_pure], .int _ _⟩
      · exact absurd e (by simp)
    · rename_i hu
      cases hx
      injection e with e; subst e
      exact ⟨_, by simp only [Builtin.len_, ht, hq, Sem.run_bind, run_und K hu, Result.andThen_ok]; rfl, .int _ _⟩
    · rename_i i hu
      cases hx with
      | map _ r hr =>
        split at e
        · rename_i es ck hb
          injection e with e; subst e
          obtain ⟨o, ho, hbr⟩ := s.at hb hr
          cases hbr with
          | map _ es' _ her =>
            refine ⟨goInt es'.size, ?_, ?_⟩
            · simp only [Builtin.len_, ht, hq, Sem.run_bind, run_und K hu, Result.andThen_ok]
              simp [getObj, Sem.run, ho]
            · have : es'.size = es.length := by
                have : ∀ {l : List (AV × AV × Nat)} {l' : List MapEntry}, ER φ l l' → l'.length = l.length := by
                  intro l l' hh; induction hh with
                  | nil => rfl
                  | cons _ _ _ _ _ _ _ _ _ _ ih => simp [ih]
                have := this her; simpa using this
              rw [this]; exact .int _ _
        · exact absurd e (by simp)
    · exact absurd e (by simp)

theorem capA_ok (K : CtxOk C P) {ts : Array TypeId} {x v : AV} {x' : Value} (hx : VR φ x x') (e : capA C ts.toList x = some v) (ty : TypeId) :
    ∃ v', (Builtin.cap_ ts ty #[x']).run P w = .ok v' w ∧ VR φ v v' := by
  unfold capA at e
  split at e
  · exact absurd e (by simp)
  · rename_i t rest hts
    have ht : ts[0]? = some t := by rw [← Array.getElem?_toList, hts]; rfl
    have hq : ∀ u : Value, (#[u] : Array Value)[0]? = some u := fun _ => rfl
    split at e
    · rename_i el i off len c hu
      cases hx with
      | sl _ _ _ _ c' b k _ hb hc he =>
        injection e with e; subst e
        have := he rfl
        subst this
        exact ⟨_, by simp only [Builtin.cap_, ht, hq, Sem.run_bind, run_und K hu, Result.andThen_ok]; rfl, .int _ _⟩
    · rename_i el hu
      cases hx
      injection e with e; subst e
      exact ⟨_, by simp only [Builtin.cap_, ht, hq, Sem.run_bind, run_und K hu, Result.andThen_ok]; rfl, .int _ _⟩
    · exact absurd e (by simp)

theorem mmA_ok (mx : Bool) (f : Value → Value → Sem Value) (hf : f = if mx then Builtin.max2 else Builtin.min2) : ∀ (l : List AV) (x v : AV) (x' : Value) (l' : List Value), VR φ x x' → VRs φ l l' → mmA mx x l = some v →
    ∃ v', (l'.foldlM f x').run P w = .ok v' w ∧ VR φ v v'
  | [], x, v, x', l', hx, hl, e => by
    cases hl
    have e' : some x = some v := by cases x <;> exact e
    injection e' with e'; subst e'
    exact ⟨x', rfl, hx⟩
  | y :: l, x, v, x', l', hx, hl, e => by
    cases hl with
    | cons _ y' _ l' hy hl =>
      subst hf
      cases x with
      | int k a =>
        cases y with
        | int k2 b =>
          cases hx; cases hy
          rw [mmA, ltI_eq, ltI_eq] at e
          have step : (if mx then Builtin.max2 else Builtin.min2) (.int k a) (.int k2 b) = (pure (.int k (bif (bif mx then decide (a < b) else decide (b < a)) then b else a)) : Sem Value) := by
            cases mx
            · by_cases hab : b < a <;> simp [Builtin.min2, hab]
            · by_cases hab : a < b <;> simp [Builtin.max2, hab]
          rw [List.foldlM_cons, step, pure_bind]
          exact mmA_ok mx _ rfl l _ v _ l' (.int _ _) hl e
        | _ => exact absurd e (by simp [mmA])
      | str a =>
        cases y with
        | str b =>
          cases hx; cases hy
          rename_i a b
          have hlt : ltS (nats a) (nats b) = Op.bytesLess a.toList b.toList := by rw [ByteArray.toList_eq, ByteArray.toList_eq]; exact ltS_bytes _ _
          have heq : eqS (nats a) (nats b) = (a.toList == b.toList) := eqS_bytes a b
          rw [mmA] at e
          have step : (if mx then Builtin.max2 else Builtin.min2) (.string a) (.string b) = (pure (.string (bif (bif mx then !(Op.bytesLess a.toList b.toList) else (Op.bytesLess a.toList b.toList || (a.toList == b.toList))) then a else b)) : Sem Value) := by
            cases mx
            · simp only [Bool.false_eq_true, if_false, Builtin.min2, Op.stringOp, asBool, cond_false]
              cases (Op.bytesLess a.toList b.toList || (a.toList == b.toList)) <;> rfl
            · simp only [if_true, Builtin.max2, Op.stringOp, asBool, cond_true]
              cases (Op.bytesLess a.toList b.toList) <;> rfl
          rw [List.foldlM_cons, step, pure_bind]
          have e2 : (bif (bif mx then !(ltS (nats a) (nats b)) else (ltS (nats a) (nats b) || eqS (nats a) (nats b))) then nats a else nats b) = nats (bif (bif mx then !(Op.bytesLess a.toList b.toList) else (Op.bytesLess a.toList b.toList || (a.toList == b.toList))) then a else b) := by
            rw [hlt, heq]
            cases (bif mx then !(Op.bytesLess a.toList b.toList) else (Op.bytesLess a.toList b.toList || (a.toList == b.toList))) <;> rfl
          have e3 : mmA mx (.str (nats (bif (bif mx then !(Op.bytesLess a.toList b.toList) else (Op.bytesLess a.toList b.toList || (a.toList == b.toList))) then a else b))) l = some v := by rw [← e2]; exact e
          exact mmA_ok mx _ rfl l _ v _ l' (.str _) hl e3
        | _ => exact absurd e (by simp [mmA])
      | _ => exact absurd e (by simp [mmA])

theorem nats_get (b : ByteArray) (k : Nat) : (nats b)[k]? = (b[k]?).map UInt8.toNat := by
  simp only [nats, List.getElem?_map, Array.getElem?_toList]
  rfl
theorem indexA_ok (K : CtxOk C P) {t : TypeId} {x ix v : AV} {x' ix' : Value} (hx : VR φ x x') (hi : VR φ ix ix') (e : indexA C t x ix = some v) : ∃ v', (Instr.index t x' ix').run P w = .ok v' w ∧ VR φ v v' := by
  unfold indexA at e
  split at e
  · rename_i kd k
    cases hi
    split at e
    · rename_i n el l hu
      cases hx with
      | agg _ cs hl =>
        cases hlt : Nat.blt k n with
        | false => rw [hlt] at e; exact absurd e (by simp)
        | true =>
          rw [hlt] at e; simp only [cond_true] at e
          split at e
          · rename_i sz hs
            obtain ⟨v', h1, h2⟩ := part_ok K hl e w
            have hc : (0 : Int) ≤ Int.ofNat k ∧ Int.ofNat k < (n : Int) := by have := blt_lt hlt; constructor <;> simp <;> omega
            refine ⟨v', ?_, h2⟩
            simp only [Instr.index, asIntOf, Sem.run_bind, Sem.run_pure, Result.andThen_ok, run_und K hu]
            rw [if_pos hc]
            simp only [Sem.run_bind, run_siz K hs, Result.andThen_ok]
            exact h1
          · exact absurd e (by simp)
    · rename_i hu
      cases hx
      rename_i b
      split at e
      · rename_i c hc
        injection e with e; subst e
        have hg := nats_get b k
        rw [show (nats b)[k]? = some c from hc] at hg
        cases hb : b[k]? with
        | none => rw [hb] at hg; exact absurd hg (by simp)
        | some u =>
          rw [hb] at hg
          have hcu : c = u.toNat := by simpa using hg
          subst hcu
          refine ⟨.int .u8 u.toNat, ?_, .int _ _⟩
          simp only [Instr.index, asIntOf, Sem.run_bind, Sem.run_pure, Result.andThen_ok, run_und K hu]
          simp only [Int.toNat_natCast, Int.ofNat_eq_natCast, hb]
          rw [if_pos (show (0 : Int) ≤ (k : Int) by omega)]; rfl
      · exact absurd e (by simp)
    · exact absurd e (by simp)
  · exact absurd e (by simp)

theorem extrK_ok {i : Nat} {x v : AV} {x' : Value} (hx : VR φ x x') (e : extrK h i x = some (v, h')) : h' = h ∧ ∃ v', (Instr.extract x' i).run P w = .ok v' w ∧ VR φ v v' := by
  unfold extrK at e
  split at e
  · rename_i l
    cases hx with
    | tup _ cs hl =>
      obtain ⟨e1, e2⟩ := vv_some e
      obtain ⟨v', h1, h2⟩ := hl.get e1
      have h3 : cs[i]? = some v' := by simpa using h1
      exact ⟨e2, v', by simp [Instr.extract, h3], h2⟩
  · exact absurd e (by simp)
theorem fieldK_ok (K : CtxOk C P) {t : TypeId} {f : Nat} {x v : AV} {x' : Value} (hx : VR φ x x') (e : fieldK C h t f x = some (v, h')) : h' = h ∧ ∃ v', (Instr.field t x' f).run P w = .ok v' w ∧ VR φ v v' := by
  unfold fieldK at e
  split at e
  · rename_i l fs hu
    cases hx with
    | agg _ cs hl =>
      split at e
      · rename_i fd hfd
        obtain ⟨e1, e2⟩ := vv_some e
        obtain ⟨v', h1, h2⟩ := part_ok K hl e1 w
        have hfd' : fs[f]? = some fd := by simpa using hfd
        exact ⟨e2, v', by simp only [Instr.field, Sem.run_bind, run_und K hu, Result.andThen_ok, hfd', asAgg, Sem.run_pure, h1], h2⟩
      · exact absurd e (by simp)
  · exact absurd e (by simp)
end
end Go.Ev

/- The evaluator's maps are the model's. -/
namespace Go.Ev
open Go.RowKit
section
variable {C : Ctx} {P : Program} {N : Kp} {φ : Pl} {h h' : H} {w : World} {T : PT AV} {a : Act}

theorem eqT_some (K : CtxOk C P) (s : Sim N φ h w) {t : TypeId} {x y : AV} {r : Bool} (e : eqT C h 100 t x y = some r) {x' y' : Value} (hx : VR φ x x') (hy : VR φ y y') : (Op.equal t x' y').run P w = .ok r w :=
  eqT_ok K s 100 t x y r e x' y' hx hy 10000 (by omega)

/-- What a search comes to. -/
def FRes (φ : Pl) : Option (Nat × AV) → Option (Nat × Value) → Prop
  | none, none => True
  | some (i, v), some (j, v') => i = j ∧ VR φ v v'
  | _, _ => False
theorem findE_asking (K : CtxOk C P) (s : Sim N φ h w) {t : TypeId} {k : AV} {k' : Value} (hk : VR φ k k') : ∀ {es : List (AV × AV × Nat)} {es' : List MapEntry} {i : Nat} {r : Option (Nat × AV)}, ER φ es es' → findE C h t k es i = some r →
    ∃ r', (Instr.findAsking t k' es' i).run P w = .ok r' w ∧ FRes φ r r'
  | _, _, i, r, .nil, e => by
    injection e with e; subst e
    exact ⟨none, rfl, trivial⟩
  | _, _, i, r, .cons ka va n l ka' va' l' hka hva ht, e => by
    unfold findE at e
    split at e
    · rename_i he
      injection e with e; subst e
      exact ⟨some (i, va'), by simp [Instr.findAsking, eqT_some K s he hk hka], rfl, hva⟩
    · rename_i he
      obtain ⟨r', h1, h2⟩ := findE_asking K s hk ht e
      exact ⟨r', by simp only [Instr.findAsking, Sem.run_bind, eqT_some K s he hk hka, Result.andThen_ok, Bool.false_eq_true, if_false]; exact h1, h2⟩
    · exact absurd e (by simp)
theorem sameNow_asking (K : CtxOk C P) {t : TypeId} {d : TypeDesc} (hu : und C t = some d) {x y : Value} {b : Bool} (e : Instr.sameNow d x y = some b) : (Op.equal t x y).run P w = .ok b w := by
  have key : ∀ D, (Op.equalIn (D + 1) t x y).run P w = .ok b w := by
    intro D
    unfold Instr.sameNow at e
    split at e
    · split at e
      · rename_i hkk; injection e with e; subst e; subst hkk
        simp [Op.equalIn, run_und K hu]
      · exact absurd e (by simp)
    · injection e with e; subst e; simp [Op.equalIn, run_und K hu]
    · injection e with e; subst e; simp [Op.equalIn, run_und K hu]
    · exact absurd e (by simp)
  exact key 9999
theorem findNow_asking (K : CtxOk C P) {t : TypeId} {d : TypeDesc} (hu : und C t = some d) {k : Value} : ∀ (es : List MapEntry) (i : Nat) (r : Option (Nat × Value)), Instr.findNow d k es i = some r → (Instr.findAsking t k es i).run P w = .ok r w
  | [], i, r, e => by injection e with e; subst e; rfl
  | m :: es, i, r, e => by
    unfold Instr.findNow at e
    split at e
    · rename_i he
      injection e with e; subst e
      simp [Instr.findAsking, sameNow_asking K hu he]
    · rename_i he
      simp only [Instr.findAsking, Sem.run_bind, sameNow_asking K hu he, Result.andThen_ok, Bool.false_eq_true, if_false]
      exact findNow_asking K hu es (i + 1) r e
    · exact absurd e (by simp)
theorem findE_ok (K : CtxOk C P) (s : Sim N φ h w) {t : TypeId} {d : TypeDesc} (hu : und C t = some d) {k : AV} {k' : Value} (hk : VR φ k k') {es : List (AV × AV × Nat)} {es' : List MapEntry} {r : Option (Nat × AV)}
    (he : ER φ es es') (e : findE C h t k es 0 = some r) : ∃ r', (Instr.findKey t k' es').run P w = .ok r' w ∧ FRes φ r r' := by
  obtain ⟨r', h1, h2⟩ := findE_asking K s hk he e
  refine ⟨r', ?_, h2⟩
  simp only [Instr.findKey, Sem.run_bind, run_und K hu, Result.andThen_ok]
  cases hf : Instr.findNow d k' es' 0 with
  | none => exact h1
  | some q =>
    have := findNow_asking (w := w) K hu es' 0 q hf
    rw [h1] at this
    injection this with this
    rw [this]; rfl

theorem forIn_yield {α : Type} (g : α → PUnit → Sem (ForInStep PUnit)) : ∀ (l : List α), (∀ x ∈ l, (g x PUnit.unit).run P w = .ok (ForInStep.yield PUnit.unit) w) → (forIn l PUnit.unit g : Sem PUnit).run P w = .ok PUnit.unit w
  | [], _ => rfl
  | x :: l, hl => by
    simp only [List.forIn_cons, Sem.run_bind, hl x (List.mem_cons_self ..), Result.andThen_ok]
    exact forIn_yield g l (fun y hy => hl y (List.mem_cons_of_mem _ hy))

theorem keyOk_ok (K : CtxOk C P) (empty : Bool) : ∀ (d : Nat) (t : TypeId) (v : AV) (v' : Value), keyOk C d t v = true → VR φ v v' → ∀ D, d ≤ D → (Instr.checkKey empty D t v').run P w = .ok () w
  | 0, _, _, _, e, _, _, _ => by exact absurd e (by simp [keyOk])
  | d + 1, t, v, v', e, hv, D, hD => by
    obtain ⟨D, rfl⟩ : ∃ D', D = D' + 1 := ⟨D - 1, by omega⟩
    have ih := keyOk_ok K empty d
    unfold keyOk at e
    unfold Instr.checkKey
    cases hu : und C t with
    | none => rw [hu] at e; cases v <;> exact absurd e (by simp)
    | some u =>
      rw [hu] at e
      simp only [Sem.run_bind, run_und K hu, Result.andThen_ok]
      cases u with
      | struct fs =>
        cases v with
        | agg l =>
          cases hv with
          | agg _ cs hl =>
            simp only [Sem.run_bind]
            rw [← Array.forIn_toList]
            have hall := List.all_eq_true.1 e
            rw [forIn_yield _ fs.toList ?_]
            · rfl
            · intro f hfm
              have hf := hall f hfm
              by_cases hn : f.name = "_"
              · simp [hn]
              · simp only [ne_eq, hn, not_false_eq_true, if_true]
                have hn' : (f.name == "_") = false := by simpa using hn
                rw [hn', Bool.false_or] at hf
                split at hf
                · rename_i x hx
                  obtain ⟨x', h1, h2⟩ := part_ok K hl hx w
                  simp only [Sem.run_bind, h1, Result.andThen_ok, ih f.type x x' hf h2 D (by omega), Sem.run_pure]
                · exact absurd hf (by simp)
        | _ => exact absurd e (by simp)
      | array n el =>
        cases v with
        | agg l =>
          cases hv with
          | agg _ cs hl =>
            simp only at e
            split at e
            · rename_i sz hs
              have hall := List.all_eq_true.1 e
              simp only [Sem.run_bind, Std.Legacy.Range.forIn_eq_forIn_range', Std.Legacy.Range.size, Nat.sub_zero, Nat.add_one_sub_one, Nat.div_one]
              rw [forIn_yield _ _ ?_]
              · rfl
              · intro i hi
                have hi' : i ∈ List.range n := by rw [List.range_eq_range']; exact hi
                have hf := hall i hi'
                split at hf
                · rename_i x hx
                  obtain ⟨x', h1, h2⟩ := part_ok K hl hx w
                  have h1' : (Go.part el cs (i * sz)).run P w = .ok x' w := h1
                  simp only [Sem.run_bind, run_siz K hs, Result.andThen_ok, h1', ih el x x' hf h2 D (by omega), Sem.run_pure]
                · exact absurd hf (by simp)
            · exact absurd e (by simp)
        | _ => exact absurd e (by simp)
      | interface ms => cases v <;> exact absurd e (by simp)
      | _ => rfl
end
end Go.Ev
