/- The evaluator's strings, comparisons and places are the model's. -/
import Derived.Test.YtkenjhchfidpbaaGreatDoorC05
namespace Go.Ev
open Go.RowKit
section
variable {C : Ctx} {P : Program} {N : Kp} {φ : Pl} {h h' : H} {w : World}

abbrev nats (b : ByteArray) : List Nat := b.data.toList.map UInt8.toNat
theorem nats_len (b : ByteArray) : (nats b).length = b.size := by rw [nats, List.length_map, Array.length_toList]; rfl
theorem nats_append (a b : ByteArray) : nats (a ++ b) = nats a ++ nats b := by simp only [nats, ByteArray.data_append, Array.toList_append, List.map_append]
theorem ltS_bytes : ∀ (a b : List UInt8), ltS (a.map UInt8.toNat) (b.map UInt8.toNat) = Op.bytesLess a b
  | [], [] => rfl
  | [], _ :: _ => rfl
  | _ :: _, [] => rfl
  | x :: a, y :: b => by
    have ih := ltS_bytes a b
    simp only [List.map_cons, ltS, Op.bytesLess, ih]
    have h1 : Nat.blt x.toNat y.toNat = decide (x < y) := by
      apply Bool.eq_iff_iff.2; simp [Nat.blt_eq, UInt8.lt_iff_toNat_lt]
    have h2 : Nat.beq x.toNat y.toNat = (x == y) := by
      rw [bq]; apply Bool.eq_iff_iff.2; simp [UInt8.toNat_inj]
    rw [h1, h2]
theorem strA_ok {op : BinOp} {a b : ByteArray} {v : AV} (e : strA op (nats a) (nats b) = some v) (t : TypeId) : ∃ v', (binOp op t (.string a) (.string b)).run P w = .ok v' w ∧ VR φ v v' := by
  have hlt : ltS (nats a) (nats b) = Op.bytesLess a.toList b.toList := by rw [ByteArray.toList_eq, ByteArray.toList_eq]; exact ltS_bytes _ _
  have heq : eqS (nats a) (nats b) = (a.toList == b.toList) := eqS_bytes a b
  cases op with
  | add =>
    unfold strA at e
    simp only at e
    cases h1 : Nat.blt (Nat.add (nats a).length (nats b).length) 1000000000 with
    | false => rw [h1] at e; exact absurd e (by simp)
    | true =>
      rw [h1] at e; simp only [cond_true] at e
      injection e with e; subst e
      have h2 := blt_lt h1
      rw [nats_len, nats_len] at h2
      have h3 : ¬ (((a.size + b.size : Nat) : Int) > IntKind.i64.max) := by
        have : a.size + b.size < 1000000000 := h2
        simp [IntKind.max, IntKind.signed, IntKind.bits]; omega
      rw [← nats_append]
      exact ⟨.string (a ++ b), by simp only [binOp, Op.stringOp, h3, if_false]; rfl, .str _⟩
  | eql => injection e with e; subst e; rw [heq]; exact ⟨_, by simp only [binOp, Op.stringOp]; rfl, .bool _⟩
  | neq => injection e with e; subst e; rw [heq]; exact ⟨_, by simp only [binOp, Op.stringOp]; rfl, .bool _⟩
  | lss => injection e with e; subst e; rw [hlt]; exact ⟨_, by simp only [binOp, Op.stringOp]; rfl, .bool _⟩
  | leq => injection e with e; subst e; rw [hlt, heq]; exact ⟨_, by simp only [binOp, Op.stringOp]; rfl, .bool _⟩
  | gtr => injection e with e; subst e; rw [hlt, heq]; exact ⟨_, by simp only [binOp, Op.stringOp]; rfl, .bool _⟩
  | geq => injection e with e; subst e; rw [hlt]; exact ⟨_, by simp only [binOp, Op.stringOp]; rfl, .bool _⟩
  | _ => exact absurd e (by simp [strA])

/-- No number and no string. -/
def odd : AV → Bool
  | .int _ _ => false
  | .str _ => false
  | _ => true
theorem odd_eql {x : AV} {x' : Value} (hx : VR φ x x') (ho : odd x = true) (t : TypeId) (y' : Value) : binOp .eql t x' y' = (do pure (.bool (← Op.equal t x' y'))) := by
  cases hx <;> first | rfl | exact absurd ho (by simp [odd])
theorem odd_neq {x : AV} {x' : Value} (hx : VR φ x x') (ho : odd x = true) (t : TypeId) (y' : Value) : binOp .neq t x' y' = (do pure (.bool (!(← Op.equal t x' y')))) := by
  cases hx <;> first | rfl | exact absurd ho (by simp [odd])
theorem eqG_ok (K : CtxOk C P) (s : Sim N φ h w) {op : BinOp} {t : TypeId} {x y v : AV} (e : eqG C h op t x y = some v) {x' y' : Value} (hx : VR φ x x') (hy : VR φ y y') (ho : odd x = true) :
    ∃ v', (binOp op t x' y').run P w = .ok v' w ∧ VR φ v v' := by
  unfold eqG at e
  cases op with
  | eql =>
    simp only at e
    split at e
    · rename_i r hr
      injection e with e; subst e
      have := eqT_ok K s 100 t x y r hr x' y' hx hy 10000 (by omega)
      rw [odd_eql hx ho]
      exact ⟨.bool r, by simp [Op.equal, Op.maxDepth, this], .bool _⟩
    · exact absurd e (by simp)
  | neq =>
    simp only at e
    split at e
    · rename_i r hr
      injection e with e; subst e
      have := eqT_ok K s 100 t x y r hr x' y' hx hy 10000 (by omega)
      rw [odd_neq hx ho]
      exact ⟨.bool (!r), by simp [Op.equal, Op.maxDepth, this], .bool _⟩
    · exact absurd e (by simp)
  | _ => exact absurd e (by simp)

def guardA (x y : AV) : Bool := match x, y with
  | .nili, .nili => false
  | .agg _, .agg _ => false
  | _, _ => true
theorem guard_ok {op : BinOp} {t : TypeId} {x' y' : Operand} {x y : AV} {u v : Value} (hx : VR φ x u) (hy : VR φ y v) (hg : guardA x y = true) : (eqGuard op t x' y' u v).run P w = .ok () w := by
  unfold eqGuard
  cases hx <;> cases hy <;> first | (cases op <;> rfl) | exact absurd hg (by simp [guardA])

theorem guard_nil {op : BinOp} (hop : op = .eql ∨ op = .neq) {x' y' : Operand} (hk : (isK x' || isK y') = true) {t : TypeId} : (eqGuard op t x' y' .nilIface .nilIface).run P w = .ok () w := by
  rcases hop with rfl | rfl <;> cases x' <;> cases y' <;> first | rfl | exact absurd hk (by simp [isK])
theorem equalIn_nil (K : CtxOk C P) {t : TypeId} {ms : Array (String × TypeId)} (hu : und C t = some (.interface ms)) (D : Nat) : (Op.equalIn (D + 1) t .nilIface .nilIface).run P w = .ok true w := by
  simp only [Op.equalIn, Sem.run_bind, run_und K hu, Result.andThen_ok]
  rfl
theorem equal_nil (K : CtxOk C P) {t : TypeId} {ms : Array (String × TypeId)} (hu : und C t = some (.interface ms)) : (Op.equal t .nilIface .nilIface).run P w = .ok true w := equalIn_nil K hu 9999
theorem nil_ok (K : CtxOk C P) {op : BinOp} {t : TypeId} {x' y' : Operand} {v : AV}
    (e : (match op, und C t with
      | .eql, some (.interface _) => bif (isK x' || isK y') then some (AV.bool true) else none
      | .neq, some (.interface _) => bif (isK x' || isK y') then some (AV.bool false) else none
      | _, _ => none) = some v) : ∃ v', (do eqGuard op t x' y' .nilIface .nilIface; binOp op t .nilIface .nilIface : Sem Value).run P w = .ok v' w ∧ VR φ v v' := by
  cases hu : und C t with
  | none => rw [hu] at e; cases op <;> exact absurd e (by simp)
  | some d =>
    rw [hu] at e
    cases d with
    | interface ms =>
      cases op with
      | eql =>
        simp only at e
        cases hk : (isK x' || isK y') with
        | false => rw [hk] at e; exact absurd e (by simp)
        | true =>
          rw [hk] at e; injection e with e; subst e
          refine ⟨.bool true, ?_, .bool _⟩
          have hb : binOp .eql t .nilIface .nilIface = (do pure (.bool (← Op.equal t .nilIface .nilIface))) := rfl
          rw [hb]
          simp only [Sem.run_bind, guard_nil (.inl rfl) hk, Result.andThen_ok, equal_nil K hu, Sem.run_pure]
      | neq =>
        simp only at e
        cases hk : (isK x' || isK y') with
        | false => rw [hk] at e; exact absurd e (by simp)
        | true =>
          rw [hk] at e; injection e with e; subst e
          refine ⟨.bool false, ?_, .bool _⟩
          have hb : binOp .neq t .nilIface .nilIface = (do pure (.bool (!(← Op.equal t .nilIface .nilIface)))) := rfl
          rw [hb]
          simp only [Sem.run_bind, guard_nil (.inr rfl) hk, Result.andThen_ok, equal_nil K hu, Sem.run_pure]
          rfl
      | _ => exact absurd e (by simp)
    | _ => cases op <;> exact absurd e (by simp)
/-- A binary operation, its guard and all. -/
theorem binA_ok (K : CtxOk C P) (s : Sim N φ h w) {op : BinOp} {t : TypeId} {x' y' : Operand} {x y v : AV} {u q : Value} (hx : VR φ x u) (hy : VR φ y q) (e : binA C h op t (isK x' || isK y') x y = some v) :
    ∃ v', (do eqGuard op t x' y' u q; binOp op t u q : Sem Value).run P w = .ok v' w ∧ VR φ v v' := by
  have core : guardA x y = true → (∃ v', (binOp op t u q).run P w = .ok v' w ∧ VR φ v v') → ∃ v', (do eqGuard op t x' y' u q; binOp op t u q : Sem Value).run P w = .ok v' w ∧ VR φ v v' := by
    intro hg ⟨v', h1, h2⟩
    exact ⟨v', by simp only [Sem.run_bind, guard_ok hx hy hg, Result.andThen_ok, h1], h2⟩
  have gen : odd x = true → genA C h op t (isK x' || isK y') x y = some v → ∃ v', (do eqGuard op t x' y' u q; binOp op t u q : Sem Value).run P w = .ok v' w ∧ VR φ v v' := by
    intro ho e
    unfold genA at e
    split at e
    · cases hx; cases hy
      exact nil_ok K e
    · rename_i a b
      cases hb : C.eqs.any (Nat.beq t) with
      | false => rw [hb] at e; exact absurd e (by simp)
      | true =>
        rw [hb] at e; simp only [cond_true] at e
        obtain ⟨v', h1, h2⟩ := eqG_ok K s e hx hy rfl
        cases hx with
        | agg _ xs hx =>
          cases hy with
          | agg _ ys hy =>
            exact ⟨v', by simp only [Sem.run_bind, run_eqGuard_agg w op t x' y' xs ys (K.eqs t hb).2, Result.andThen_ok, h1], h2⟩
    · rename_i h1 h2
      refine core ?_ (eqG_ok K s e hx hy ho)
      unfold guardA
      split
      · exact absurd rfl (h1 rfl)
      · exact absurd rfl (h2 _ _ rfl)
      · rfl
  cases x with
  | int k a =>
    cases y with
    | int k' b =>
      cases hx; cases hy
      refine core rfl ?_
      have e' : intK op k a k' b = some v := e
      unfold intK at e'
      split at e'
      · exact shA_ok (.inl rfl) e' t
      · exact shA_ok (.inr rfl) e' t
      · rename_i n1 n2
        obtain ⟨hk, e2⟩ := iff_some e'
        clear e' e
        have := (kEq_eq _ _).1 hk
        subst this
        exact intA_ok ⟨n1, n2⟩ e2 t
    | _ => exact absurd e (by simp [binA])
  | str a =>
    cases y with
    | str b =>
      cases hx; cases hy
      exact core rfl (strA_ok e t)
    | _ => exact absurd e (by simp [binA])
  | _ => exact gen rfl e

theorem unA_ok {op : UnOp} {x v : AV} {x' : Value} (hx : VR φ x x') (e : unA op x = some v) : ∃ v', (Op.unary op x').run P w = .ok v' w ∧ VR φ v v' := by
  unfold unA at e
  split at e
  · cases hx; injection e with e; subst e; exact ⟨_, rfl, .bool _⟩
  · cases hx; injection e with e; subst e; rw [wr_eq]
    rename_i k n
    exact ⟨.int k (k.wrap (0 - n)), by simp [Op.unary, Op.intArith], .int _ _⟩
  · exact absurd e (by simp)

/-! Places in rows -/
theorem elemS_some (K : CtxOk C P) {t : TypeId} {q : Option Nat × Nat} (e : elemS C t = some q) :
    (∃ n el, P.underlying t = some (.array n el) ∧ siz C el = some q.2 ∧ q.1 = some n) ∨ (∃ el, P.underlying t = some (.slice el) ∧ siz C el = some q.2 ∧ q.1 = none) := by
  unfold elemS at e
  split at e
  · rename_i n el hu
    obtain ⟨s, hs, e⟩ := ob_some e
    injection e with e; subst e
    exact .inl ⟨n, el, und_ok K hu, hs, rfl⟩
  · rename_i el hu
    obtain ⟨s, hs, e⟩ := ob_some e
    injection e with e; subst e
    exact .inr ⟨el, und_ok K hu, hs, rfl⟩
  · exact absurd e (by simp)
theorem idx_ok {k i off n s : Nat} {v : AV} (e : idxK k i off n s = some v) : k < n ∧ v = .ptr i (off + k * s) := by
  obtain ⟨h1, e⟩ := iff_some e
  injection e with e
  exact ⟨blt_lt h1, e.symm⟩
theorem indexPl_ok (K : CtxOk C P) {t : TypeId} {x ix v : AV} {x' ix' : Value} (hx : VR φ x x') (hi : VR φ ix ix') (e : indexPl C t x ix = some v) :
    ∃ v', (Instr.indexAt t x' ix').run P w = .ok v' w ∧ VR φ v v' := by
  obtain ⟨k, hk, e1⟩ := ob_some e
  clear e
  obtain ⟨q, hq, e⟩ := ob_some e1
  clear e1
  obtain ⟨kd, hkd⟩ := asNat_some hk
  clear hk
  subst hkd
  cases hi
  rcases elemS_some K hq with ⟨n, el, hu, hs, h1⟩ | ⟨el, hu, hs, h1⟩
  · rw [h1] at e
    cases x with
    | ptr i off =>
      obtain ⟨hlt, rfl⟩ := idx_ok (e : idxK k i off n q.2 = some v)
      cases hx with
      | ptr _ _ b kk hb =>
        refine ⟨.pointer (some ⟨b, kk + (off + k * q.2), none⟩), ?_, .ptr _ _ b kk hb⟩
        have hc : (0 : Int) ≤ (k : Int) ∧ (k : Int) < (n : Int) := by omega
        simp [Instr.indexAt, asIntOf, run_underlying hu, Instr.sureAddr, run_siz K hs, Addr.add_mid, Nat.add_assoc]; omega
    | sl i off len cap ex => exact absurd e (by simp)
    | _ => exact absurd e (by simp)
  · rw [h1] at e
    cases x with
    | sl i off len cap ex =>
      obtain ⟨hlt, rfl⟩ := idx_ok (e : idxK k i off len q.2 = some v)
      cases hx with
      | sl _ _ _ _ c' b kk _ hb hc he =>
        refine ⟨.pointer (some ⟨b, kk + (off + k * q.2), none⟩), ?_, .ptr _ _ b kk hb⟩
        have hc : (0 : Int) ≤ (k : Int) ∧ (k : Int) < (len : Int) := by omega
        simp [Instr.indexAt, asIntOf, run_underlying hu, run_siz K hs, Addr.add_mid, Nat.add_assoc]; omega
    | ptr i off => exact absurd e (by simp [ob])
    | _ => exact absurd e (by simp)
end
end Go.Ev

/- The evaluator's slices, lengths, parts are the model's. -/
namespace Go.Ev
open Go.RowKit
section
variable {C : Ctx} {P : Program} {N : Kp} {φ : Pl} {h h' : H} {w : World} {T : PT AV} {a : Act}

theorem bnd_ok (s : Sim N φ h w) (ht : TR φ T a.tmps) {x : Operand} {m n : Nat} (e : bnd T x m = some n) {m' : Nat} (hm : m ≤ m') (c : BoundsCode) : (Instr.sliceBound (a.eval x) m' c).run P w = .ok n w ∧ n ≤ m := by
  unfold bnd at e
  split at e
  · rename_i k n' hx
    cases hb : Nat.ble n' m with
    | false => rw [hb] at e; exact absurd e (by simp)
    | true =>
      rw [hb] at e; simp only [cond_true] at e
      injection e with e; subst e
      have hle : n' ≤ m := Nat.le_of_ble_eq_true hb
      have hv := opnd_rel s ht hx
      generalize a.eval x = u at hv ⊢
      cases hv
      refine ⟨?_, hle⟩
      have h1 : (0 : Int) ≤ (Int.ofNat n') ∧ (Int.ofNat n') ≤ (m' : Int) := by constructor <;> simp <;> omega
      simp only [Instr.sliceBound, asIntOf, Sem.run_bind, Sem.run_pure, Result.andThen_ok]
      rw [if_pos h1]; rfl
  · exact absurd e (by simp)
theorem bnd_le {x : Operand} {m n : Nat} (e : bnd T x m = some n) : n ≤ m := by
  unfold bnd at e
  split at e
  · rename_i k n' hx
    cases hb : Nat.ble n' m with
    | false => rw [hb] at e; exact absurd e (by simp)
    | true =>
      rw [hb] at e; simp only [cond_true] at e
      injection e with e; subst e
      exact Nat.le_of_ble_eq_true hb
  · exact absurd e (by simp)
theorem bnds_ok (s : Sim N φ h w) (ht : TR φ T a.tmps) {len cap l hh m : Nat} {lo hi mx : Option Operand} (e : bnds T len cap lo hi mx = some (l, hh, m)) {cap' : Nat} (hc : cap ≤ cap') (b : Bool) :
    (Instr.sliceBounds b len cap' (lo.map a.eval) (hi.map a.eval) (mx.map a.eval)).run P w = .ok (l, hh, if mx.isSome then m else cap') w ∧ l ≤ hh ∧ (mx = none → m = cap ∧ (hi = none → hh = len)) ∧ m ≤ cap ∧ (hh ≤ m ∨ hh = len) := by
  unfold bnds at e
  split at e
  · exact absurd e (by simp)
  · rename_i m0 hm0
    split at e
    · exact absurd e (by simp)
    · rename_i h0 hh0
      split at e
      · exact absurd e (by simp)
      · rename_i l0 hl0
        injection e with e
        injection e with e1 e2; injection e2 with e2 e3
        subst e1 e2 e3
        have hl1 : l0 ≤ h0 := by
          cases lo with
          | none => injection hl0 with hl0; subst hl0; exact Nat.zero_le _
          | some x => exact bnd_le hl0
        cases mx with
        | none =>
          injection hm0 with hm0; subst hm0
          cases hi with
          | none =>
            have hh0' : some len = some h0 := hh0
            injection hh0' with hh0'; subst hh0'
            refine ⟨?_, hl1, fun _ => ⟨rfl, fun _ => rfl⟩, Nat.le_refl _, .inr rfl⟩
            simp only [Instr.sliceBounds, Option.map_none, Option.isSome_none, Bool.false_eq_true, if_false]
            cases lo with
            | none => injection hl0 with hl0; subst hl0; rfl
            | some x => simp only [Option.map_some, Sem.run_bind, Sem.run_pure, Result.andThen_ok, (bnd_ok (P := P) s ht hl0 (Nat.le_refl _) .sliceB).1]
          | some y =>
            have h2 := bnd_ok (P := P) s ht hh0 hc (if b then BoundsCode.sliceAcap else .sliceAlen)
            refine ⟨?_, hl1, fun _ => ⟨rfl, fun e => absurd e (by simp)⟩, Nat.le_refl _, .inl (bnd_le hh0)⟩
            simp only [Instr.sliceBounds, Option.map_none, Option.map_some, Option.isSome_none, Bool.false_eq_true, if_false, Sem.run_bind, Sem.run_pure, Result.andThen_ok, h2.1]
            cases lo with
            | none => injection hl0 with hl0; subst hl0; rfl
            | some x => simp only [Option.map_some, Sem.run_bind, Sem.run_pure, Result.andThen_ok, (bnd_ok (P := P) s ht hl0 (Nat.le_refl _) .sliceB).1]
        | some z =>
          have h1 := bnd_ok (P := P) s ht hm0 hc (if b then BoundsCode.slice3Acap else .slice3Alen)
          cases hi with
          | none => exact absurd hh0 (by simp)
          | some y =>
            have h2 := bnd_ok (P := P) s ht hh0 (Nat.le_refl m0) BoundsCode.slice3B
            refine ⟨?_, hl1, fun e => absurd e (by simp), h1.2, .inl (bnd_le hh0)⟩
            simp only [Instr.sliceBounds, Option.map_some, Option.isSome_some, if_true, Sem.run_bind, Result.andThen_ok, h1.1, h2.1]
            cases lo with
            | none => injection hl0 with hl0; subst hl0; rfl
            | some x => simp only [Option.map_some, Sem.run_bind, Sem.run_pure, Result.andThen_ok, (bnd_ok (P := P) s ht hl0 (Nat.le_refl _) .slice3C).1]

theorem nats_extract (b : ByteArray) (l hh : Nat) : nats (b.extract l hh) = ((nats b).drop l).take (hh - l) := by
  simp only [nats, ByteArray.data_extract, Array.toList_extract, List.extract_eq_take_drop, List.map_take, List.map_drop]
theorem cond_some {α : Type} {b : Bool} {x : Option α} {v : α} (h : (bif b then x else none) = some v) : b = true ∧ x = some v := by
  cases b
  · exact absurd h (by simp)
  · exact ⟨rfl, h⟩
theorem sliceA_ok (K : CtxOk C P) (s : Sim N φ h w) (ht : TR φ T a.tmps) {t : TypeId} {x v : AV} {x' : Value} {lo hi mx : Option Operand} (hx : VR φ x x') (e : sliceA C T t x lo hi mx = some v) :
    ∃ v', (Instr.sliceAt t x' (lo.map a.eval) (hi.map a.eval) (mx.map a.eval)).run P w = .ok v' w ∧ VR φ v v' := by
  unfold sliceA at e
  split at e
  · rename_i b hu
    cases hx
    rename_i b
    cases mx with
    | some z => exact absurd e (by simp)
    | none =>
      simp only [Option.isSome_none, cond_false] at e
      split at e
      · rename_i l hh m hb
        injection e with e; subst e
        have hb' : bnds T b.size b.size lo hi none = some (l, hh, m) := by rw [← nats_len]; exact hb
        have h1 := bnds_ok (P := P) s ht hb' (Nat.le_refl _) false
        refine ⟨.string (b.extract l hh), ?_, ?_⟩
        · simp only [Option.map_none, Option.isSome_none, Bool.false_eq_true, if_false] at h1
          simp only [Instr.sliceAt, Instr.slice, Sem.run_bind, run_und K hu, Result.andThen_ok, Option.map_none, Option.isSome_none, Bool.false_eq_true, if_false, h1.1, Sem.run_pure]
        · have := nats_extract b l hh
          have h2 : (Nat.sub hh l) = hh - l := rfl
          rw [h2, ← this]; exact .str _
      · exact absurd e (by simp)
  · rename_i el i off len cap zz hu
    cases hx with
    | sl _ _ _ _ c' bb k _ hb hc he hzz =>
      split at e
      · rename_i sz l hh m hs hbn
        have e1 := cond_some e
        clear e
        obtain ⟨hsz, e⟩ := e1
        have hzs : zz ≠ 0 → zz = sz := by
          intro hn
          rw [Bool.or_eq_true] at hsz
          rcases hsz with hsz | hsz
          · exact absurd (Nat.eq_of_beq_eq_true hsz) hn
          · exact Nat.eq_of_beq_eq_true hsz
        obtain ⟨h1, h2, h3, h4, _⟩ := bnds_ok (P := P) s ht hbn hc true
        have hrun : (Instr.sliceAt t (.slice (some ⟨bb, k + off, none⟩) len c') (lo.map a.eval) (hi.map a.eval) (mx.map a.eval)).run P w =
            .ok (.slice (if (if mx.isSome then m else c') = l then some ⟨bb, k + off, none⟩ else some ⟨bb, k + (off + l * sz), none⟩) (hh - l) ((if mx.isSome then m else c') - l)) w := by
          simp only [Instr.sliceAt, Instr.slice, Sem.run_bind, run_und K hu, Result.andThen_ok, h1, run_siz K hs, Sem.run_pure, Option.map_some, Addr.add_mid, Nat.add_assoc]
        rw [hrun]
        refine ⟨_, rfl, ?_⟩
        have hm' : (if mx.isSome then m else c') = m ∨ (mx = none ∧ m = cap ∧ m ≤ c') := by
          cases mx with
          | none => exact .inr ⟨rfl, (h3 rfl).1, by have := (h3 rfl).1; omega⟩
          | some z => exact .inl rfl
        have hex : (mx.isSome || Nat.beq zz 0) = true → (if mx.isSome then m else c') = m := by
          intro hq
          cases mx with
          | some z => rfl
          | none =>
            simp only [Option.isSome_none, Bool.false_or] at hq
            have := he (Nat.eq_of_beq_eq_true hq)
            have := (h3 rfl).1
            simp; omega
        cases hml : Nat.beq m l with
        | true =>
          have hml' := Nat.eq_of_beq_eq_true hml
          subst hml'
          rw [hml] at e; simp only [cond_true] at e
          cases hq : (mx.isSome || Nat.beq zz 0) with
          | true =>
            rw [hq] at e; simp only [cond_true] at e
            injection e with e; subst e
            rw [hex hq, if_pos rfl]
            exact .sl _ _ _ _ _ _ _ _ hb (by omega) (fun _ => by omega) (fun h => absurd rfl h)
          | false =>
            rw [hq] at e; simp only [cond_false] at e
            have hmn : mx = none := by cases mx with
              | none => rfl
              | some z => simp at hq
            subst hmn
            simp only [Option.isSome_none, Bool.false_eq_true, if_false]
            cases hz : Nat.beq m 0 with
            | true =>
              have hz' := Nat.eq_of_beq_eq_true hz
              subst hz'
              rw [hz] at e; simp only [cond_true] at e
              injection e with e; subst e
              have : (if c' = 0 then some (⟨bb, k + off, none⟩ : Addr) else some ⟨bb, k + (off + 0 * sz), none⟩) = some ⟨bb, k + off, none⟩ := by split <;> simp
              rw [this]
              exact .sl _ _ _ _ _ _ _ _ hb (by simp) (fun hf => by subst hf; exact absurd hq (by simp)) (fun hn => by simpa using hzz hn)
            | false =>
              rw [hz] at e; simp only [cond_false] at e
              cases hy : Nat.beq hh m with
              | true =>
                have hy' := Nat.eq_of_beq_eq_true hy
                subst hy'
                rw [hy] at e; simp only [cond_true] at e
                injection e with e; subst e
                rw [Nat.sub_self]
                split <;> exact .slz _ _
              | false => rw [hy] at e; exact absurd e (by simp)
        | false =>
          rw [hml] at e; simp only [cond_false] at e
          cases hlt : Nat.blt l m with
          | false => rw [hlt] at e; exact absurd e (by simp)
          | true =>
            rw [hlt] at e; simp only [cond_true] at e
            injection e with e; subst e
            have hl := blt_lt hlt
            have hne : ¬ ((if mx.isSome then m else c') = l) := by rcases hm' with h | ⟨_, _, h⟩ <;> (cases mx <;> simp at * <;> omega)
            rw [if_neg hne]
            refine .sl _ _ _ _ _ _ _ _ hb ?_ ?_ ?_
            · have : Nat.sub m l = m - l := rfl
              rw [this]
              rcases hm' with h | ⟨hmx, _, h⟩
              · rw [h]; exact Nat.le_refl _
              · subst hmx; simp; omega
            · intro hq
              rw [hex (by cases mx with
                | some z => rfl
                | none => have hq' : zz = 0 := hq
                          subst hq'; rfl)]; rfl
            · intro hn
              cases mx with
              | some z => exact absurd rfl hn
              | none =>
                have hn' : zz ≠ 0 := hn
                have h1 := hzz hn'
                have h2 := hzs hn'
                subst h2
                have hlc : l ≤ c' := by have := (h3 rfl).1; omega
                have h5 : (c' - l) * zz + l * zz = c' * zz := by rw [← Nat.add_mul, Nat.sub_add_cancel hlc]
                show off + l * zz + (c' - l) * zz ≤ _
                omega
      · exact absurd e (by simp)
  · rename_i el hu
    cases hx
    split at e
    · rename_i sz q hs hbn
      injection e with e; subst e
      obtain ⟨l, hh, m⟩ := q
      obtain ⟨h1, h2, h3, h4, h5⟩ := bnds_ok (P := P) s ht hbn (Nat.le_refl 0) true
      have hm0 : m = 0 := by omega
      have hl0 : l = 0 := by omega
      have hh0 : hh = 0 := by omega
      subst hm0 hl0 hh0
      have hi0 : (if mx.isSome then 0 else 0) = 0 := by split <;> rfl
      rw [hi0] at h1
      exact ⟨.slice none 0 0, by simp only [Instr.sliceAt, Instr.slice, Sem.run_bind, run_und K hu, Result.andThen_ok, h1, run_siz K hs, Sem.run_pure, if_true, Nat.sub_zero], .nils⟩
    · exact absurd e (by simp)
  · rename_i el hu
    cases hx with
    | slz ad c' =>
      split at e
      · rename_i sz q hs hbn
        cases mx with
        | some z => exact absurd e (by simp)
        | none =>
          simp only [Option.isSome_none, cond_false] at e
          injection e with e; subst e
          obtain ⟨l, hh, m⟩ := q
          obtain ⟨h1, h2, h3, h4, h5⟩ := bnds_ok (P := P) s ht hbn (Nat.zero_le c') true
          have hl0 : l = 0 := by omega
          have hh0 : hh = 0 := by omega
          subst hl0 hh0
          simp only [Option.isSome_none, Bool.false_eq_true, if_false, Option.map_none] at h1
          refine ⟨.slice (if c' = 0 then some ad else some (ad.add (0 * sz))) 0 c', ?_, ?_⟩
          · simp only [Instr.sliceAt, Instr.slice, Sem.run_bind, run_und K hu, Result.andThen_ok, Option.map_none, h1, run_siz K hs, Sem.run_pure, Option.map_some, Nat.sub_zero]
          · split <;> exact .slz _ _
      · exact absurd e (by simp)
  · rename_i n el i off hu
    cases hx with
    | ptr _ _ bb k hb =>
      split at e
      · rename_i sz l hh m hs hbn
        obtain ⟨h1, h2, h3, h4, h5⟩ := bnds_ok (P := P) s ht hbn (Nat.le_refl n) false
        have hm' : (if mx.isSome then m else n) = m := by
          cases mx with
          | none => have := (h3 rfl).1; simp [this]
          | some z => rfl
        rw [hm'] at h1
        have hrun : (Instr.sliceAt t (.pointer (some ⟨bb, k + off, none⟩)) (lo.map a.eval) (hi.map a.eval) (mx.map a.eval)).run P w =
            .ok (.slice (some (if m = l then ⟨bb, k + off, none⟩ else ⟨bb, k + (off + l * sz), none⟩)) (hh - l) (m - l)) w := by
          simp only [Instr.sliceAt, Sem.run_bind, run_und K hu, Result.andThen_ok, Instr.sureAddr, h1, run_siz K hs, Sem.run_pure, Addr.add_mid, Nat.add_assoc]
        rw [hrun]
        refine ⟨_, rfl, ?_⟩
        cases hml : Nat.beq m l with
        | true =>
          have hml' := Nat.eq_of_beq_eq_true hml
          subst hml'
          rw [hml] at e; simp only [cond_true] at e
          injection e with e; subst e
          rw [if_pos rfl]
          exact .sl _ _ _ _ _ _ _ _ hb (by omega) (fun _ => by omega) (fun h => absurd rfl h)
        | false =>
          rw [hml] at e; simp only [cond_false] at e
          cases hlt : Nat.blt l m with
          | false => rw [hlt] at e; exact absurd e (by simp)
          | true =>
            rw [hlt] at e; simp only [cond_true] at e
            injection e with e; subst e
            have hl := blt_lt hlt
            rw [if_neg (by omega)]
            exact .sl _ _ _ _ _ _ _ _ hb (Nat.le_refl _) (fun _ => rfl) (fun h => absurd rfl h)
      · exact absurd e (by simp)
  · exact absurd e (by simp)
end
end Go.Ev
