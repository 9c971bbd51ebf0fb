/- Layer 9 (oper): Set, of the program and of the reference, in one contract each. -/
import Derived.Test.YtckkbghmiomfiaaDoorOper5
import Derived.Test.YtckkbghmiomfiaaDoorROper7
namespace Go.Proofs.YtckkbghmiomfiaaDoor
open Go.RowKit Go.El

theorem pSet_any (tb m1 m2 : Nat) (o : OpV) (I Q : List OpV) (w : World) (hT : TypesAt 0 w) (h : TabAt w tb m1 m2 I Q) (hmax : I.length + Q.length ≤ 1000) :
    Calls Tryd.prog 24 #[.pointer (some ⟨tb, 0, none⟩), .agg #[.int .i64 o.p, .int .i64 o.t, .string o.s]] w fun e w' => e = .returned (.int .i64 (errT o I Q)) ∧ TabAt w' tb m1 m2 (nextI o I Q) (nextQ o I Q) ∧ Mods [m1, m2] w w' := by
  have hm : MapAt Value.string w (mOf o.t m1 m2) (opsP (opsOf o I Q)) := by
    unfold mOf opsOf
    cases preB o.t
    · exact h.mi
    · exact h.mq
  have keep : ∀ w', Ext w w' → actT o I Q = 0 → TabAt w' tb m1 m2 (nextI o I Q) (nextQ o I Q) ∧ Mods [m1, m2] w w' := fun w' he ha => by
    have e1 : nextI o I Q = I := by unfold nextI; rw [ha]; simp [doO]
    have e2 : nextQ o I Q = Q := by unfold nextQ; rw [ha]; simp [doO]
    rw [e1, e2]
    exact ⟨h.ext he, Mods.ext he⟩
  have turn : ∀ w', MapAt Value.string w' (mOf o.t m1 m2) (opsP (doO (actT o I Q) o (opsOf o I Q))) → Mods [mOf o.t m1 m2] w w' → TabAt w' tb m1 m2 (nextI o I Q) (nextQ o I Q) ∧ Mods [m1, m2] w w' := fun w' hm' hd => by
    have t1 := h.tb1
    have t2 := h.tb2
    have ne := h.ne
    unfold nextI nextQ
    unfold mOf opsOf at hm'
    unfold mOf at hd
    cases hp : preB o.t
    · rw [hp] at hm' hd
      exact ⟨⟨hd.cell h.c0 (by simpa using t1), hd.cell h.c1 (by simpa using t1), ne, hm', h.mq.mods hd (by simpa using ne.symm)⟩, hd.mono (by simp)⟩
    · rw [hp] at hm' hd
      exact ⟨⟨hd.cell h.c0 (by simpa using t2), hd.cell h.c1 (by simpa using t2), ne, h.mi.mods hd (by simpa using ne), hm'⟩, hd.mono (by simp)⟩
  obtain ⟨p, t, s⟩ := o
  rcases set_cases ⟨p, t, s⟩ (foundT ⟨p, t, s⟩ I Q) (I.length + Q.length) with ⟨h1, he, ha⟩ | ⟨h1, h2, he, ha⟩ | ⟨h1, h2, h3, h4, he, ha⟩ | ⟨h1, h2, h3, h4, he, ha⟩ | ⟨h1, h2, h3, h4, h5, he, ha⟩ | ⟨h1, h2, h3, h4, he, ha⟩
  · exact (set_arg tb m1 p t s w h.c0 hT h1).mono fun e w' ⟨e1, e2⟩ => ⟨by rw [e1]; unfold errT; rw [he], keep w' e2 ha⟩
  · exact (set_name tb m1 m2 p t s w h.c0 h.c1 hT h1 h2).mono fun e w' ⟨e1, e2⟩ => ⟨by rw [e1]; unfold errT; rw [he], keep w' e2 ha⟩
  · exact (set_none tb m1 m2 p t s _ w h.c0 h.c1 hT hm h1 h2 h3 h4).mono fun e w' ⟨e1, e2⟩ => ⟨by rw [e1]; unfold errT; rw [he], keep w' e2 ha⟩
  · refine (set_del tb m1 m2 p t s _ w h.c0 h.c1 hT hm h1 h2 h3 h4).mono fun e w' ⟨e1, e2, e3⟩ => ⟨by rw [e1]; unfold errT; rw [he], turn w' ?_ e3⟩
    have : actT ⟨p, t, s⟩ I Q = 1 := ha
    rw [this]
    exact e2
  · exact (set_full tb m1 m2 p t s _ I Q w h.c0 h.c1 hT hm h.mi h.mq h1 h2 h3 h4 h5 hmax).mono fun e w' ⟨e1, e2⟩ => ⟨by rw [e1]; unfold errT; rw [he], keep w' e2 ha⟩
  · have ha' : actT ⟨p, t, s⟩ I Q = 2 := ha
    cases hf : foundT ⟨p, t, s⟩ I Q
    · rw [hf] at h4
      refine (set_put tb m1 m2 p t s _ I Q w h.c0 h.c1 hT hm h.mi h.mq h1 h2 h3 hf (by simpa using h4)).mono fun e w' ⟨e1, e2, e3⟩ => ⟨by rw [e1]; unfold errT; rw [he], turn w' ?_ e3⟩
      rw [ha']
      exact e2
    · refine (set_again tb m1 m2 p t s _ w h.c0 h.c1 hT hm h1 h2 h3 hf).mono fun e w' ⟨e1, e2, e3⟩ => ⟨by rw [e1]; unfold errT; rw [he], turn w' ?_ e3⟩
      rw [ha']
      exact e2

theorem rSet_any (rb : Nat) (v : Value) (o : OpV) (L : List OpV) (w : World) (h : RefAt 32 w rb v L) (hsz : o.s.size ≤ 9223372036854775807) (hmax : L.length ≤ 1000) :
    Calls Tryd.prog 41 #[.pointer (some ⟨rb, 0, none⟩), .agg #[.int .i64 o.p, .int .i64 o.t, .string o.s]] w fun e w' => e = .returned (.int .i64 (errR o L)) ∧ ∃ v', RefAt 32 w' rb v' (nextR o L) ∧ Mods (rb :: ownL v) w w' ∧ (∀ b, v'.ownBlock = some b → v.ownBlock = some b ∨ w.heap.size ≤ b) := by
  have keep : ∀ w', Ext w w' → actI o (foundR o L) L.length = 0 → ∃ v', RefAt 32 w' rb v' (nextR o L) ∧ Mods (rb :: ownL v) w w' ∧ (∀ b, v'.ownBlock = some b → v.ownBlock = some b ∨ w.heap.size ≤ b) := fun w' he ha => by
    have e1 : nextR o L = L := by
      unfold nextR
      rw [ha]
      split <;> simp
    rw [e1]
    exact ⟨v, h.ext he, Mods.ext he, fun b hb => .inl hb⟩
  obtain ⟨p, t, s⟩ := o
  rcases set_cases ⟨p, t, s⟩ (foundR ⟨p, t, s⟩ L) L.length with ⟨h1, he, ha⟩ | ⟨h1, h2, he, ha⟩ | ⟨h1, h2, h3, h4, he, ha⟩ | ⟨h1, h2, h3, h4, he, ha⟩ | ⟨h1, h2, h3, h4, h5, he, ha⟩ | ⟨h1, h2, h3, h4, he, ha⟩
  · exact (rset_arg rb p t s w h1).mono fun e w' ⟨e1, e2⟩ => ⟨by rw [e1]; unfold errR; rw [he], keep w' e2 ha⟩
  · exact (rset_name rb p t s w hsz h1 h2).mono fun e w' ⟨e1, e2⟩ => ⟨by rw [e1]; unfold errR; rw [he], keep w' e2 ha⟩
  · have hi : idxR s (preB t) L = none := by simpa [foundR] using h4
    exact (rset_none rb v L p t s w h h1 h2 h3 hi).mono fun e w' ⟨e1, e2⟩ => ⟨by rw [e1]; unfold errR; rw [he], keep w' e2 ha⟩
  · obtain ⟨k, hi⟩ := Option.isSome_iff_exists.1 h4
    refine (rset_del rb v L p t s k w hmax h h1 h2 h3 hi).mono fun e w' ⟨e1, v', e2, e3, e4⟩ => ⟨by rw [e1]; unfold errR; rw [he], v', ?_, e3.mono (by simp), fun b hb => .inr (e4 b hb)⟩
    have hi' : idxR (⟨p, t, s⟩ : OpV).s (preB (⟨p, t, s⟩ : OpV).t) L = some k := hi
    unfold nextR
    rw [ha, hi']
    exact e2
  · have hi : idxR s (preB t) L = none := by simpa [foundR] using h4
    exact (rset_full rb v L p t s w h h1 h2 h3 hi h5).mono fun e w' ⟨e1, e2⟩ => ⟨by rw [e1]; unfold errR; rw [he], keep w' e2 ha⟩
  · cases hi : idxR s (preB t) L with
    | none =>
      have h4' : L.length < 64 := by
        rcases h4 with h4 | h4
        · simp [foundR, hi] at h4
        · exact h4
      refine (rset_new rb v L p t s w h h1 h2 h3 hi h4').mono fun e w' ⟨e1, v', e2, e3, e4⟩ => ⟨by rw [e1]; unfold errR; rw [he], v', ?_, e3, e4⟩
      have hi' : idxR (⟨p, t, s⟩ : OpV).s (preB (⟨p, t, s⟩ : OpV).t) L = none := hi
      unfold nextR
      rw [ha, hi']
      exact e2
    | some k =>
      refine (rset_put rb v L p t s k w h h1 h2 h3 hi).mono fun e w' ⟨e1, e2, e3⟩ => ⟨by rw [e1]; unfold errR; rw [he], v, ?_, e3.mono (fun x hx => List.mem_cons_of_mem _ hx), fun b hb => .inl hb⟩
      have hi' : idxR (⟨p, t, s⟩ : OpV).s (preB (⟨p, t, s⟩ : OpV).t) L = some k := hi
      unfold nextR
      rw [ha, hi']
      exact e2

end Go.Proofs.YtckkbghmiomfiaaDoor
