/- The evaluator's conversions are the model's. -/
import Derived.Test.YtkenjhchfidpbaaGreatDoorC12
import Derived.Laws.BytesString
import Derived.Lib.Builder
import Derived.Stop.FmtQuoteTie
import Derived.Lib.UnsafeStr
namespace Go.Ev
open Go.RowKit
section
variable {C : Ctx} {P : Program} {N : Kp} {φ : Pl} {h h' : H} {w : World} {T : PT AV} {a : Act}

theorem bytesOk_rel : ∀ {l : List AV} {q : List Nat} {l' : List Value}, bytesOk l = some q → VRs φ l l' → l' = q.map (fun n : Nat => Value.int .u8 (n : Int)) ∧ ∀ n ∈ q, n < 256
  | [], q, l', e, hl => by cases hl; injection e with e; subst e; exact ⟨rfl, by simp⟩
  | x :: l, q, l', e, hl => by
    unfold bytesOk at e
    split at e
    · rename_i heq; exact absurd heq (by simp)
    · rename_i n l0 heq
      injection heq with h1 h2
      subst h1 h2
      cases hl with
      | cons _ v' _ l0' hv t =>
        cases hv
        have e1 := cond_some e
        clear e
        obtain ⟨hn, e⟩ := e1
        split at e
        · rename_i r hr
          injection e with e; subst e
          obtain ⟨i1, i2⟩ := bytesOk_rel hr t
          refine ⟨by rw [i1]; rfl, fun m hm => ?_⟩
          rcases List.mem_cons.1 hm with rfl | hm
          · exact blt_lt hn
          · exact i2 m hm
        · exact absurd e (by simp)
    · exact absurd e (by simp)
theorem push_nats : ∀ (q : List Nat) (s : ByteArray), (∀ n ∈ q, n < 256) → nats ((q.map (fun n : Nat => (n : Int))).foldl (fun r n => r.push (UInt8.ofNat n.toNat)) s) = nats s ++ q
  | [], s, _ => by simp
  | n :: q, s, hq => by
    rw [List.map_cons, List.foldl_cons, push_nats q _ (fun m hm => hq m (List.mem_cons_of_mem _ hm))]
    have hn := hq n List.mem_cons_self
    have : nats (s.push (UInt8.ofNat (n : Int).toNat)) = nats s ++ [n] := by
      simp only [nats, ByteArray.data_push, Array.toList_push, List.map_append, List.map_cons, List.map_nil]
      congr 2
      simp
      omega
    rw [this]; simp

theorem vrstr (s : ByteArray) (q : List Nat) (e : nats s = q) : VR φ (.str q) (.string s) := by subst e; exact .str s

/-- A string's bytes in a row of their own: marked. -/
theorem freeze_new (w : World) (cs : Array Value) (t : TypeId) : ((w.alloc (.cells cs t)).freeze ⟨w.heap.size, cs.size, none⟩ 1) = w.alloc (.cells cs t (cs.size, cs.size + 1)) := by
  simp only [World.freeze, World.alloc]
  rw [if_neg (by decide)]
  have key : ∀ (A : Array Obj) (o : Obj) (f : Obj → Obj), (A.push o).modify A.size f = A.push (f o) := by
    intro A o f
    apply Array.ext_getElem?
    intro j
    rw [Array.getElem?_modify]
    by_cases hj : A.size = j
    · subst hj; simp
    · rw [if_neg hj, Array.getElem?_push, Array.getElem?_push, if_neg (Ne.symm hj), if_neg (Ne.symm hj)]
  rw [key]
  simp
theorem toBytes_ok (s : Sim N φ h w) {e : TypeId} {b : ByteArray} {i : Nat} (hn : newRow h e ((nats b).map fun c => .int .u8 (.ofNat c)) 3 = some (i, h')) :
    Made P N φ w (Conv.stringToBytes e b) (.sl i 0 (nats b).length (nats b).length 1) h' := by
  have hge := grownCap_ge w b.size 0 e
  let l' : List Value := b.data.toList.map fun u => .int .u8 u.toNat
  have hl : VRs φ ((nats b).map fun c => AV.int .u8 (.ofNat c)) l' := by
    show VRs φ _ (b.data.toList.map fun u => Value.int .u8 u.toNat)
    rw [nats, List.map_map]
    generalize b.data.toList = q
    induction q with
    | nil => exact .nil
    | cons u q ih => exact .cons _ _ _ _ (.int _ _) ih
  have hlen : l'.length = b.size := by show (b.data.toList.map _).length = _; rw [List.length_map, Array.length_toList]; rfl
  let cs : Array Value := (b.data.map fun u => Value.int .u8 u.toNat) ++ Array.replicate (grownCap w b.size 0 e - b.size) (.int .u8 0)
  have hb : (b.data.map fun u => Value.int .u8 u.toNat).size = b.size := by rw [Array.size_map]; rfl
  have hcs : cs.size = grownCap w b.size 0 e := by show (_ ++ _ : Array Value).size = _; rw [Array.size_append, hb, Array.size_replicate]; omega
  obtain ⟨ψ, h1, h2, h3, h4⟩ := newRow_rel (s.draw) hn (cs := cs) (fr := (cs.size, cs.size + 1)) hl (fun j v hj => by
      have hlt := (List.getElem?_eq_some_iff.1 hj).1
      rw [Array.getElem?_append_left (by omega)]
      have hj' : (b.data.toList.map fun u => Value.int .u8 u.toNat)[j]? = some v := hj
      simpa using hj') (by omega) (fun hh => by rcases hh with hh | hh <;> exact absurd hh (by decide)) (fun hh => absurd rfl hh) (fun j hj => by simp; omega)
  have hrm : ψ.m i = cs.size := by
    obtain ⟨_, _, e3⟩ := newRow_some hn
    obtain ⟨e4, e5, hlt⟩ := newB_some e3
    have hg : h'.b.get i = some (.cells e (pt ((nats b).map fun c => AV.int .u8 (.ofNat c)) 0 .e) ((nats b).map fun c => AV.int .u8 (.ofNat c)).length 3) := by rw [e4, e5, put_get _ _ _ _ hlt, if_pos rfl]
    have ho : (w.drew.alloc (.cells cs e (cs.size, cs.size + 1))).heap[w.drew.heap.size]? = some (.cells cs e (cs.size, cs.size + 1)) := by show (w.heap.push _)[w.heap.size]? = _; exact Array.getElem?_push_size
    have := h3.rm i _ _ _ cs e _ hg h2 ho
    omega
  refine ⟨.slice (some ⟨w.heap.size, 0, none⟩) b.size (grownCap w b.size 0 e), _, ψ, ?_, h1, ?_, h3, (Below.refl N w).drew.trans h4⟩
  · have hch : (choose (.appendCap b.size 0 e)).run P w = .ok (grownCap w b.size 0 e) w.drew := by
      simp [choose, Sem.run, Question.forced, grownCap]
    have hsh : (shape w.heap.size).run P (w.drew.alloc (.cells cs e)) = .ok (some (e, cs.size)) (w.drew.alloc (.cells cs e)) := by
      have ho : (w.drew.alloc (.cells cs e)).heap[w.heap.size]? = some (.cells cs e) := by show (w.heap.push _)[w.heap.size]? = _; exact Array.getElem?_push_size
      show Result.ok ((w.drew.alloc (.cells cs e)).shape? w.heap.size) _ = _
      simp only [World.shape?, ho]
    simp only [Conv.stringToBytes, Sem.run_bind, hch, Result.andThen_ok, Go.newRow, newObj_run, Sem.run_pure, markStringish]
    show Result.andThen ((shape w.heap.size).run P (w.drew.alloc (.cells cs e)) |>.andThen _) _ = _
    rw [hsh]
    simp only [Result.andThen_ok, run_freeze]
    rw [freeze_new w.drew cs e]
    rfl
  · rw [nats_len]
    have hh2 : ψ i = some (w.heap.size, 0) := h2
    have := VR.sl (φ := ψ) i 0 b.size b.size (grownCap w b.size 0 e) w.heap.size 0 1 hh2 hge (fun h0 => absurd h0 (by decide)) (fun _ => by rw [hrm]; omega)
    simpa using this

theorem uptr_ok (K : CtxOk C P) (s : Sim N φ h w) {src dst : TypeId} {d d' : TypeDesc} (hs : und C src = some d) (hd : und C dst = some d') {x v : AV} {x' : Value} (hx : VR φ x x') (e : uptr C h d d' x = some v) :
    ∃ v', (convert src dst x').run P w = .ok v' w ∧ VR φ v v' := by
  unfold uptr at e
  split at e
  · cases hx
    injection e with e; subst e
    exact ⟨_, by simp [convert, run_und K hs, run_und K hd, Conv.unsafePointer], .nilp⟩
  · cases hx
    injection e with e; subst e
    exact ⟨_, by simp [convert, run_und K hs, run_und K hd, Conv.unsafePointer], .nilp⟩
  · rename_i t i o
    split at e
    · rename_i sz ty cc n fl hsz hb
      cases hx with
      | ptr _ _ b k hp =>
        cases h0 : Nat.beq sz 0 with
        | true => rw [h0] at e; exact absurd e (by simp)
        | false =>
          rw [h0] at e; simp only [cond_false] at e
          have e1 := cond_some e
          clear e
          obtain ⟨hlt, e⟩ := e1
          injection e with e; subst e
          obtain ⟨ti, t1, t2⟩ := siz_ok K hsz
          obtain ⟨cs, fr, ho, hcr, _⟩ := s.row hb hp
          have hlen := hcr.len
          have hlt' := blt_lt hlt
          have hsh : w.shape? b = some (ty, cs.size) := by simp [World.shape?, ho]
          exact ⟨_, Go.Lib.run_to_unsafe w ⟨b, k + o, none⟩ (und_ok K hs) (und_ok K hd) t1 (by rw [t2]; intro h; rw [h] at h0; exact absurd h0 (by simp)) hsh (by show k + o < cs.size; omega), .ptr _ _ _ _ hp⟩
    · exact absurd e (by simp)
  · rename_i u i o
    split at e
    · rename_i sz ty cc n hsz hb
      cases hx with
      | ptr _ _ b k hp =>
        have e1 := cond_some e
        clear e
        obtain ⟨hh, e⟩ := e1
        injection e with e; subst e
        simp only [Bool.and_eq_true] at hh
        obtain ⟨ti, t1, t2⟩ := siz_ok K hsz
        obtain ⟨cs, fr, ho, hcr, hx2, _⟩ := s.row hb hp
        obtain ⟨hk0, hcn⟩ := hx2 (.inl rfl)
        have hl := hh.2
        unfold liesA at hl
        split at hl
        · rename_i se hse
          simp only [Bool.and_eq_true] at hl
          obtain ⟨hl0, hl⟩ := hl
          rw [List.any_eq_true] at hl
          obtain ⟨q, hq, hm⟩ := hl
          simp only [Bool.and_eq_true] at hm
          obtain ⟨m1, m2, m3, m4⟩ := hm
          have m1 := Nat.eq_of_beq_eq_true m1
          have m2 : q.2.1 * se = n := Nat.eq_of_beq_eq_true m2
          have m3 := Nat.eq_of_beq_eq_true m3
          have m4 := Nat.eq_of_beq_eq_true m4
          have hL := K.lies q hq
          rw [m1, m3, m4] at hL
          obtain ⟨te, q1, q2⟩ := siz_ok K hse
          have hce : P.cellsOf ty = se := by simp [Program.cellsOf, q1, q2]
          have hdiv : cs.size / P.cellsOf ty = q.2.1 := by rw [hce, hcn, ← m2, Nat.mul_div_cancel _ (blt_lt hl0)]
          have hsh : w.shape? b = some (ty, cs.size) := by simp [World.shape?, ho]
          subst hk0
          exact ⟨_, Go.Lib.run_from_unsafe w ⟨b, 0 + o, none⟩ (und_ok K hs) (und_ok K hd) t1 hsh (by rw [hdiv]; simpa using hL), .ptr _ _ _ _ hp⟩
        · exact absurd hl (by simp)
    · exact absurd e (by simp)
  · exact absurd e (by simp)
end
end Go.Ev

/- The evaluator's conversions, all of them, and its builtin functions are the model's. -/
namespace Go.Ev
open Go.RowKit
section
variable {C : Ctx} {P : Program} {N : Kp} {φ : Pl} {h h' : H} {w : World} {T : PT AV} {a : Act}

theorem Made.pure (s : Sim N φ h w) {m : Sem Value} {v : AV} {v' : Value} (e : m.run P w = .ok v' w) (hv : VR φ v v') : Made P N φ w m v h :=
  ⟨v', w, φ, e, Le.refl φ, hv, s, Below.refl N w⟩

theorem convA_ok (K : CtxOk C P) (s : Sim N φ h w) {src dst : TypeId} {x v : AV} {x' : Value} (hx : VR φ x x') (e : convA C h src dst x = some (v, h')) : Made P N φ w (convert src dst x') v h' := by
  unfold convA at e
  split at e
  · rename_i ks kd _ n hs hd
    cases hx
    injection e with e; injection e with e1 e2; subst e1 e2
    refine Made.pure s (v' := .int kd (kd.wrap n)) ?_ (by rw [wr_eq]; exact .int _ _)
    simp only [convert, Sem.run_bind, run_und K hs, run_und K hd, Result.andThen_ok, Conv.intToInt, Sem.run_pure]
  · rename_i ks _ n hs hd
    cases hx
    have e1 := cond_some e
    clear e
    obtain ⟨hn, e⟩ := e1
    injection e with e; injection e with e1 e2; subst e1 e2
    have hlt := blt_lt hn
    refine Made.pure s (v' := .string (Utf8.encode (Int.ofNat n))) ?_ (vrstr _ _ ?_)
    · simp only [convert, Sem.run_bind, run_und K hs, run_und K hd, Result.andThen_ok, Conv.intToString, Sem.run_pure]
    · have h0 : Int.ofNat n = (n : Int) := rfl
      have h1 := Go.Extern.FmtText.enc1 n hlt
      unfold nats
      rw [h0, h1]
      simp
      omega
  · rename_i q hs hd
    cases hx
    rename_i b
    injection e with e; injection e with e1 e2; subst e1 e2
    refine Made.pure s (v' := .string b) ?_ (.str b)
    simp only [convert, Sem.run_bind, run_und K hs, run_und K hd, Result.andThen_ok, Sem.run_pure]
  · rename_i el q hs hd
    cases hx
    rename_i b
    split at e
    · rename_i hu
      split at e
      · rename_i i k hn
        injection e with e; injection e with e1 e2; subst e1 e2
        obtain ⟨v', w', ψ, m1, m2⟩ := toBytes_ok (P := P) s hn
        refine ⟨v', w', ψ, ?_, m2⟩
        simp only [convert, Sem.run_bind, run_und K hs, run_und K hd, run_und K hu, Result.andThen_ok]
        exact m1
      · exact absurd e (by simp)
    · exact absurd e (by simp)
  · rename_i el y hs hd
    split at e
    · rename_i hu
      split at e
      · cases hx
        injection e with e; injection e with e1 e2; subst e1 e2
        refine Made.pure s (v' := .string .empty) ?_ (vrstr _ _ rfl)
        simp only [convert, Sem.run_bind, run_und K hs, run_und K hd, run_und K hu, Result.andThen_ok, Conv.bytesToString, Sem.run_pure]
      · cases hx with
        | slz ad c' =>
          injection e with e; injection e with e1 e2; subst e1 e2
          refine Made.pure s (v' := .string .empty) ?_ (vrstr _ _ rfl)
          have := run_bytesToString (P := P) w ad 0 c' [] rfl
          simp only [convert, Sem.run_bind, run_und K hs, run_und K hd, run_und K hu, Result.andThen_ok]
          exact this
      · rename_i i off n c zz
        cases hx with
        | sl _ _ _ _ c' b k _ hp hc he hz =>
          split at e
          · rename_i l hl
            split at e
            · rename_i q hq
              injection e with e; injection e with e1 e2; subst e1 e2
              obtain ⟨l', d1, d2, d3⟩ := cells_ok (P := P) s hl hp
              obtain ⟨b1, b2⟩ := bytesOk_rel hq d2
              have hm : l' = (q.map (fun n : Nat => (n : Int))).map (Value.int .u8) := by rw [b1, List.map_map]; rfl
              have := run_bytesToString (P := P) w ⟨b, k + off, none⟩ n c' (q.map (fun n : Nat => (n : Int))) (by rw [← hm]; exact d1 w rfl)
              refine Made.pure s ?_ (vrstr _ _ (push_nats q ByteArray.empty b2))
              simp only [convert, Sem.run_bind, run_und K hs, run_und K hd, run_und K hu, Result.andThen_ok]
              exact this
            · exact absurd e (by simp)
          · exact absurd e (by simp)
      · exact absurd e (by simp)
    · exact absurd e (by simp)
  · rename_i d d' _ hs hd _ _ _ _
    unfold val0 at e
    split at e
    · rename_i v0 hv0
      injection e with e; injection e with e1 e2; subst e1 e2
      obtain ⟨v', r1, r2⟩ := uptr_ok (P := P) K s hs hd hx hv0
      exact Made.pure s r1 r2
    · exact absurd e (by simp)
  · exact absurd e (by simp)
end
end Go.Ev

/- The evaluator's builtin functions are the model's. -/
namespace Go.Ev
open Go.RowKit
section
variable {C : Ctx} {P : Program} {N : Kp} {φ : Pl} {h h' : H} {w : World} {T : PT AV} {a : Act}

/-- A block is forgotten, and may then be another. -/
theorem Sim.forget (s : Sim N φ h w) {i : Nat} {b0 : Blk} (hb : h.b.get i = some b0) {b k : Nat} (hp : φ i = some (b, k)) {w' : World} (hoth : ∀ q, q ≠ b → w'.heap[q]? = w.heap[q]?) (hs : w'.heap.size = w.heap.size) : Sim N φ ⟨h.b.del i, h.nx⟩ w' := by
  have hi : i < 5000000 := Nat.lt_of_lt_of_le (s.lt hb) s.low
  have old : ∀ j c, (h.b.del i).get j = some c → j ≠ i ∧ h.b.get j = some c := by
    intro j c hc
    rw [del_get _ _ _ hi] at hc
    by_cases hj : j = i
    · rw [if_pos hj] at hc; exact absurd hc (by simp)
    · rw [if_neg hj] at hc; exact ⟨hj, hc⟩
  have away : ∀ q c r k', q ≠ i → h.b.get q = some c → φ q = some (r, k') → r ≠ b := by
    intro q c r k' hqi hc hq he
    subst he
    exact hqi (s.inj q i c b0 r k' k hc hb hq hp)
  refine ⟨?_, fun a b c d r k k' h1 h2 => s.inj a b c d r k k' (old _ _ h1).2 (old _ _ h2).2, s.fresh, fun j c r k hc => s.own j c r k (old j c hc).2, s.glob, s.big, s.low, by rw [hs]; exact s.size, fun j c r k hc => s.hid j c r k (old j c hc).2, s.res, ?_⟩
  · intro j c hc
    obtain ⟨h1, h2⟩ := old j c hc
    obtain ⟨r, k', o, e1, e2, e3⟩ := s.blk j c h2
    exact ⟨r, k', o, e1, by rw [hoth _ (away j c r k' h1 h2 e1)]; exact e2, e3⟩
  · intro j c r k' cs t fr hc e1 ho
    obtain ⟨h1, h2⟩ := old j c hc
    rw [hoth _ (away j c r k' h1 h2 e1)] at ho
    exact s.rm j c r k' cs t fr h2 e1 ho

theorem freeze_ne (w : World) (a : Addr) (n q : Nat) (hq : q ≠ a.block) : (w.freeze a n).heap[q]? = w.heap[q]? := by
  unfold World.freeze
  split
  · rfl
  · show (w.heap.modify a.block _)[q]? = _
    rw [Array.getElem?_modify, if_neg (Ne.symm hq)]
theorem freeze_size (w : World) (a : Addr) (n : Nat) : (w.freeze a n).heap.size = w.heap.size := by
  unfold World.freeze
  split
  · rfl
  · show (w.heap.modify a.block _).size = _
    simp
theorem freeze_below (w : World) (a : Addr) (n : Nat) (hb : ¬ N.o a.block) : Below N w (w.freeze a n) := by
  refine ⟨?_, ?_, ?_, by rw [freeze_size]; exact Nat.le_refl _, fun k hk => freeze_ne w a n k (fun e => hb (e ▸ hk))⟩ <;> (unfold World.freeze; split <;> rfl)

/-- In a row of bytes, so many lie side by side. -/
theorem liesAt_off {e : TypeId} (hc : P.cellsOf e = 1) (count off n : Nat) (hn : off + n ≤ count) : liesAt P P.depth e count off e n = true := by
  have hd : P.depth = (2 * (P.types.size + Made.depth) + 1) + 1 := rfl
  rw [hd]
  simp only [liesAt, Bool.or_eq_true]
  left
  rw [hd]
  simp [rowAt, hc, hn, sameLayout, Nat.mod_one]

theorem bytes_of {q : List Nat} (hq : ∀ n ∈ q, n < 256) : (q.map UInt8.ofNat).map UInt8.toNat = q := by
  induction q with
  | nil => rfl
  | cons n q ih =>
    rw [List.map_cons, List.map_cons, ih (fun m hm => hq m (List.mem_cons_of_mem _ hm))]
    congr 1
    have := hq n List.mem_cons_self
    simp
    omega

/-- unsafe.String of bytes in a row. -/
theorem unsafeStr_ok (K : CtxOk C P) (s : Sim N φ h w) {pt _it e u : TypeId} {i o m fl n : Nat} {c : PT AV} (hb : h.b.get i = some (.cells e c m fl)) (hfl : fl ≠ 2) (hu : und C pt = some (.pointer u)) (hue : u = e) (hz : siz C e = some 1) (hle : o + n ≤ m) (hn0 : n ≠ 0)
    {l : List AV} (hl : getN c o n = some l) {q : List Nat} (hq : bytesOk l = some q) {b k : Nat} (hp : φ i = some (b, k)) (ki : IntKind) (ty : TypeId) {ts : Array TypeId} (hts : ts[0]? = some pt) :
    Made P N φ w (Builtin.unsafeString_ ts ty #[.pointer (some ⟨b, k + o, none⟩), .int ki (Int.ofNat n)]) (.str q) ⟨h.b.del i, h.nx⟩ := by
  subst hue
  obtain ⟨cs, fr, ho, hcr, hx2, hf2, hn2⟩ := s.row hb hp
  have hlen := hcr.len
  have hbd := hcr.bd
  have hload : loadC h i o n = some l := by
    unfold loadC
    rw [hb]
    show iff' (Nat.ble (Nat.add o n) m) (getN c o n) none = _
    rw [show Nat.ble (Nat.add o n) m = true from Nat.ble_eq_true_of_le hle, iff_true]
    exact hl
  obtain ⟨l', d1, d2, d3⟩ := loadC_rel s hload hp
  obtain ⟨b1, b2⟩ := bytesOk_rel hq d2
  have hql : q.length = n := by rw [← d1, b1, List.length_map]
  have hro : ro (.cells u c m fl) = false := by
    unfold ro; split
    · rename_i h2; injection h2 with _ _ _ h2; exact absurd h2 hfl
    · rfl
  have hown : ¬ N.o b := s.own i _ b k hb hro hp
  have hsh : w.shape? b = some (u, cs.size) := by simp [World.shape?, ho]
  obtain ⟨ti, t1, t2⟩ := siz_ok K hz
  have hco : P.cellsOf u = 1 := by simp [Program.cellsOf, t1, t2]
  have hlies : liesAt P P.depth u (cs.size / P.cellsOf u) (k + o) u n = true := by
    rw [show cs.size / P.cellsOf u = cs.size by rw [hco, Nat.div_one]]
    exact liesAt_off hco _ _ _ (by omega)
  have hlb := Go.Lib.run_loadBytes (P := P) w (q.map UInt8.ofNat) ⟨b, k + o, none⟩ .empty (fun j x hj => by
    rw [Addr.add_mid]
    refine d3 j _ ?_
    rw [b1]
    rw [List.getElem?_map] at hj
    rw [List.getElem?_map]
    cases hqj : q[j]? with
    | none => rw [hqj] at hj; exact absurd hj (by simp)
    | some y =>
      rw [hqj] at hj
      have hx : x = UInt8.ofNat y := by simpa using hj.symm
      have hy := b2 y (List.mem_of_getElem? hqj)
      subst hx
      simp
      omega)
  rw [List.length_map, hql] at hlb
  refine ⟨.string ⟨ByteArray.empty.data ++ (q.map UInt8.ofNat).toArray⟩, w.freeze ⟨b, k + o, none⟩ n, φ, ?_, Le.refl φ, vrstr _ _ ?_, s.forget hb hp (fun j hj => freeze_ne w _ n j hj) (freeze_size w _ n), freeze_below w _ n hown⟩
  · have hmax : IntKind.i64.max = 9223372036854775807 := rfl
    have c1 : ¬ ((Int.ofNat n) < 0) := by simp
    have c2 : ¬ ((Int.ofNat n) > IntKind.i64.max) := by rw [hmax]; simp only [Int.ofNat_eq_natCast]; omega
    have c3 : ¬ ((Int.ofNat n) = 0) := by simp only [Int.ofNat_eq_natCast]; omega
    have hel : (elemOf pt).run P w = .ok u w := by simp [elemOf, run_und K hu]
    have hva : (variablesAt ⟨b, k + o, none⟩ u n).run P w = .ok true w := by simp [variablesAt, hsh, hlies]
    have hn1 : (Int.ofNat n).toNat = n := rfl
    have hdef : Builtin.unsafeString_ ts ty #[.pointer (some ⟨b, k + o, none⟩), .int ki (Int.ofNat n)] =
        (do
          let n ← asInt (.int ki (Int.ofNat n))
          let some pt := ts[0]? | stuck "unsafe.String: no argument types"
          if n < 0 then runtimePanic (.error "unsafe.String: len out of range")
          if n > IntKind.i64.max then unsupported (.unsafePointer "String: a length above the largest int")
          if n = 0 then pure (.string .empty)
          else if ← variablesAt ⟨b, k + o, none⟩ (← elemOf pt) n.toNat then do
            let s ← loadBytes ⟨b, k + o, none⟩ .empty n.toNat
            freeze ⟨b, k + o, none⟩ n.toNat
            pure (.string s)
          else unsupported (.unsafePointer "String: not so many bytes at ptr")) := rfl
    rw [hdef]
    simp only [Sem.run_bind, asInt, asIntOf, Sem.run_pure, Result.andThen_ok, hts, c1, c2, c3, if_false, hel, hn1, hva, if_true, hlb, run_freeze]
  · unfold nats
    simp only [Array.toList_append]
    show List.map UInt8.toNat ([] ++ List.map UInt8.ofNat q) = q
    rw [List.nil_append]; exact bytes_of b2
end
end Go.Ev
