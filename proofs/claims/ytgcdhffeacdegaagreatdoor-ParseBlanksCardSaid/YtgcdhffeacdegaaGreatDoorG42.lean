/- Layer 10, the program: Clause, whole. -/
import Derived.Test.YtgcdhffeacdegaaGreatDoorG41
import Derived.Test.YtgcdhffeacdegaaGreatDoorG33
import Derived.Test.YtgcdhffeacdegaaGreatDoorG07
namespace Go.Proofs.YtgcdhffeacdegaaGreatDoor
open Go.RowKit Go.El

theorem ctoksN_err : ∀ (n : Nat) {B : List UInt8} {i : Nat} {acc : List TokV} {k : Nat} {x : Int}, ctoksN n B i acc = .error (k, x) → x ≠ 0
  | 0, _, _, _, _, _, h => by
    simp only [ctoksN] at h
    injection h with h
    injection h with _ h
    rw [← h]
    decide
  | n + 1, B, i, acc, k, x, h => by
    simp only [ctoksN] at h
    cases hs : scanS B i with
    | mk t r =>
      obtain ⟨j, y⟩ := r
      rw [hs] at h
      simp only at h
      split at h
      · injection h with h
        injection h with _ h
        rw [← h]
        decide
      · split at h
        · next hy =>
          injection h with h
          injection h with _ h
          rw [← h]
          exact hy
        · split at h
          · cases h
          · exact ctoksN_err n h
theorem pClause_any {A : Option Addr} {cap : Nat} {B : List UInt8} {i tb : Nat} {w : World} (h : BytesAt w A B) (hi : i ≤ B.length) (hB : B.length ≤ 65536) (hcap : B.length ≤ cap) (g : Glob w) {I Q : List OpV} (ho : OpsOk w tb I Q) :
    Calls Tryz.prog 14 #[.slice A B.length cap, .int .i64 (i : Int), .pointer (some ⟨tb, 0, none⟩)] w (ClPost w (clauseS ⟨fun s => findO s I, fun s => findO s Q⟩ B i)) := by
  unfold clauseS
  cases hx : ctoks B i with
  | error p =>
    obtain ⟨k, x⟩ := p
    exact pClause_err h hi hB hcap g hx (ctoksN_err _ hx)
  | ok p =>
    obtain ⟨l, k⟩ := p
    exact pClause_ok h hi hB hcap g ho hx
end Go.Proofs.YtgcdhffeacdegaaGreatDoor

/- Layer 10, plain: all clauses of a text. -/
namespace Go.El

theorem ctoksN_err : ∀ (n : Nat) {B : List UInt8} {i : Nat} {acc : List TokV} {k : Nat} {x : Int}, ctoksN n B i acc = .error (k, x) → x ≠ 0
  | 0, _, _, _, _, _, h => by
    simp only [ctoksN] at h
    injection h with h
    injection h with _ h
    rw [← h]
    decide
  | n + 1, B, i, acc, k, x, h => by
    simp only [ctoksN] at h
    cases hs : scanS B i with
    | mk t r =>
      obtain ⟨j, y⟩ := r
      rw [hs] at h
      simp only at h
      split at h
      · injection h with h
        injection h with _ h
        rw [← h]
        decide
      · split at h
        · next hy =>
          injection h with h
          injection h with _ h
          rw [← h]
          exact hy
        · split at h
          · cases h
          · exact ctoksN_err n h
/-- What a clause comes to, where it is read. -/
theorem clauseS_ok {O : Ops} {B : List UInt8} {i : Nat} (hi : i ≤ B.length) (hB : B.length ≤ 65536) (h : (clauseS O B i).2.2 = 0) : ∃ k : Nat, (clauseS O B i).2.1 = k ∧ i < k ∧ k ≤ B.length := by
  unfold clauseS at h ⊢
  cases hx : ctoks B i with
  | error p =>
    obtain ⟨k, x⟩ := p
    rw [hx] at h
    simp only at h ⊢
    exact absurd h (ctoksN_err _ hx)
  | ok p =>
    obtain ⟨l, k⟩ := p
    obtain ⟨_, h1, h2⟩ := ctoks_ok hi hB hx
    rw [hx] at h
    simp only at h ⊢
    refine ⟨k, ?_, h2, h1⟩
    unfold readT at h ⊢
    cases ht : termN O (5 * l.length + 5) 1200 l [] with
    | bad q => rw [ht] at h; simp at h
    | ok t q ns =>
      rw [ht] at h
      simp only at h ⊢
      split
      · next h6 =>
        rw [if_pos h6] at h
        split
        · rfl
        · next hc =>
          rw [if_neg hc] at h
          exact absurd h hc
      · next h6 =>
        rw [if_neg h6] at h
        simp at h
/-- All clauses from a place on. -/
def allRN (O : Ops) : Nat → List UInt8 → Nat → List ReadV → List ReadV × Int × Int
  | 0, _, i, acc => (acc, i, 0)
  | n + 1, B, i, acc =>
    if (clauseS O B i).2.2 = 0 then allRN O n B (clauseS O B i).2.1.toNat (acc ++ [(clauseS O B i).1])
    else if (clauseS O B i).2.2 = 4 then (acc, (clauseS O B i).2.1, 0)
    else (acc, (clauseS O B i).2.1, (clauseS O B i).2.2)
def allR (O : Ops) (B : List UInt8) : List ReadV × Int × Int := allRN O (B.length + 1) B 0 []
end Go.El

/- Layer 10, the program: a row of readings that grows. -/
namespace Go.Proofs.YtgcdhffeacdegaaGreatDoor
open Go.RowKit Go.El

/-- A reading and where its parts lie. -/
abbrev RdP := ReadV × Option Addr × Nat × Option Addr × Nat
def rdC (p : RdP) : List Value := [.int .i64 (Tm.k p.1.t), .int .i64 (Tm.n p.1.t), .string (Tm.s p.1.t), .slice p.2.1 (Tm.l p.1.t).length p.2.2.1, .slice p.2.2.2.1 p.1.ns.length p.2.2.2.2, .int .i64 p.1.nx]
theorem rdC_len (p : RdP) : (rdC p).length = 6 := rfl
theorem rdC_one (p : RdP) : ∀ u ∈ rdC p, u.oneCell' = true := by
  intro u hu
  simp only [rdC, List.mem_cons, List.not_mem_nil, or_false] at hu
  rcases hu with rfl | rfl | rfl | rfl | rfl | rfl <;> rfl
theorem rdInfo : (Tryz.prog.info? 35).map (fun i => (i.zero, i.size, i.bytes)) = some (some (.agg #[.int .i64 0, .int .i64 0, .string ⟨#[]⟩, .slice none 0 0, .slice none 0 0, .int .i64 0]), 6, 88) := by kernel_rfl
/-- One reading's parts, in blocks D. -/
structure RdIn (D : Nat → Prop) (w : World) (p : RdP) : Prop where
  tm : TmIn D w p.1.t p.2.1 p.2.2.1
  ns : El.Src w p.2.2.2.1 p.1.ns.length 1 (p.1.ns.map Value.string)
  cap : p.1.ns.length ≤ p.2.2.2.2
  blk : ∀ a, p.2.2.2.1 = some a → D a.block
theorem RdIn.mods {D D' : Nat → Prop} {S : List Nat} {w w' : World} (hm : Mods S w w') (hS : ∀ k, D k → k ∉ S) (hD : ∀ k, D k → D' k) {p : RdP} (h : RdIn D w p) : RdIn D' w' p :=
  ⟨TmIn.mods hm hS hD h.tm, h.ns.mods hm (fun a ha => hS _ (h.blk a ha)), h.cap, fun a ha => hD _ (h.blk a ha)⟩
/-- A row of readings that the call has gathered since X. -/
structure RdsAt (X W : World) (v : Value) (M : List RdP) : Prop where
  own : W.ownsRow 0 35 6 v M.length (flat rdC M)
  kid : ∀ p ∈ M, RdIn (fun k => X.heap.size ≤ k ∧ k < W.heap.size ∧ v.ownBlock ≠ some k) W p
  far : ∀ k, v.ownBlock = some k → X.heap.size ≤ k
  ext : Ext X W
theorem RdsAt.start (X : World) : RdsAt X X (.slice none 0 0) [] := ⟨World.ownsRow_nil _ _ _ _, fun p hp => by simp at hp, fun k hk => by simp [Value.ownBlock] at hk, Ext.refl _⟩
theorem RdsAt.go {X W V : World} {v : Value} {M : List RdP} (h : RdsAt X W v M) (x : Ext W V) : RdsAt X V v M :=
  ⟨own_ext h.own x, fun p hp => RdIn.mods (Mods.ext (S := []) x) (fun _ _ => by simp) (fun _ hk => ⟨hk.1, Nat.lt_of_lt_of_le hk.2.1 x.size, hk.2.2⟩) (h.kid p hp), h.far, h.ext.trans x⟩
/-- One more. -/
theorem RdsAt.push {X W V W' : World} {v v' : Value} {M : List RdP} {p : RdP} (h : RdsAt X W v M) (hp : RdIn (fun k => X.heap.size ≤ k ∧ k < W.heap.size ∧ v.ownBlock ≠ some k) W p) (x : Ext W V)
    (ho : W'.ownsRow 0 35 6 v' (M.length + 1) (flat rdC M ++ rdC p)) (hm : Mods (ownL v) V W') (hb : v'.ownBlock = v.ownBlock ∨ v'.ownBlock = some V.heap.size) : RdsAt X W' v' (M ++ [p]) := by
  have hX : Mods (ownL v) W W' := (Mods.ext x).trans hm
  have hno : ∀ k, (X.heap.size ≤ k ∧ k < W.heap.size ∧ v.ownBlock ≠ some k) → k ∉ ownL v := fun k hk hm => hk.2.2 (by simpa [ownL] using hm)
  have hD : ∀ k, (X.heap.size ≤ k ∧ k < W.heap.size ∧ v.ownBlock ≠ some k) → (X.heap.size ≤ k ∧ k < W'.heap.size ∧ v'.ownBlock ≠ some k) := fun k hk => by
    refine ⟨hk.1, Nat.lt_of_lt_of_le hk.2.1 hX.size, fun e => ?_⟩
    rcases hb with e2 | e2
    · exact hk.2.2 (e2.symm.trans e)
    · rw [e2] at e
      injection e with e
      have := x.size
      omega
  refine ⟨by simpa [flat_append, flat] using ho, fun r hr => ?_, fun k hk => ?_, ext_mods h.ext hX (fun k hk => h.far k (by simpa [ownL] using hk))⟩
  · rcases List.mem_append.1 hr with hr | hr
    · exact RdIn.mods hX hno hD (h.kid r hr)
    · simp at hr
      subst hr
      exact RdIn.mods hX hno hD hp
  · rcases hb with e | e
    · exact h.far k (e ▸ hk)
    · rw [e] at hk
      injection hk with hk
      subst hk
      exact Nat.le_trans h.ext.size x.size
end Go.Proofs.YtgcdhffeacdegaaGreatDoor

/- Layer 10, the program: the walk of All. -/
namespace Go.Proofs.YtgcdhffeacdegaaGreatDoor
open Go.RowKit Go.El

/-- Clause, with its parts told. -/
def ClP2 (w : World) (r : ReadV) (k x : Int) (e : Ending) (w' : World) : Prop := ∃ A c n q, e = .returned (.tuple #[.agg #[.int .i64 (Tm.k r.t), .int .i64 (Tm.n r.t), .string (Tm.s r.t), .slice A (Tm.l r.t).length c, .slice n r.ns.length q, .int .i64 r.nx], .int .i64 k, .int .i64 x]) ∧ RdIn (fun b => w.heap.size ≤ b ∧ b < w'.heap.size) w' (r, A, c, n, q) ∧ Ext w w'
theorem ClPost.two {w w' : World} {X : ReadV × Int × Int} {e : Ending} (h : ClPost w X e w') {r : ReadV} {k x : Int} (hX : X = (r, k, x)) : ClP2 w r k x e w' := by
  subst hX
  obtain ⟨v, rfl, ⟨A, c, n, q, rfl, ht, hs, hq, hn⟩, hx⟩ := h
  exact ⟨A, c, n, q, rfl, ⟨ht, hs, hq, hn⟩, hx⟩
/-- What All leaves. -/
def AllPost (w : World) (x : List ReadV × Int × Int) (e : Ending) (w' : World) : Prop := ∃ v M, e = .returned (.tuple #[v, .int .i64 x.2.1, .int .i64 x.2.2]) ∧ RdsAt w w' v M ∧ M.map (·.1) = x.1
theorem src_newR (w : World) (o : Obj) (p : RdP) : El.Src ((w.alloc o).alloc (.cells #[.int .i64 (Tm.k p.1.t), .int .i64 (Tm.n p.1.t), .string (Tm.s p.1.t), .slice p.2.1 (Tm.l p.1.t).length p.2.2.1, .slice p.2.2.2.1 p.1.ns.length p.2.2.2.2, .int .i64 p.1.nx] 35)) (some ⟨w.heap.size + 1, 0, none⟩) 1 6 (rdC p) := by
  have := El.Src.new (w.alloc o) #[.int .i64 (Tm.k p.1.t), .int .i64 (Tm.n p.1.t), .string (Tm.s p.1.t), .slice p.2.1 (Tm.l p.1.t).length p.2.2.1, .slice p.2.2.2.1 p.1.ns.length p.2.2.2.2, .int .i64 p.1.nx] 35 1 6 rfl
  rw [World.size_alloc] at this
  exact this
/-- A step of the plain function. -/
theorem allRN_step {O : Ops} {B : List UInt8} {k : Nat} {acc : List ReadV} {X : List ReadV × Int × Int} {r : ReadV} {e x : Int} (hc : clauseS O B k = (r, e, x)) (hk : k ≤ B.length) (hB : B.length ≤ 65536) (h : ∃ n, B.length + 1 - k ≤ n ∧ allRN O n B k acc = X) :
    (x = 0 → ∃ j : Nat, e = j ∧ k < j ∧ j ≤ B.length ∧ ∃ n, B.length + 1 - j ≤ n ∧ allRN O n B j (acc ++ [r]) = X) ∧ (x = 4 → X = (acc, e, 0)) ∧ (x ≠ 0 → x ≠ 4 → X = (acc, e, x)) := by
  obtain ⟨n, hn, h⟩ := h
  obtain ⟨m, rfl⟩ : ∃ m, n = m + 1 := ⟨n - 1, by omega⟩
  simp only [allRN] at h
  have hok := clauseS_ok (O := O) (B := B) hk hB
  rw [hc] at h hok
  simp only at h hok
  refine ⟨fun h0 => ?_, fun h4 => ?_, fun h0 h4 => ?_⟩
  · obtain ⟨j, rfl, h1, h2⟩ := hok h0
    rw [if_pos h0, Int.toNat_natCast] at h
    exact ⟨j, rfl, h1, h2, m, by omega, h⟩
  · rw [if_neg (by omega), if_pos h4] at h
    exact h.symm
  · rw [if_neg h0, if_neg h4] at h
    exact h.symm

set_option maxRecDepth 100000 in
set_option maxHeartbeats 4000000 in
theorem pAllR {A : Option Addr} {cap : Nat} {B : List UInt8} {tb : Nat} {w : World} (h : BytesAt w A B) (hB : B.length ≤ 65536) (hcap : B.length ≤ cap) (g : Glob w) {I Q : List OpV} (ho : OpsOk w tb I Q) :
    Calls Tryz.prog 17 #[.slice A B.length cap, .pointer (some ⟨tb, 0, none⟩)] w (AllPost w (allR ⟨fun s => findO s I, fun s => findO s Q⟩ B)) := by
  obtain ⟨i1, hi1, hz0, hz1, hz2⟩ := infoP rdInfo
  have H := Lib.hid h
  have G := Lib.hid g
  have O := Lib.hid ho
  obtain ⟨P, hP⟩ : ∃ P, (⟨fun s => findO s I, fun s => findO s Q⟩ : Ops) = P := ⟨_, rfl⟩
  have HP := Lib.hid hP
  rw [hP]
  obtain ⟨X, hX⟩ : ∃ X, allR P B = X := ⟨_, rfl⟩
  rw [hX]
  have HX : Hid (∃ n, B.length + 1 - 0 ≤ n ∧ allRN P n B 0 [] = X) := Lib.hid ⟨_, Nat.le_refl _, hX⟩
  clear h g hX ho hP
  go_enter Tryz.func17, Tryz.ntmps17
  go_wp2_with fail
  go_loopw [7, 8] (fun v i wr => ∃ k : Nat, ∃ M : List RdP, k ≤ B.length ∧ M.length ≤ k ∧ i = .int .i64 k ∧ Hid (RdsAt w wr v M) ∧ Hid (∃ n, B.length + 1 - k ≤ n ∧ allRN P n B k (M.map (·.1)) = X)) (fun _ i _ => B.length - (intOf i).toNat)
  case atStart => exact ⟨0, [], Nat.zero_le _, Nat.zero_le _, rfl, Lib.hid (RdsAt.start w), HX⟩
  case round =>
    obtain ⟨k, M, hk, hak, rfl, HG, HS⟩ := hrel
    obtain ⟨A1, c1, rfl⟩ := own_value HG.out.own
    have hB1 : B.length ≤ 65536 := hB
    · obtain ⟨r, e, x, hsc⟩ : ∃ r e x, clauseS P B k = (r, e, x) := ⟨_, _, _, rfl⟩
      have HC := Lib.hid ((pClause_any (i := k) (H.out.ext HG.out.ext) hk hB hcap (G.out.ext HG.out.ext) (O.out.ext HG.out.ext)).mono fun _ _ h => h.two (r := r) (k := e) (x := x) (by rw [HP.out]; exact hsc))
      obtain ⟨g0, g4, gx⟩ := allRN_step hsc hk hB HS.out
      clear hsc HS
      by_cases h0 : x = 0
      · obtain ⟨j, rfl, hj1, hj2, hj3⟩ := g0 h0
        subst h0
        have HJ := Lib.hid hj3
        clear g0 g4 gx hj3
        go_wp2_with (first | (go_at_call 14; refine HC.out.mono ?_; rintro e1 w' ⟨Ar, cr, nr, qr, rfl, hr, hx⟩; have kx := Lib.hid hx; have kr := Lib.hid hr; clear hx hr) | (at_builtin; refine wpList_append_src (P := Tryz.prog) rfl _ _ 42 rfl 35 i1 _ 6 88 Tryz.underlying42 hi1 hz0 hz1 hz2 rfl (by omega) _ rfl _ _ _ rfl M.length (flat rdC M) (own_ext HG.out.own ((kx.out.alloc _).alloc _)) (rdC (r, Ar, cr, nr, qr)) (src_newR _ _ (r, Ar, cr, nr, qr)) (rdC_one _) (by unfold maxLen; omega) (by omega) ?_; intro v3 w3 ho3 hm3 hb3; have hG3 := Lib.hid (RdsAt.push (HG.out.go kx.out) (p := (r, Ar, cr, nr, qr)) (RdIn.mods (Mods.refl [] _) (fun _ _ => by simp) (fun b hb => ⟨Nat.le_trans HG.out.ext.size hb.1, hb.2, fun e => by have := own_lt HG.out.own e; omega⟩) kr.out) ((Ext.refl _).alloc _ |>.alloc _) ho3 hm3 hb3); obtain ⟨A3, c3, rfl⟩ := own_value ho3; clear ho3 hm3 hb3))
        go_roundw
        case rel => exact ⟨j, M ++ [(r, Ar, cr, nr, qr)], hj2, by simp; omega, rfl, by have := hG3.out; simpa using Lib.hid this, Lib.hid (by have := HJ.out; simpa using this)⟩
        case measure => simp [intOf]; omega
      · by_cases h4 : x = 4
        · have hX := g4 h4
          subst h4
          subst hX
          clear g0 g4 gx h0
          go_wp2_with (go_at_call 14; refine HC.out.mono ?_; rintro e1 w' ⟨Ar, cr, nr, qr, rfl, hr, hx⟩; have kx := Lib.hid hx; clear hx hr)
          go_ret3
          exact ⟨_, M, rfl, HG.out.go (kx.out.alloc _), rfl⟩
        · have hX := gx h0 h4
          subst hX
          have e0 : (x == 0) = false := by simpa using h0
          have e4 : (x == 4) = false := by simpa using h4
          clear g0 g4 gx h0 h4
          go_wp2_with (go_at_call 14; refine HC.out.mono ?_; rintro e1 w' ⟨Ar, cr, nr, qr, rfl, hr, hx⟩; have kx := Lib.hid hx; clear hx hr)
          go_ret3
          exact ⟨_, M, rfl, HG.out.go (kx.out.alloc _), rfl⟩
end Go.Proofs.YtgcdhffeacdegaaGreatDoor

/- Layer 10, the program: the walk of One. -/
namespace Go.Proofs.YtgcdhffeacdegaaGreatDoor
open Go.RowKit Go.El

/-- The one clause of a text. -/
def oneX (x : List ReadV × Int × Int) : ReadV × Int := if x.2.2 ≠ 0 then (zeroR, x.2.2) else if x.1.length ≠ 1 then (zeroR, 100) else (x.1.headD zeroR, 0)
def oneR (O : Ops) (B : List UInt8) : ReadV × Int := oneX (allR O B)
/-- What One leaves. -/
def OnePost (w : World) (x : ReadV × Int) (e : Ending) (w' : World) : Prop := ∃ v, e = .returned (.tuple #[v, .int .i64 x.2]) ∧ ReadAt w w' v x.1 ∧ Ext w w'

set_option maxRecDepth 100000 in
set_option maxHeartbeats 4000000 in
theorem parseOne_any {s : ByteArray} {tb : Nat} {w : World} (hs : s.size ≤ 60000) (g : Glob w) {I Q : List OpV} (ho : OpsOk w tb I Q) :
    Calls Tryz.prog 19 #[.string s, .pointer (some ⟨tb, 0, none⟩)] w (OnePost w (oneR ⟨fun s => findO s I, fun s => findO s Q⟩ (s.data.toList ++ [32, 46]))) := by
  obtain ⟨P, hP⟩ : ∃ P, (⟨fun s => findO s I, fun s => findO s Q⟩ : Ops) = P := ⟨_, rfl⟩
  have hqd : (s ++ (⟨#[32, 46]⟩ : ByteArray)).data.toList = s.data.toList ++ [32, 46] := by simp
  have hcv := fun W : World => Lib.run_convert_string_bytes (P := Tryz.prog) W 9 23 5 (s ++ ⟨#[32, 46]⟩) Tryz.underlying9 Tryz.underlying23 Tryz.underlying5
  have hqz : (s ++ (⟨#[32, 46]⟩ : ByteArray)).size = s.size + 2 := by simp; rfl
  rw [hP, ← hqd]
  have HALL : ∀ (A : Option Addr) (cap : Nat) (W : World), BytesAt W A (s ++ (⟨#[32, 46]⟩ : ByteArray)).data.toList → (s ++ (⟨#[32, 46]⟩ : ByteArray)).size ≤ cap → Ext w W → Calls Tryz.prog 17 #[.slice A (s ++ (⟨#[32, 46]⟩ : ByteArray)).size cap, .pointer (some ⟨tb, 0, none⟩)] W (AllPost W (allR P (s ++ (⟨#[32, 46]⟩ : ByteArray)).data.toList)) := by
    intro A cap W hb hc hx
    have hlen : (s ++ (⟨#[32, 46]⟩ : ByteArray)).data.toList.length = (s ++ (⟨#[32, 46]⟩ : ByteArray)).size := by rw [Array.length_toList]; rfl
    have := pAllR (cap := cap) hb (by rw [hlen, hqz]; omega) (by rw [hlen]; exact hc) (g.ext hx) (ho.ext hx)
    rw [hlen, hP] at this
    exact this
  have hx := ext_box4 w (.cells #[.int .i64 0, .int .i64 0, .string ⟨#[]⟩, .slice none 0 0, .slice none 0 0, .int .i64 0] 35)
  have HX := Lib.hid hx
  have HZ := Lib.hid (Blk.new w 35 #[.int .i64 0, .int .i64 0, .string ⟨#[]⟩, .slice none 0 0, .slice none 0 0, .int .i64 0])
  have HSZ := Lib.hid (World.size_alloc w (.cells #[.int .i64 0, .int .i64 0, .string ⟨#[]⟩, .slice none 0 0, .slice none 0 0, .int .i64 0] 35))
  have hzr := zeroRead
  have HALL2 := Lib.hid HALL
  have HCV := Lib.hid hcv
  clear hx hP g ho hqd hqz HALL hcv
  obtain ⟨X, hX⟩ : ∃ X, allR P (s ++ (⟨#[32, 46]⟩ : ByteArray)).data.toList = X := ⟨_, rfl⟩
  unfold oneR
  rw [hX] at HALL2 ⊢
  clear hX
  go_enter Tryz.func19, Tryz.ntmps19
  go_upto_region 1 with fail
  generalize w.alloc (.cells #[.int .i64 0, .int .i64 0, .string ⟨#[]⟩, .slice none 0 0, .slice none 0 0, .int .i64 0] 35) = W1 at *
  go_wp2_with fail
  generalize s ++ (⟨#[32, 46]⟩ : ByteArray) = q at *
  have hcv1 := HCV.out W1
  have HB := Lib.hid (bytes_new W1 q)
  have HE := Lib.hid (ext_bytes W1 5 q)
  generalize Lib.bytesWorld W1 5 q = W2 at hcv1 HB HE
  have HA := fun A cap h1 h2 => Lib.hid (HALL2.out A cap W2 h1 h2 (HX.out.trans HE.out))
  clear HCV HALL2
  rw [hcv1]
  go_simp
  go_upto_region 2 with (go_at_call 17; refine (HA _ _ HB.out (grownCap_ge _ _ _ _)).out.mono ?_; rintro e W6 ⟨v, M, rfl, hm, hl⟩; obtain ⟨A6, c6, rfl⟩ := own_value hm.own; have HM := Lib.hid hm; have HL := Lib.hid hl; have X6 := Lib.hid (HX.out.trans (HE.out.trans hm.ext)); have Z6 := Lib.hid (HZ.out.ext (HE.out.trans hm.ext)); have zc := (HZ.out.ext (HE.out.trans hm.ext)).cell; have zf := (HZ.out.ext (HE.out.trans hm.ext)).frozen; clear hm hl)
  by_cases h0 : X.2.2 = 0
  · have e0 : (X.2.2 != 0) = false := by simpa using h0
    have hlm : X.1.length = M.length := by rw [← HL.out]; simp
    by_cases h1 : M.length = 1
    · obtain ⟨p, hp⟩ : ∃ p, M = [p] := List.length_eq_one_iff.1 h1
      subst hp
      obtain ⟨r, A, c, n, m⟩ := p
      have hXe : oneX X = (r, 0) := by
        unfold oneX
        rw [if_neg (by simp [h0]), if_neg (by simp [hlm]), ← HL.out]
        rfl
      have HXE := Lib.hid hXe
      obtain ⟨b, off, rfl, hc⟩ := El.Src.form (Src.of_own HM.out.own) (by simp) (by omega)
      have d0 : W6.cell? ⟨b, off, none⟩ = some (.int .i64 (Tm.k r.t)) := hc 0 _ rfl
      have d1 : W6.cell? ⟨b, off + 1, none⟩ = some (.int .i64 (Tm.n r.t)) := hc 1 _ rfl
      have d2 : W6.cell? ⟨b, off + 2, none⟩ = some (.string (Tm.s r.t)) := hc 2 _ rfl
      have d3 : W6.cell? ⟨b, off + 3, none⟩ = some (.slice A (Tm.l r.t).length c) := hc 3 _ rfl
      have d4 : W6.cell? ⟨b, off + 4, none⟩ = some (.slice n r.ns.length m) := hc 4 _ rfl
      have d5 : W6.cell? ⟨b, off + 5, none⟩ = some (.int .i64 r.nx) := hc 5 _ rfl
      have HK := Lib.hid (HM.out.kid (r, A, c, n, m) (by simp))
      have hgb : w.heap.size < W2.heap.size := by have := HE.out.size; have := HSZ.out; omega
      clear hc hXe h1 hlm h0
      have hl1 : ([(r, A, c, n, m)] : List RdP).length = 1 := rfl
      rw [hl1]
      clear hl1
      go_wp2_with fail
      have kb := blk_set6 Z6.out (.int .i64 (Tm.k r.t)) (.int .i64 (Tm.n r.t)) (.string (Tm.s r.t)) (.slice A (Tm.l r.t).length c) (.slice n r.ns.length m) (.int .i64 r.nx)
      have kc := kb.cell
      have hm6 := mods_set6 (S := [w.heap.size]) (W := W6) (z := w.heap.size) (by simp) (.int .i64 (Tm.k r.t)) (.int .i64 (Tm.n r.t)) (.string (Tm.s r.t)) (.slice A (Tm.l r.t).length c) (.slice n r.ns.length m) (.int .i64 r.nx)
      have hrd : RdIn (fun k => w.heap.size ≤ k ∧ k < ((((((W6.setCell ⟨w.heap.size, 0, none⟩ (.int .i64 (Tm.k r.t))).setCell ⟨w.heap.size, 1, none⟩ (.int .i64 (Tm.n r.t))).setCell ⟨w.heap.size, 2, none⟩ (.string (Tm.s r.t))).setCell ⟨w.heap.size, 3, none⟩ (.slice A (Tm.l r.t).length c)).setCell ⟨w.heap.size, 4, none⟩ (.slice n r.ns.length m)).setCell ⟨w.heap.size, 5, none⟩ (.int .i64 r.nx)).heap.size) _ (r, A, c, n, m) := RdIn.mods hm6 (fun k hk => by have := hk.1; simp; omega) (fun k hk => ⟨by have := hk.1; omega, Nat.lt_of_lt_of_le hk.2.1 hm6.size⟩) HK.out
      refine bodyPost_ret (v := .tuple #[rdV r.t A c n r.ns.length m r.nx, .int .i64 0]) ?_ rfl ⟨_, by rw [HXE.out], by rw [HXE.out]; exact ⟨A, c, n, m, rfl, hrd.tm, hrd.ns, hrd.cap, fun a ha => hrd.blk a ha⟩, ext_set6 X6.out (Nat.le_refl _) _ _ _ _ _ _⟩
      simp [results, Tryz.results19, go_sem, kc, rdV]
    · have h1b : ((M.length : Int) != 1) = true := by
        rw [bne_iff_ne]
        omega
      have hXe : oneX X = (zeroR, 100) := by
        unfold oneX
        rw [if_neg (by simp [h0]), if_pos (by rw [hlm]; exact h1)]
      clear h0 hlm h1
      go_wp2_with fail
      have kb := blk_set6 Z6.out (.int .i64 0) (.int .i64 0) (.string ⟨#[]⟩) (.slice none 0 0) (.slice none 0 0) (.int .i64 0)
      have kc := kb.cell
      refine bodyPost_ret (v := .tuple #[.agg #[.int .i64 0, .int .i64 0, .string ⟨#[]⟩, .slice none 0 0, .slice none 0 0, .int .i64 0], .int .i64 100]) ?_ rfl ⟨_, by rw [hXe], by rw [hXe]; exact ReadAt.zero _ _, ext_set6 X6.out (Nat.le_refl _) _ _ _ _ _ _⟩
      simp [results, Tryz.results19, go_sem, kc]
  · have e0 : (X.2.2 != 0) = true := by simpa using h0
    have hXe : oneX X = (zeroR, X.2.2) := by unfold oneX; rw [if_pos h0]
    clear h0
    go_wp2_with fail
    have kb := blk_set6 Z6.out (.int .i64 0) (.int .i64 0) (.string ⟨#[]⟩) (.slice none 0 0) (.slice none 0 0) (.int .i64 0)
    have kc := kb.cell
    refine bodyPost_ret (v := .tuple #[.agg #[.int .i64 0, .int .i64 0, .string ⟨#[]⟩, .slice none 0 0, .slice none 0 0, .int .i64 0], .int .i64 X.2.2]) ?_ rfl ⟨_, by rw [hXe], by rw [hXe]; exact ReadAt.zero _ _, ext_set6 X6.out (Nat.le_refl _) _ _ _ _ _ _⟩
    simp [results, Tryz.results19, go_sem, kc]
end Go.Proofs.YtgcdhffeacdegaaGreatDoor
