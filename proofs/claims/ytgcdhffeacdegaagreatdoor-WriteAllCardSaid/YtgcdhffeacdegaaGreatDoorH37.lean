/- Layer 10, the program: the walk of Clause, where its tokens are read. -/
import Derived.Test.YtgcdhffeacdegaaGreatDoorH36
import Derived.Test.YtgcdhffeacdegaaGreatDoorH31
import Derived.Test.YtgcdhffeacdegaaGreatDoorH05
namespace Go.Proofs.YtgcdhffeacdegaaGreatDoor
open Go.RowKit Go.El
section
variable {O : Ops} {l q : List TokV} {e : Nat} {t : Tm} {ns : List ByteArray}
theorem read_bad (h : resIs (termN O (5 * l.length + 5) 1200 l []) t q ns true) : readT O l e = (zeroR, headA q, 100) := by
 unfold readT
 cases hx : termN O (5 * l.length + 5) 1200 l [] with
 | bad p =>
  rw [hx] at h
  obtain ⟨_, rfl⟩ := h
  rfl
 | ok a p ms =>
  rw [hx] at h
  cases h.1
theorem read_fine (h : resIs (termN O (5 * l.length + 5) 1200 l []) t q ns false) : readT O l e = if (q.map TokV.kind).head? = some 6 then (if chkT t = 0 then ((⟨t, ns, e⟩, (e : Int), 0) : ReadV × Int × Int) else (zeroR, headA l, chkT t)) else (zeroR, headA q, 100) := by
 unfold readT
 cases hx : termN O (5 * l.length + 5) 1200 l [] with
 | bad p =>
  rw [hx] at h
  cases h.1
 | ok a p ms =>
  rw [hx] at h
  obtain ⟨_, rfl, rfl, rfl⟩ := h
  rfl
theorem read_sz (h : resIs (termN O (5 * l.length + 5) 1200 l []) t q ns false) : szT t ≤ l.length := by
 cases hx : termN O (5 * l.length + 5) 1200 l [] with
 | bad p =>
  rw [hx] at h
  cases h.1
 | ok a p ms =>
  rw [hx] at h
  obtain ⟨_, rfl, rfl, rfl⟩ := h
  exact szT_read hx
end
theorem mods_set6 {S : List Nat} {W : World} {z : Nat} (hz : z ∈ S) (a b c d e f : Value) : Mods S W ((((((W.setCell ⟨z, 0, none⟩ a).setCell ⟨z, 1, none⟩ b).setCell ⟨z, 2, none⟩ c).setCell ⟨z, 3, none⟩ d).setCell ⟨z, 4, none⟩ e).setCell ⟨z, 5, none⟩ f) :=
 (((((((Mods.refl S W).setCell (p := ⟨z, 0, none⟩) (.inl hz) a).setCell (p := ⟨z, 1, none⟩) (.inl hz) b).setCell (p := ⟨z, 2, none⟩) (.inl hz) c).setCell (p := ⟨z, 3, none⟩) (.inl hz) d).setCell (p := ⟨z, 4, none⟩) (.inl hz) e).setCell (p := ⟨z, 5, none⟩) (.inl hz) f)
theorem ReadAt.put {w W : World} {t : Tm} {A : Option Addr} {c : Nat} {n : Option Addr} {k : Nat} {ns : List ByteArray} {nx : Int} {D : Nat → Prop} (ht : TmIn D W t A c) (hD : ∀ b, D b → w.heap.size < b ∧ b < W.heap.size) (hs : El.Src W n ns.length 1 (ns.map Value.string)) (hk : ns.length ≤ k) (hn : ∀ a, n = some a → w.heap.size < a.block ∧ a.block < W.heap.size) (a0 b0 c0 d0 e0 f0 : Value) :
  ReadAt w ((((((W.setCell ⟨w.heap.size, 0, none⟩ a0).setCell ⟨w.heap.size, 1, none⟩ b0).setCell ⟨w.heap.size, 2, none⟩ c0).setCell ⟨w.heap.size, 3, none⟩ d0).setCell ⟨w.heap.size, 4, none⟩ e0).setCell ⟨w.heap.size, 5, none⟩ f0) (rdV t A c n ns.length k nx) ⟨t, ns, nx⟩ := by
 have hm := mods_set6 (S := [w.heap.size]) (W := W) (z := w.heap.size) (by simp) a0 b0 c0 d0 e0 f0
 have hsz := hm.size
 exact ⟨A, c, n, k, rfl, TmIn.mods hm (fun b hb => by have := (hD b hb).1; simp; omega) (fun b hb => ⟨Nat.le_of_lt (hD b hb).1, Nat.lt_of_lt_of_le (hD b hb).2 hsz⟩) ht, hs.mods hm (fun a ha => by have := (hn a ha).1; simp; omega), hk, fun a ha => ⟨Nat.le_of_lt (hn a ha).1, Nat.lt_of_lt_of_le (hn a ha).2 hsz⟩⟩
theorem ReadAt.ext {X w w' : World} {v : Value} {r : ReadV} (h : ReadAt X w v r) (x : Ext w w') : ReadAt X w' v r := by
 obtain ⟨A, c, n, k, hv, ht, hs, hk, hn⟩ := h
 exact ⟨A, c, n, k, hv, (ht.ext x).mono (fun b hb => ⟨hb.1, Nat.lt_of_lt_of_le hb.2 x.size⟩), hs.ext x, hk, fun a ha => ⟨(hn a ha).1, Nat.lt_of_lt_of_le (hn a ha).2 x.size⟩⟩
theorem clpost_ok {w W : World} {v : Value} {t : Tm} {ns : List ByteArray} {k : Int} {X : ReadV × Int × Int} (hX : X = (⟨t, ns, k⟩, k, 0)) (h : ReadAt w W v ⟨t, ns, k⟩) (x : Ext w W) : ClPost w X (.returned (.tuple #[v, .int .i64 k, .int .i64 0])) W := by
 subst hX
 exact ⟨v, rfl, h, x⟩
set_option maxRecDepth 100000 in
set_option maxHeartbeats 8000000 in
theorem pClause_ok {A : Option Addr} {cap : Nat} {B : List UInt8} {i tb : Nat} {w : World} (h : BytesAt w A B) (hi : i ≤ B.length) (hB : B.length ≤ 65536) (hcap : B.length ≤ cap) (g : Glob w) {I Q : List OpV} (ho : OpsOk w tb I Q) {l : List TokV} {k : Nat} (hx : ctoks B i = .ok (l, k)) :
  Calls Tryz.prog 14 #[.slice A B.length cap, .int .i64 (i : Int), .pointer (some ⟨tb, 0, none⟩)] w (ClPost w (readT ⟨fun s => findO s I, fun s => findO s Q⟩ l k)) := by
 obtain ⟨hL, hkB, _⟩ := ctoks_ok hi hB hx
 have hxx := ext_box4 w (.cells #[.int .i64 0, .int .i64 0, .string ⟨#[]⟩, .slice none 0 0, .slice none 0 0, .int .i64 0] 35)
 have HT := Lib.hid (pTokens (h.ext hxx) hi hB hcap (g.ext hxx))
 rw [hx] at HT
 have HX := Lib.hid hxx
 have HOK := Lib.hid (ho.ext hxx)
 have HZ := Lib.hid (Blk.new w 35 #[.int .i64 0, .int .i64 0, .string ⟨#[]⟩, .slice none 0 0, .slice none 0 0, .int .i64 0])
 have HSZ := Lib.hid (World.size_alloc w (.cells #[.int .i64 0, .int .i64 0, .string ⟨#[]⟩, .slice none 0 0, .slice none 0 0, .int .i64 0] 35))
 have HLK := Lib.hid hL
 have hzr := zeroRead
 have hmm := @run_makeMap Tryz.prog
 obtain ⟨X, hX⟩ : ∃ X, readT ⟨fun s => findO s I, fun s => findO s Q⟩ l k = X := ⟨_, rfl⟩
 rw [hX]
 have HRX := Lib.hid hX
 clear h hx hxx g ho hL hX
 go_enter Tryz.func14, Tryz.ntmps14
 go_upto_region 6 with (go_at_call 40; refine HT.out.mono ?_; rintro e W1 ⟨v1, rfl, g1⟩; obtain ⟨A1, c1, rfl⟩ := own_value g1.own; have G1 := Lib.hid g1; clear g1)
 have X1 := Lib.hid (HX.out.trans G1.out.ext)
 have hpa := PaAt.start G1.out HLK.out (HOK.out.ext G1.out.ext)
 have H2 := Lib.hid hpa
 have HT2 := Lib.hid (show Calls Tryz.prog 41 #[.pointer (some ⟨W1.heap.size + 1, 0, none⟩), .int .i64 1200] ((W1.alloc (.map #[] 0)).alloc (.cells #[.slice A1 l.length c1, .int .i64 0, .pointer (some ⟨tb, 0, none⟩), .slice none 0 0, .map (some W1.heap.size), .bool false] 81)) (TPost (newF W1 A1 c1 l I Q tb) (newW W1 A1 c1 l.length tb) (.slice none 0 0) l (termN ⟨fun s => findO s I, fun s => findO s Q⟩ (5 * l.length + 5) 1200 l [])) from
  paTerm l.length l [] (.slice none 0 0) _ (5 * l.length + 5) 1200 (Nat.le_refl _) hpa (Nat.le_refl _))
 clear hpa
 go_upto_region 7 with fail
 go_upto_region 8 with (go_at_call 41; refine HT2.out.mono ?_; rintro e W3 ⟨t, A3, c3, nv3, q, ns, b3, rfl, hres, h3, s3, ht3, hl3⟩; have HRES := Lib.hid hres; have H3 := Lib.hid h3; have S3 := Lib.hid s3; have T3 := Lib.hid ht3; clear hres h3 s3 ht3 hl3)
 have hx4 := ext_box4 W3 (.cells #[.int .i64 (Tm.k t), .int .i64 (Tm.n t), .string (Tm.s t), .slice A3 (Tm.l t).length c3] 32)
 have H4 := Lib.hid (H3.out.ext hx4)
 have hwl : w.heap.size < W1.heap.size := by have := G1.out.ext.size; rw [HSZ.out] at this; omega
 have hw2 : (newW W1 A1 c1 l.length tb).heap.size = W1.heap.size + 2 := by simp [newW]
 have X3 : Hid (Ext w W3) := Lib.hid (ext_mods (X1.out.trans (newW_ext W1 A1 c1 l.length tb)) S3.out.mods (fun k hk => by simp [PF.S, newF, ownL, Value.ownBlock] at hk; omega))
 have X4 := Lib.hid (X3.out.trans hx4)
 have Z4 := Lib.hid ((((HZ.out.ext G1.out.ext).ext (newW_ext W1 A1 c1 l.length tb)).mods S3.out.mods (by simp [PF.S, newF, ownL, Value.ownBlock]; omega)).ext hx4)
 have BT := Lib.hid (Blk.new W3 32 #[.int .i64 (Tm.k t), .int .i64 (Tm.n t), .string (Tm.s t), .slice A3 (Tm.l t).length c3])
 have T4 := Lib.hid (T3.out.ext hx4)
 have hs3 := S3.out.size
 have G4 : Hid (W3.heap.size < (W3.alloc (.cells #[.int .i64 (Tm.k t), .int .i64 (Tm.n t), .string (Tm.s t), .slice A3 (Tm.l t).length c3] 32)).heap.size) := Lib.hid BT.out.lt
 have c5 : (W3.alloc (.cells #[.int .i64 (Tm.k t), .int .i64 (Tm.n t), .string (Tm.s t), .slice A3 (Tm.l t).length c3] 32)).cell? ⟨W1.heap.size + 1, 5, none⟩ = some (.bool b3) := H4.out.cells.c5
 have c3p : (W3.alloc (.cells #[.int .i64 (Tm.k t), .int .i64 (Tm.n t), .string (Tm.s t), .slice A3 (Tm.l t).length c3] 32)).cell? ⟨W1.heap.size + 1, 3, none⟩ = some nv3 := H4.out.cells.c3
 have hwl2 : W1.heap.size + 1 < W3.heap.size := by omega
 generalize W3.alloc (.cells #[.int .i64 (Tm.k t), .int .i64 (Tm.n t), .string (Tm.s t), .slice A3 (Tm.l t).length c3] 32) = W4 at *
 obtain ⟨t0, q2, hq⟩ := ToksOk.ne H4.out.suf H4.out.nil
 have HN := fun W (x : Ext W4 W) => Lib.hid (show Calls Tryz.prog 42 #[.pointer (some ⟨W1.heap.size + 1, 0, none⟩)] W (fun e w' => e = .returned (tokA t0) ∧ Ext W w') from paNext (H4.out.ext x) hq)
 unfold tokA at HN
 have F0 := tokF0 t0.kind t0.n t0.at_ t0.s t0.lay
 have F3 := tokF3 t0.kind t0.n t0.at_ t0.s t0.lay
 have hha : headA q = t0.at_ := by rw [hq]; rfl
 have HQ := Lib.hid hq
 clear hq hx4
 cases b3 with
 | true =>
  have hXe : X = (zeroR, t0.at_, 100) := by rw [← HRX.out, read_bad HRES.out, hha]
  clear hha
  go_upto_region 9 with fail
  go_wp2_with (go_at_call 42; refine (HN _ (Ext.refl _)).out.mono ?_; rintro e W9 ⟨rfl, x9⟩; have X9 := Lib.hid (X4.out.trans x9); have Z9 := Lib.hid (Z4.out.ext x9); have zc := Z9.out.cell; have zf := Z9.out.frozen; clear x9)
  have kb := blk_set6 Z9.out (.int .i64 0) (.int .i64 0) (.string ⟨#[]⟩) (.slice none 0 0) (.slice none 0 0) (.int .i64 0)
  have kc := kb.cell
  refine bodyPost_ret (v := .tuple #[.agg #[.int .i64 0, .int .i64 0, .string ⟨#[]⟩, .slice none 0 0, .slice none 0 0, .int .i64 0], .int .i64 t0.at_, .int .i64 100]) ?_ rfl ⟨_, by rw [hXe], by rw [hXe]; exact ReadAt.zero _ _, ext_set6 X9.out (Nat.le_refl _) _ _ _ _ _ _⟩
  simp [results, Tryz.results14, go_sem, kc]
 | false =>
  have hXf := HRX.out.symm.trans (read_fine HRES.out)
  have hsz := read_sz HRES.out
  have hhd : (q.map TokV.kind).head? = some t0.kind := by rw [HQ.out]; rfl
  rw [hhd, hha] at hXf
  have HCK := fun V (x : Ext W4 V) => Lib.hid (check_any t A3 c3 V _ (T4.out.ext x) (by have := HLK.out.len; omega))
  unfold tmVal at HCK
  clear hha hhd
  by_cases hk6 : t0.kind = 6
  ·rw [if_pos (by rw [hk6])] at hXf
   rw [hk6] at HN F0
   obtain ⟨E0, l2, hl0⟩ : ∃ E0 l2, l = E0 :: l2 := by
    obtain ⟨M, E, e, _⟩ := HLK.out.fin
    cases l with
    | nil => simp at e
    | cons a b => exact ⟨a, b, rfl⟩
   have hla : headA l = E0.at_ := by rw [hl0]; rfl
   have htk := tok_cells H4.out.tok (k := 0) (t := E0) (by show l[0]? = some E0; rw [hl0]; rfl)
   obtain ⟨b, off, hA1, _, _, _, d3, _⟩ := htk
   have hA1' : A1 = some ⟨b, off, none⟩ := hA1
   subst hA1'
   have hll : 0 < l.length := by rw [hl0]; simp
   have hll2 : ¬ ((l.length : Int) ≤ 0) := by omega
   have hll3 : (0 : Int) < (l.length : Int) := by omega
   rw [Nat.zero_mul, Nat.add_zero] at d3
   clear hl0 hA1 hk6
   by_cases hck : chkT t = 0
   ·rw [if_pos hck] at hXf
    have HXF := Lib.hid hXf
    clear hXf
    rw [hck] at HCK
    obtain ⟨n3, k3, hnv⟩ := own_value H4.out.own
    subst hnv
    have HRD := fun (V : World) (x47 : Ext W4 V) => Lib.hid (ReadAt.put (w := w) (nx := (k : Int)) (T4.out.ext x47) (fun b hb => by have h1 := hb.1; have h2 := hb.2.2.2; have h3 := G4.out; have h4 := x47.size; omega) ((Src.of_own H4.out.own).ext x47) (own_cap H4.out.own) (fun a ha => by
     have h0 : (Value.slice n3 ns.length k3).ownBlock = some a.block := by rw [ha]; rfl
     have h1 := own_lt H4.out.own h0
     have h4 := x47.size
     rcases S3.out.own a.block h0 with h2 | h2
     ·simp [Value.ownBlock] at h2
     ·omega) (.int .i64 (Tm.k t)) (.int .i64 (Tm.n t)) (.string (Tm.s t)) (.slice A3 (Tm.l t).length c3) (.slice n3 ns.length k3) (.int .i64 (k : Int)))
    go_upto_region 13 with (first
     | (go_at_call 42; refine (HN _ (Ext.refl _)).out.mono ?_; rintro e W5 ⟨rfl, x5⟩; have X5 := Lib.hid x5; have bt5 := (BT.out.ext x5).cell; clear x5)
     | (go_at_call 43; refine (HCK _ X5.out).out.mono ?_; rintro e W6 ⟨rfl, x6⟩; have X6 := Lib.hid (X5.out.trans x6); have bt6 := (BT.out.ext X6.out).cell; have c36 := X6.out.cell c3p; have Z6 := Lib.hid (Z4.out.ext X6.out); have z6c := Z6.out.cell; have z6f := Z6.out.frozen; clear x6))
    clear bt5 c5 c3p
    go_region
    all_goals
     go_wp2_with fail
     have kb := blk_set6 Z6.out (.int .i64 (Tm.k t)) (.int .i64 (Tm.n t)) (.string (Tm.s t)) (.slice A3 (Tm.l t).length c3) (.slice n3 ns.length k3) (.int .i64 (k : Int))
     have kc := (kb.ext (Ext.refl _).drew).cell
     have x47 := X6.out
     have hrd := (HRD _ x47).out
     refine bodyPost_ret (v := .tuple #[rdV t A3 c3 n3 ns.length k3 (k : Int), .int .i64 (k : Int), .int .i64 0]) ?_ rfl (clpost_ok HXF.out (hrd.ext (Ext.refl _).drew) (ext_set6 (X4.out.trans x47) (Nat.le_refl _) _ _ _ _ _ _).drew)
     simp [results, Tryz.results14, go_sem, kc, rdV]
   ·rw [if_neg hck, hla] at hXf
    have HXF := Lib.hid hXf
    have ec : (chkT t != 0) = true := by simpa using hck
    clear hXf hck hla
    have hb1 : ¬ b = w.heap.size := by have := G1.out.far b rfl; rw [HSZ.out] at this; omega
    have hb2 : ¬ w.heap.size = b := fun e => hb1 e.symm
    generalize chkT t = ct at *
    go_upto_region 12 with (first
     | (go_at_call 42; refine (HN _ (Ext.refl _)).out.mono ?_; rintro e W5 ⟨rfl, x5⟩; have X5 := Lib.hid x5; have bt5 := (BT.out.ext x5).cell; clear x5)
     | (go_at_call 43; refine (HCK _ X5.out).out.mono ?_; rintro e W6 ⟨rfl, x6⟩; have X6 := Lib.hid (X5.out.trans x6); have d36 := X6.out.cell d3; have Z6 := Lib.hid (Z4.out.ext X6.out); have z6c := Z6.out.cell; have z6f := Z6.out.frozen; clear x6))
    clear bt5 c5 c3p
    go_region
    all_goals
     go_wp2_with fail
     have kb := blk_set6 Z6.out (.int .i64 0) (.int .i64 0) (.string ⟨#[]⟩) (.slice none 0 0) (.slice none 0 0) (.int .i64 0)
     have kc := (kb.ext (Ext.refl _).drew).cell
     refine bodyPost_ret (v := .tuple #[.agg #[.int .i64 0, .int .i64 0, .string ⟨#[]⟩, .slice none 0 0, .slice none 0 0, .int .i64 0], .int .i64 E0.at_, .int .i64 ct]) ?_ rfl ⟨_, by rw [HXF.out], by rw [HXF.out]; exact ReadAt.zero _ _, (ext_set6 (X4.out.trans X6.out) (Nat.le_refl _) _ _ _ _ _ _).drew⟩
     simp [results, Tryz.results14, go_sem, kc]
  ·rw [if_neg (by simpa using hk6)] at hXf
   have e6 : (t0.kind != 6) = true := by simpa using hk6
   have HXF := Lib.hid hXf
   clear hXf hk6
   go_upto_region 9 with (go_at_call 42; refine (HN _ (Ext.refl _)).out.mono ?_; rintro e W5 ⟨rfl, x5⟩; have X5 := Lib.hid x5; clear x5)
   go_wp2_with (go_at_call 42; refine (HN _ X5.out).out.mono ?_; rintro e W9 ⟨rfl, x9⟩; have X9 := Lib.hid (X4.out.trans (X5.out.trans x9)); have Z9 := Lib.hid (Z4.out.ext (X5.out.trans x9)); have zc := Z9.out.cell; have zf := Z9.out.frozen; clear x9)
   have kb := blk_set6 Z9.out (.int .i64 0) (.int .i64 0) (.string ⟨#[]⟩) (.slice none 0 0) (.slice none 0 0) (.int .i64 0)
   have kc := kb.cell
   refine bodyPost_ret (v := .tuple #[.agg #[.int .i64 0, .int .i64 0, .string ⟨#[]⟩, .slice none 0 0, .slice none 0 0, .int .i64 0], .int .i64 t0.at_, .int .i64 100]) ?_ rfl ⟨_, by rw [HXF.out], by rw [HXF.out]; exact ReadAt.zero _ _, ext_set6 X9.out (Nat.le_refl _) _ _ _ _ _ _⟩
   simp [results, Tryz.results14, go_sem, kc]
end Go.Proofs.YtgcdhffeacdegaaGreatDoor

/- Layer 10, the program: Clause, whole. -/
namespace Go.Proofs.YtgcdhffeacdegaaGreatDoor
open Go.RowKit Go.El
theorem ctoksN_err : ∀ (n : Nat) {B : List UInt8} {i : Nat} {acc : List TokV} {k : Nat} {x : Int}, ctoksN n B i acc = .error (k, x) → x ≠ 0
 | 0, _, _, _, _, _, h => by
  simp only [ctoksN] at h
  injection h with h
  injection h with _ h
  rw [← h]
  decide
 | n + 1, B, i, acc, k, x, h => by
  simp only [ctoksN] at h
  cases hs : scanS B i with
  | mk t r =>
   obtain ⟨j, y⟩ := r
   rw [hs] at h
   simp only at h
   split at h
   ·injection h with h
    injection h with _ h
    rw [← h]
    decide
   ·split at h
    ·next hy =>
     injection h with h
     injection h with _ h
     rw [← h]
     exact hy
    ·split at h
     ·cases h
     ·exact ctoksN_err n h
theorem pClause_any {A : Option Addr} {cap : Nat} {B : List UInt8} {i tb : Nat} {w : World} (h : BytesAt w A B) (hi : i ≤ B.length) (hB : B.length ≤ 65536) (hcap : B.length ≤ cap) (g : Glob w) {I Q : List OpV} (ho : OpsOk w tb I Q) :
  Calls Tryz.prog 14 #[.slice A B.length cap, .int .i64 (i : Int), .pointer (some ⟨tb, 0, none⟩)] w (ClPost w (clauseS ⟨fun s => findO s I, fun s => findO s Q⟩ B i)) := by
 unfold clauseS
 cases hx : ctoks B i with
 | error p =>
  obtain ⟨k, x⟩ := p
  exact pClause_err h hi hB hcap g hx (ctoksN_err _ hx)
 | ok p =>
  obtain ⟨l, k⟩ := p
  exact pClause_ok h hi hB hcap g ho hx
end Go.Proofs.YtgcdhffeacdegaaGreatDoor

/- Layer 10, plain: all clauses of a text. -/
namespace Go.El
theorem ctoksN_err : ∀ (n : Nat) {B : List UInt8} {i : Nat} {acc : List TokV} {k : Nat} {x : Int}, ctoksN n B i acc = .error (k, x) → x ≠ 0
 | 0, _, _, _, _, _, h => by
  simp only [ctoksN] at h
  injection h with h
  injection h with _ h
  rw [← h]
  decide
 | n + 1, B, i, acc, k, x, h => by
  simp only [ctoksN] at h
  cases hs : scanS B i with
  | mk t r =>
   obtain ⟨j, y⟩ := r
   rw [hs] at h
   simp only at h
   split at h
   ·injection h with h
    injection h with _ h
    rw [← h]
    decide
   ·split at h
    ·next hy =>
     injection h with h
     injection h with _ h
     rw [← h]
     exact hy
    ·split at h
     ·cases h
     ·exact ctoksN_err n h
theorem clauseS_ok {O : Ops} {B : List UInt8} {i : Nat} (hi : i ≤ B.length) (hB : B.length ≤ 65536) (h : (clauseS O B i).2.2 = 0) : ∃ k : Nat, (clauseS O B i).2.1 = k ∧ i < k ∧ k ≤ B.length := by
 unfold clauseS at h ⊢
 cases hx : ctoks B i with
 | error p =>
  obtain ⟨k, x⟩ := p
  rw [hx] at h
  simp only at h ⊢
  exact absurd h (ctoksN_err _ hx)
 | ok p =>
  obtain ⟨l, k⟩ := p
  obtain ⟨_, h1, h2⟩ := ctoks_ok hi hB hx
  rw [hx] at h
  simp only at h ⊢
  refine ⟨k, ?_, h2, h1⟩
  unfold readT at h ⊢
  cases ht : termN O (5 * l.length + 5) 1200 l [] with
  | bad q => rw [ht] at h; simp at h
  | ok t q ns =>
   rw [ht] at h
   simp only at h ⊢
   split
   ·next h6 =>
    rw [if_pos h6] at h
    split
    ·rfl
    ·next hc =>
     rw [if_neg hc] at h
     exact absurd h hc
   ·next h6 =>
    rw [if_neg h6] at h
    simp at h
def allRN (O : Ops) : Nat → List UInt8 → Nat → List ReadV → List ReadV × Int × Int
 | 0, _, i, acc => (acc, i, 0)
 | n + 1, B, i, acc =>
  if (clauseS O B i).2.2 = 0 then allRN O n B (clauseS O B i).2.1.toNat (acc ++ [(clauseS O B i).1])
  else if (clauseS O B i).2.2 = 4 then (acc, (clauseS O B i).2.1, 0)
  else (acc, (clauseS O B i).2.1, (clauseS O B i).2.2)
def allR (O : Ops) (B : List UInt8) : List ReadV × Int × Int := allRN O (B.length + 1) B 0 []
end Go.El

/- Layer 10, the program: a row of readings that grows. -/
namespace Go.Proofs.YtgcdhffeacdegaaGreatDoor
open Go.RowKit Go.El
abbrev RdP := ReadV × Option Addr × Nat × Option Addr × Nat
def rdC (p : RdP) : List Value := [.int .i64 (Tm.k p.1.t), .int .i64 (Tm.n p.1.t), .string (Tm.s p.1.t), .slice p.2.1 (Tm.l p.1.t).length p.2.2.1, .slice p.2.2.2.1 p.1.ns.length p.2.2.2.2, .int .i64 p.1.nx]
theorem rdC_len (p : RdP) : (rdC p).length = 6 := rfl
theorem rdC_one (p : RdP) : ∀ u ∈ rdC p, u.oneCell' = true := by
 intro u hu
 simp only [rdC, List.mem_cons, List.not_mem_nil, or_false] at hu
 rcases hu with rfl | rfl | rfl | rfl | rfl | rfl <;> rfl
theorem rdInfo : (Tryz.prog.info? 35).map (fun i => (i.zero, i.size, i.bytes)) = some (some (.agg #[.int .i64 0, .int .i64 0, .string ⟨#[]⟩, .slice none 0 0, .slice none 0 0, .int .i64 0]), 6, 88) := by kernel_rfl
structure RdIn (D : Nat → Prop) (w : World) (p : RdP) : Prop where
 tm : TmIn D w p.1.t p.2.1 p.2.2.1
 ns : El.Src w p.2.2.2.1 p.1.ns.length 1 (p.1.ns.map Value.string)
 cap : p.1.ns.length ≤ p.2.2.2.2
 blk : ∀ a, p.2.2.2.1 = some a → D a.block
theorem RdIn.mods {D D' : Nat → Prop} {S : List Nat} {w w' : World} (hm : Mods S w w') (hS : ∀ k, D k → k ∉ S) (hD : ∀ k, D k → D' k) {p : RdP} (h : RdIn D w p) : RdIn D' w' p :=
 ⟨TmIn.mods hm hS hD h.tm, h.ns.mods hm (fun a ha => hS _ (h.blk a ha)), h.cap, fun a ha => hD _ (h.blk a ha)⟩
structure RdsAt (X W : World) (v : Value) (M : List RdP) : Prop where
 own : W.ownsRow 0 35 6 v M.length (flat rdC M)
 kid : ∀ p ∈ M, RdIn (fun k => X.heap.size ≤ k ∧ k < W.heap.size ∧ v.ownBlock ≠ some k) W p
 far : ∀ k, v.ownBlock = some k → X.heap.size ≤ k
 ext : Ext X W
theorem RdsAt.start (X : World) : RdsAt X X (.slice none 0 0) [] := ⟨World.ownsRow_nil _ _ _ _, fun p hp => by simp at hp, fun k hk => by simp [Value.ownBlock] at hk, Ext.refl _⟩
theorem RdsAt.go {X W V : World} {v : Value} {M : List RdP} (h : RdsAt X W v M) (x : Ext W V) : RdsAt X V v M :=
 ⟨own_ext h.own x, fun p hp => RdIn.mods (Mods.ext (S := []) x) (fun _ _ => by simp) (fun _ hk => ⟨hk.1, Nat.lt_of_lt_of_le hk.2.1 x.size, hk.2.2⟩) (h.kid p hp), h.far, h.ext.trans x⟩
theorem RdsAt.push {X W V W' : World} {v v' : Value} {M : List RdP} {p : RdP} (h : RdsAt X W v M) (hp : RdIn (fun k => X.heap.size ≤ k ∧ k < W.heap.size ∧ v.ownBlock ≠ some k) W p) (x : Ext W V)
  (ho : W'.ownsRow 0 35 6 v' (M.length + 1) (flat rdC M ++ rdC p)) (hm : Mods (ownL v) V W') (hb : v'.ownBlock = v.ownBlock ∨ v'.ownBlock = some V.heap.size) : RdsAt X W' v' (M ++ [p]) := by
 have hX : Mods (ownL v) W W' := (Mods.ext x).trans hm
 have hno : ∀ k, (X.heap.size ≤ k ∧ k < W.heap.size ∧ v.ownBlock ≠ some k) → k ∉ ownL v := fun k hk hm => hk.2.2 (by simpa [ownL] using hm)
 have hD : ∀ k, (X.heap.size ≤ k ∧ k < W.heap.size ∧ v.ownBlock ≠ some k) → (X.heap.size ≤ k ∧ k < W'.heap.size ∧ v'.ownBlock ≠ some k) := fun k hk => by
  refine ⟨hk.1, Nat.lt_of_lt_of_le hk.2.1 hX.size, fun e => ?_⟩
  rcases hb with e2 | e2
  ·exact hk.2.2 (e2.symm.trans e)
  ·rw [e2] at e
   injection e with e
   have := x.size
   omega
 refine ⟨by simpa [flat_append, flat] using ho, fun r hr => ?_, fun k hk => ?_, ext_mods h.ext hX (fun k hk => h.far k (by simpa [ownL] using hk))⟩
 ·rcases List.mem_append.1 hr with hr | hr
  ·exact RdIn.mods hX hno hD (h.kid r hr)
  ·simp at hr
   subst hr
   exact RdIn.mods hX hno hD hp
 ·rcases hb with e | e
  ·exact h.far k (e ▸ hk)
  ·rw [e] at hk
   injection hk with hk
   subst hk
   exact Nat.le_trans h.ext.size x.size
end Go.Proofs.YtgcdhffeacdegaaGreatDoor

/- Layer 10, the program: the walk of All. -/
namespace Go.Proofs.YtgcdhffeacdegaaGreatDoor
open Go.RowKit Go.El
def ClP2 (w : World) (r : ReadV) (k x : Int) (e : Ending) (w' : World) : Prop := ∃ A c n q, e = .returned (.tuple #[.agg #[.int .i64 (Tm.k r.t), .int .i64 (Tm.n r.t), .string (Tm.s r.t), .slice A (Tm.l r.t).length c, .slice n r.ns.length q, .int .i64 r.nx], .int .i64 k, .int .i64 x]) ∧ RdIn (fun b => w.heap.size ≤ b ∧ b < w'.heap.size) w' (r, A, c, n, q) ∧ Ext w w'
theorem ClPost.two {w w' : World} {X : ReadV × Int × Int} {e : Ending} (h : ClPost w X e w') {r : ReadV} {k x : Int} (hX : X = (r, k, x)) : ClP2 w r k x e w' := by
 subst hX
 obtain ⟨v, rfl, ⟨A, c, n, q, rfl, ht, hs, hq, hn⟩, hx⟩ := h
 exact ⟨A, c, n, q, rfl, ⟨ht, hs, hq, hn⟩, hx⟩
def AllPost (w : World) (x : List ReadV × Int × Int) (e : Ending) (w' : World) : Prop := ∃ v M, e = .returned (.tuple #[v, .int .i64 x.2.1, .int .i64 x.2.2]) ∧ RdsAt w w' v M ∧ M.map (·.1) = x.1
theorem src_newR (w : World) (o : Obj) (p : RdP) : El.Src ((w.alloc o).alloc (.cells #[.int .i64 (Tm.k p.1.t), .int .i64 (Tm.n p.1.t), .string (Tm.s p.1.t), .slice p.2.1 (Tm.l p.1.t).length p.2.2.1, .slice p.2.2.2.1 p.1.ns.length p.2.2.2.2, .int .i64 p.1.nx] 35)) (some ⟨w.heap.size + 1, 0, none⟩) 1 6 (rdC p) := by
 have := El.Src.new (w.alloc o) #[.int .i64 (Tm.k p.1.t), .int .i64 (Tm.n p.1.t), .string (Tm.s p.1.t), .slice p.2.1 (Tm.l p.1.t).length p.2.2.1, .slice p.2.2.2.1 p.1.ns.length p.2.2.2.2, .int .i64 p.1.nx] 35 1 6 rfl
 rw [World.size_alloc] at this
 exact this
theorem allRN_step {O : Ops} {B : List UInt8} {k : Nat} {acc : List ReadV} {X : List ReadV × Int × Int} {r : ReadV} {e x : Int} (hc : clauseS O B k = (r, e, x)) (hk : k ≤ B.length) (hB : B.length ≤ 65536) (h : ∃ n, B.length + 1 - k ≤ n ∧ allRN O n B k acc = X) :
  (x = 0 → ∃ j : Nat, e = j ∧ k < j ∧ j ≤ B.length ∧ ∃ n, B.length + 1 - j ≤ n ∧ allRN O n B j (acc ++ [r]) = X) ∧ (x = 4 → X = (acc, e, 0)) ∧ (x ≠ 0 → x ≠ 4 → X = (acc, e, x)) := by
 obtain ⟨n, hn, h⟩ := h
 obtain ⟨m, rfl⟩ : ∃ m, n = m + 1 := ⟨n - 1, by omega⟩
 simp only [allRN] at h
 have hok := clauseS_ok (O := O) (B := B) hk hB
 rw [hc] at h hok
 simp only at h hok
 refine ⟨fun h0 => ?_, fun h4 => ?_, fun h0 h4 => ?_⟩
 ·obtain ⟨j, rfl, h1, h2⟩ := hok h0
  rw [if_pos h0, Int.toNat_natCast] at h
  exact ⟨j, rfl, h1, h2, m, by omega, h⟩
 ·rw [if_neg (by omega), if_pos h4] at h
  exact h.symm
 ·rw [if_neg h0, if_neg h4] at h
  exact h.symm
set_option maxRecDepth 100000 in
set_option maxHeartbeats 4000000 in
theorem pAllR {A : Option Addr} {cap : Nat} {B : List UInt8} {tb : Nat} {w : World} (h : BytesAt w A B) (hB : B.length ≤ 65536) (hcap : B.length ≤ cap) (g : Glob w) {I Q : List OpV} (ho : OpsOk w tb I Q) :
  Calls Tryz.prog 17 #[.slice A B.length cap, .pointer (some ⟨tb, 0, none⟩)] w (AllPost w (allR ⟨fun s => findO s I, fun s => findO s Q⟩ B)) := by
 obtain ⟨i1, hi1, hz0, hz1, hz2⟩ := infoP rdInfo
 have H := Lib.hid h
 have G := Lib.hid g
 have O := Lib.hid ho
 obtain ⟨P, hP⟩ : ∃ P, (⟨fun s => findO s I, fun s => findO s Q⟩ : Ops) = P := ⟨_, rfl⟩
 have HP := Lib.hid hP
 rw [hP]
 obtain ⟨X, hX⟩ : ∃ X, allR P B = X := ⟨_, rfl⟩
 rw [hX]
 have HX : Hid (∃ n, B.length + 1 - 0 ≤ n ∧ allRN P n B 0 [] = X) := Lib.hid ⟨_, Nat.le_refl _, hX⟩
 clear h g hX ho hP
 go_enter Tryz.func17, Tryz.ntmps17
 go_wp2_with fail
 go_loopw [7, 8] (fun v i wr => ∃ k : Nat, ∃ M : List RdP, k ≤ B.length ∧ M.length ≤ k ∧ i = .int .i64 k ∧ Hid (RdsAt w wr v M) ∧ Hid (∃ n, B.length + 1 - k ≤ n ∧ allRN P n B k (M.map (·.1)) = X)) (fun _ i _ => B.length - (intOf i).toNat)
 case atStart => exact ⟨0, [], Nat.zero_le _, Nat.zero_le _, rfl, Lib.hid (RdsAt.start w), HX⟩
 case round =>
  obtain ⟨k, M, hk, hak, rfl, HG, HS⟩ := hrel
  obtain ⟨A1, c1, rfl⟩ := own_value HG.out.own
  have hB1 : B.length ≤ 65536 := hB
  ·obtain ⟨r, e, x, hsc⟩ : ∃ r e x, clauseS P B k = (r, e, x) := ⟨_, _, _, rfl⟩
   have HC := Lib.hid ((pClause_any (i := k) (H.out.ext HG.out.ext) hk hB hcap (G.out.ext HG.out.ext) (O.out.ext HG.out.ext)).mono fun _ _ h => h.two (r := r) (k := e) (x := x) (by rw [HP.out]; exact hsc))
   obtain ⟨g0, g4, gx⟩ := allRN_step hsc hk hB HS.out
   clear hsc HS
   by_cases h0 : x = 0
   ·obtain ⟨j, rfl, hj1, hj2, hj3⟩ := g0 h0
    subst h0
    have HJ := Lib.hid hj3
    clear g0 g4 gx hj3
    go_wp2_with (first | (go_at_call 14; refine HC.out.mono ?_; rintro e1 w' ⟨Ar, cr, nr, qr, rfl, hr, hx⟩; have kx := Lib.hid hx; have kr := Lib.hid hr; clear hx hr) | (at_builtin; refine wpList_append_src (P := Tryz.prog) rfl _ _ 42 rfl 35 i1 _ 6 88 Tryz.underlying42 hi1 hz0 hz1 hz2 rfl (by omega) _ rfl _ _ _ rfl M.length (flat rdC M) (own_ext HG.out.own ((kx.out.alloc _).alloc _)) (rdC (r, Ar, cr, nr, qr)) (src_newR _ _ (r, Ar, cr, nr, qr)) (rdC_one _) (by unfold maxLen; omega) (by omega) ?_; intro v3 w3 ho3 hm3 hb3; have hG3 := Lib.hid (RdsAt.push (HG.out.go kx.out) (p := (r, Ar, cr, nr, qr)) (RdIn.mods (Mods.refl [] _) (fun _ _ => by simp) (fun b hb => ⟨Nat.le_trans HG.out.ext.size hb.1, hb.2, fun e => by have := own_lt HG.out.own e; omega⟩) kr.out) ((Ext.refl _).alloc _ |>.alloc _) ho3 hm3 hb3); obtain ⟨A3, c3, rfl⟩ := own_value ho3; clear ho3 hm3 hb3))
    go_roundw
    case rel => exact ⟨j, M ++ [(r, Ar, cr, nr, qr)], hj2, by simp; omega, rfl, by have := hG3.out; simpa using Lib.hid this, Lib.hid (by have := HJ.out; simpa using this)⟩
    case measure => simp [intOf]; omega
   ·by_cases h4 : x = 4
    ·have hX := g4 h4
     subst h4
     subst hX
     clear g0 g4 gx h0
     go_wp2_with (go_at_call 14; refine HC.out.mono ?_; rintro e1 w' ⟨Ar, cr, nr, qr, rfl, hr, hx⟩; have kx := Lib.hid hx; clear hx hr)
     go_ret3
     exact ⟨_, M, rfl, HG.out.go (kx.out.alloc _), rfl⟩
    ·have hX := gx h0 h4
     subst hX
     have e0 : (x == 0) = false := by simpa using h0
     have e4 : (x == 4) = false := by simpa using h4
     clear g0 g4 gx h0 h4
     go_wp2_with (go_at_call 14; refine HC.out.mono ?_; rintro e1 w' ⟨Ar, cr, nr, qr, rfl, hr, hx⟩; have kx := Lib.hid hx; clear hx hr)
     go_ret3
     exact ⟨_, M, rfl, HG.out.go (kx.out.alloc _), rfl⟩
end Go.Proofs.YtgcdhffeacdegaaGreatDoor

/- Layer 10, the program: the walk of One. -/
namespace Go.Proofs.YtgcdhffeacdegaaGreatDoor
open Go.RowKit Go.El
def oneX (x : List ReadV × Int × Int) : ReadV × Int := if x.2.2 ≠ 0 then (zeroR, x.2.2) else if x.1.length ≠ 1 then (zeroR, 100) else (x.1.headD zeroR, 0)
def oneR (O : Ops) (B : List UInt8) : ReadV × Int := oneX (allR O B)
def OnePost (w : World) (x : ReadV × Int) (e : Ending) (w' : World) : Prop := ∃ v, e = .returned (.tuple #[v, .int .i64 x.2]) ∧ ReadAt w w' v x.1 ∧ Ext w w'
set_option maxRecDepth 100000 in
set_option maxHeartbeats 4000000 in
theorem parseOne_any {s : ByteArray} {tb : Nat} {w : World} (hs : s.size ≤ 65534) (g : Glob w) {I Q : List OpV} (ho : OpsOk w tb I Q) :
  Calls Tryz.prog 19 #[.string s, .pointer (some ⟨tb, 0, none⟩)] w (OnePost w (oneR ⟨fun s => findO s I, fun s => findO s Q⟩ (s.data.toList ++ [32, 46]))) := by
 obtain ⟨P, hP⟩ : ∃ P, (⟨fun s => findO s I, fun s => findO s Q⟩ : Ops) = P := ⟨_, rfl⟩
 have hqd : (s ++ (⟨#[32, 46]⟩ : ByteArray)).data.toList = s.data.toList ++ [32, 46] := by simp
 have hcv := fun W : World => Lib.run_convert_string_bytes (P := Tryz.prog) W 9 23 5 (s ++ ⟨#[32, 46]⟩) Tryz.underlying9 Tryz.underlying23 Tryz.underlying5
 have hqz : (s ++ (⟨#[32, 46]⟩ : ByteArray)).size = s.size + 2 := by simp; rfl
 rw [hP, ← hqd]
 have HALL : ∀ (A : Option Addr) (cap : Nat) (W : World), BytesAt W A (s ++ (⟨#[32, 46]⟩ : ByteArray)).data.toList → (s ++ (⟨#[32, 46]⟩ : ByteArray)).size ≤ cap → Ext w W → Calls Tryz.prog 17 #[.slice A (s ++ (⟨#[32, 46]⟩ : ByteArray)).size cap, .pointer (some ⟨tb, 0, none⟩)] W (AllPost W (allR P (s ++ (⟨#[32, 46]⟩ : ByteArray)).data.toList)) := by
  intro A cap W hb hc hx
  have hlen : (s ++ (⟨#[32, 46]⟩ : ByteArray)).data.toList.length = (s ++ (⟨#[32, 46]⟩ : ByteArray)).size := by rw [Array.length_toList]; rfl
  have := pAllR (cap := cap) hb (by rw [hlen, hqz]; omega) (by rw [hlen]; exact hc) (g.ext hx) (ho.ext hx)
  rw [hlen, hP] at this
  exact this
 have hx := ext_box4 w (.cells #[.int .i64 0, .int .i64 0, .string ⟨#[]⟩, .slice none 0 0, .slice none 0 0, .int .i64 0] 35)
 have HX := Lib.hid hx
 have HZ := Lib.hid (Blk.new w 35 #[.int .i64 0, .int .i64 0, .string ⟨#[]⟩, .slice none 0 0, .slice none 0 0, .int .i64 0])
 have HSZ := Lib.hid (World.size_alloc w (.cells #[.int .i64 0, .int .i64 0, .string ⟨#[]⟩, .slice none 0 0, .slice none 0 0, .int .i64 0] 35))
 have hzr := zeroRead
 have HALL2 := Lib.hid HALL
 have HCV := Lib.hid hcv
 clear hx hP g ho hqd hqz HALL hcv
 obtain ⟨X, hX⟩ : ∃ X, allR P (s ++ (⟨#[32, 46]⟩ : ByteArray)).data.toList = X := ⟨_, rfl⟩
 unfold oneR
 rw [hX] at HALL2 ⊢
 clear hX
 go_enter Tryz.func19, Tryz.ntmps19
 go_upto_region 1 with fail
 generalize w.alloc (.cells #[.int .i64 0, .int .i64 0, .string ⟨#[]⟩, .slice none 0 0, .slice none 0 0, .int .i64 0] 35) = W1 at *
 go_wp2_with fail
 generalize s ++ (⟨#[32, 46]⟩ : ByteArray) = q at *
 have hcv1 := HCV.out W1
 have HB := Lib.hid (bytes_new W1 q)
 have HE := Lib.hid (ext_bytes W1 5 q)
 generalize Lib.bytesWorld W1 5 q = W2 at hcv1 HB HE
 have HA := fun A cap h1 h2 => Lib.hid (HALL2.out A cap W2 h1 h2 (HX.out.trans HE.out))
 clear HCV HALL2
 rw [hcv1]
 go_simp
 go_upto_region 2 with (go_at_call 17; refine (HA _ _ HB.out (grownCap_ge _ _ _ _)).out.mono ?_; rintro e W6 ⟨v, M, rfl, hm, hl⟩; obtain ⟨A6, c6, rfl⟩ := own_value hm.own; have HM := Lib.hid hm; have HL := Lib.hid hl; have X6 := Lib.hid (HX.out.trans (HE.out.trans hm.ext)); have Z6 := Lib.hid (HZ.out.ext (HE.out.trans hm.ext)); have zc := (HZ.out.ext (HE.out.trans hm.ext)).cell; have zf := (HZ.out.ext (HE.out.trans hm.ext)).frozen; clear hm hl)
 by_cases h0 : X.2.2 = 0
 ·have e0 : (X.2.2 != 0) = false := by simpa using h0
  have hlm : X.1.length = M.length := by rw [← HL.out]; simp
  by_cases h1 : M.length = 1
  ·obtain ⟨p, hp⟩ : ∃ p, M = [p] := List.length_eq_one_iff.1 h1
   subst hp
   obtain ⟨r, A, c, n, m⟩ := p
   have hXe : oneX X = (r, 0) := by
    unfold oneX
    rw [if_neg (by simp [h0]), if_neg (by simp [hlm]), ← HL.out]
    rfl
   have HXE := Lib.hid hXe
   obtain ⟨b, off, rfl, hc⟩ := El.Src.form (Src.of_own HM.out.own) (by simp) (by omega)
   have d0 : W6.cell? ⟨b, off, none⟩ = some (.int .i64 (Tm.k r.t)) := hc 0 _ rfl
   have d1 : W6.cell? ⟨b, off + 1, none⟩ = some (.int .i64 (Tm.n r.t)) := hc 1 _ rfl
   have d2 : W6.cell? ⟨b, off + 2, none⟩ = some (.string (Tm.s r.t)) := hc 2 _ rfl
   have d3 : W6.cell? ⟨b, off + 3, none⟩ = some (.slice A (Tm.l r.t).length c) := hc 3 _ rfl
   have d4 : W6.cell? ⟨b, off + 4, none⟩ = some (.slice n r.ns.length m) := hc 4 _ rfl
   have d5 : W6.cell? ⟨b, off + 5, none⟩ = some (.int .i64 r.nx) := hc 5 _ rfl
   have HK := Lib.hid (HM.out.kid (r, A, c, n, m) (by simp))
   have hgb : w.heap.size < W2.heap.size := by have := HE.out.size; have := HSZ.out; omega
   clear hc hXe h1 hlm h0
   have hl1 : ([(r, A, c, n, m)] : List RdP).length = 1 := rfl
   rw [hl1]
   clear hl1
   go_wp2_with fail
   have kb := blk_set6 Z6.out (.int .i64 (Tm.k r.t)) (.int .i64 (Tm.n r.t)) (.string (Tm.s r.t)) (.slice A (Tm.l r.t).length c) (.slice n r.ns.length m) (.int .i64 r.nx)
   have kc := kb.cell
   have hm6 := mods_set6 (S := [w.heap.size]) (W := W6) (z := w.heap.size) (by simp) (.int .i64 (Tm.k r.t)) (.int .i64 (Tm.n r.t)) (.string (Tm.s r.t)) (.slice A (Tm.l r.t).length c) (.slice n r.ns.length m) (.int .i64 r.nx)
   have hrd : RdIn (fun k => w.heap.size ≤ k ∧ k < ((((((W6.setCell ⟨w.heap.size, 0, none⟩ (.int .i64 (Tm.k r.t))).setCell ⟨w.heap.size, 1, none⟩ (.int .i64 (Tm.n r.t))).setCell ⟨w.heap.size, 2, none⟩ (.string (Tm.s r.t))).setCell ⟨w.heap.size, 3, none⟩ (.slice A (Tm.l r.t).length c)).setCell ⟨w.heap.size, 4, none⟩ (.slice n r.ns.length m)).setCell ⟨w.heap.size, 5, none⟩ (.int .i64 r.nx)).heap.size) _ (r, A, c, n, m) := RdIn.mods hm6 (fun k hk => by have := hk.1; simp; omega) (fun k hk => ⟨by have := hk.1; omega, Nat.lt_of_lt_of_le hk.2.1 hm6.size⟩) HK.out
   refine bodyPost_ret (v := .tuple #[rdV r.t A c n r.ns.length m r.nx, .int .i64 0]) ?_ rfl ⟨_, by rw [HXE.out], by rw [HXE.out]; exact ⟨A, c, n, m, rfl, hrd.tm, hrd.ns, hrd.cap, fun a ha => hrd.blk a ha⟩, ext_set6 X6.out (Nat.le_refl _) _ _ _ _ _ _⟩
   simp [results, Tryz.results19, go_sem, kc, rdV]
  ·have h1b : ((M.length : Int) != 1) = true := by
    rw [bne_iff_ne]
    omega
   have hXe : oneX X = (zeroR, 100) := by
    unfold oneX
    rw [if_neg (by simp [h0]), if_pos (by rw [hlm]; exact h1)]
   clear h0 hlm h1
   go_wp2_with fail
   have kb := blk_set6 Z6.out (.int .i64 0) (.int .i64 0) (.string ⟨#[]⟩) (.slice none 0 0) (.slice none 0 0) (.int .i64 0)
   have kc := kb.cell
   refine bodyPost_ret (v := .tuple #[.agg #[.int .i64 0, .int .i64 0, .string ⟨#[]⟩, .slice none 0 0, .slice none 0 0, .int .i64 0], .int .i64 100]) ?_ rfl ⟨_, by rw [hXe], by rw [hXe]; exact ReadAt.zero _ _, ext_set6 X6.out (Nat.le_refl _) _ _ _ _ _ _⟩
   simp [results, Tryz.results19, go_sem, kc]
 ·have e0 : (X.2.2 != 0) = true := by simpa using h0
  have hXe : oneX X = (zeroR, X.2.2) := by unfold oneX; rw [if_pos h0]
  clear h0
  go_wp2_with fail
  have kb := blk_set6 Z6.out (.int .i64 0) (.int .i64 0) (.string ⟨#[]⟩) (.slice none 0 0) (.slice none 0 0) (.int .i64 0)
  have kc := kb.cell
  refine bodyPost_ret (v := .tuple #[.agg #[.int .i64 0, .int .i64 0, .string ⟨#[]⟩, .slice none 0 0, .slice none 0 0, .int .i64 0], .int .i64 X.2.2]) ?_ rfl ⟨_, by rw [hXe], by rw [hXe]; exact ReadAt.zero _ _, ext_set6 X6.out (Nat.le_refl _) _ _ _ _ _ _⟩
  simp [results, Tryz.results19, go_sem, kc]
end Go.Proofs.YtgcdhffeacdegaaGreatDoor
