/- Layer 10, the program: the walk of Clause, where its tokens are read. -/
import Derived.Test.YtgcdhffeacdegaaGreatDoorG40
namespace Go.Proofs.YtgcdhffeacdegaaGreatDoor
open Go.RowKit Go.El

section
variable {O : Ops} {l q : List TokV} {e : Nat} {t : Tm} {ns : List ByteArray}
theorem read_bad (h : resIs (termN O (5 * l.length + 5) 1200 l []) t q ns true) : readT O l e = (zeroR, headA q, 100) := by
  unfold readT
  cases hx : termN O (5 * l.length + 5) 1200 l [] with
  | bad p =>
    rw [hx] at h
    obtain ⟨_, rfl⟩ := h
    rfl
  | ok a p ms =>
    rw [hx] at h
    cases h.1
theorem read_fine (h : resIs (termN O (5 * l.length + 5) 1200 l []) t q ns false) : readT O l e = if (q.map TokV.kind).head? = some 6 then (if chkT t = 0 then ((⟨t, ns, e⟩, (e : Int), 0) : ReadV × Int × Int) else (zeroR, headA l, chkT t)) else (zeroR, headA q, 100) := by
  unfold readT
  cases hx : termN O (5 * l.length + 5) 1200 l [] with
  | bad p =>
    rw [hx] at h
    cases h.1
  | ok a p ms =>
    rw [hx] at h
    obtain ⟨_, rfl, rfl, rfl⟩ := h
    rfl
theorem read_sz (h : resIs (termN O (5 * l.length + 5) 1200 l []) t q ns false) : szT t ≤ l.length := by
  cases hx : termN O (5 * l.length + 5) 1200 l [] with
  | bad p =>
    rw [hx] at h
    cases h.1
  | ok a p ms =>
    rw [hx] at h
    obtain ⟨_, rfl, rfl, rfl⟩ := h
    exact szT_read hx
end
theorem mods_set6 {S : List Nat} {W : World} {z : Nat} (hz : z ∈ S) (a b c d e f : Value) : Mods S W ((((((W.setCell ⟨z, 0, none⟩ a).setCell ⟨z, 1, none⟩ b).setCell ⟨z, 2, none⟩ c).setCell ⟨z, 3, none⟩ d).setCell ⟨z, 4, none⟩ e).setCell ⟨z, 5, none⟩ f) :=
  (((((((Mods.refl S W).setCell (p := ⟨z, 0, none⟩) (.inl hz) a).setCell (p := ⟨z, 1, none⟩) (.inl hz) b).setCell (p := ⟨z, 2, none⟩) (.inl hz) c).setCell (p := ⟨z, 3, none⟩) (.inl hz) d).setCell (p := ⟨z, 4, none⟩) (.inl hz) e).setCell (p := ⟨z, 5, none⟩) (.inl hz) f)
theorem ReadAt.put {w W : World} {t : Tm} {A : Option Addr} {c : Nat} {n : Option Addr} {k : Nat} {ns : List ByteArray} {nx : Int} {D : Nat → Prop} (ht : TmIn D W t A c) (hD : ∀ b, D b → w.heap.size < b ∧ b < W.heap.size) (hs : El.Src W n ns.length 1 (ns.map Value.string)) (hk : ns.length ≤ k) (hn : ∀ a, n = some a → w.heap.size < a.block ∧ a.block < W.heap.size) (a0 b0 c0 d0 e0 f0 : Value) :
    ReadAt w ((((((W.setCell ⟨w.heap.size, 0, none⟩ a0).setCell ⟨w.heap.size, 1, none⟩ b0).setCell ⟨w.heap.size, 2, none⟩ c0).setCell ⟨w.heap.size, 3, none⟩ d0).setCell ⟨w.heap.size, 4, none⟩ e0).setCell ⟨w.heap.size, 5, none⟩ f0) (rdV t A c n ns.length k nx) ⟨t, ns, nx⟩ := by
  have hm := mods_set6 (S := [w.heap.size]) (W := W) (z := w.heap.size) (by simp) a0 b0 c0 d0 e0 f0
  have hsz := hm.size
  exact ⟨A, c, n, k, rfl, TmIn.mods hm (fun b hb => by have := (hD b hb).1; simp; omega) (fun b hb => ⟨Nat.le_of_lt (hD b hb).1, Nat.lt_of_lt_of_le (hD b hb).2 hsz⟩) ht, hs.mods hm (fun a ha => by have := (hn a ha).1; simp; omega), hk, fun a ha => ⟨Nat.le_of_lt (hn a ha).1, Nat.lt_of_lt_of_le (hn a ha).2 hsz⟩⟩
theorem ReadAt.ext {X w w' : World} {v : Value} {r : ReadV} (h : ReadAt X w v r) (x : Ext w w') : ReadAt X w' v r := by
  obtain ⟨A, c, n, k, hv, ht, hs, hk, hn⟩ := h
  exact ⟨A, c, n, k, hv, (ht.ext x).mono (fun b hb => ⟨hb.1, Nat.lt_of_lt_of_le hb.2 x.size⟩), hs.ext x, hk, fun a ha => ⟨(hn a ha).1, Nat.lt_of_lt_of_le (hn a ha).2 x.size⟩⟩
theorem clpost_ok {w W : World} {v : Value} {t : Tm} {ns : List ByteArray} {k : Int} {X : ReadV × Int × Int} (hX : X = (⟨t, ns, k⟩, k, 0)) (h : ReadAt w W v ⟨t, ns, k⟩) (x : Ext w W) : ClPost w X (.returned (.tuple #[v, .int .i64 k, .int .i64 0])) W := by
  subst hX
  exact ⟨v, rfl, h, x⟩

set_option maxRecDepth 100000 in
set_option maxHeartbeats 8000000 in
theorem pClause_ok {A : Option Addr} {cap : Nat} {B : List UInt8} {i tb : Nat} {w : World} (h : BytesAt w A B) (hi : i ≤ B.length) (hB : B.length ≤ 65536) (hcap : B.length ≤ cap) (g : Glob w) {I Q : List OpV} (ho : OpsOk w tb I Q) {l : List TokV} {k : Nat} (hx : ctoks B i = .ok (l, k)) :
    Calls Tryz.prog 14 #[.slice A B.length cap, .int .i64 (i : Int), .pointer (some ⟨tb, 0, none⟩)] w (ClPost w (readT ⟨fun s => findO s I, fun s => findO s Q⟩ l k)) := by
  obtain ⟨hL, hkB, _⟩ := ctoks_ok hi hB hx
  have hxx := ext_box4 w (.cells #[.int .i64 0, .int .i64 0, .string ⟨#[]⟩, .slice none 0 0, .slice none 0 0, .int .i64 0] 35)
  have HT := Lib.hid (pTokens (h.ext hxx) hi hB hcap (g.ext hxx))
  rw [hx] at HT
  have HX := Lib.hid hxx
  have HOK := Lib.hid (ho.ext hxx)
  have HZ := Lib.hid (Blk.new w 35 #[.int .i64 0, .int .i64 0, .string ⟨#[]⟩, .slice none 0 0, .slice none 0 0, .int .i64 0])
  have HSZ := Lib.hid (World.size_alloc w (.cells #[.int .i64 0, .int .i64 0, .string ⟨#[]⟩, .slice none 0 0, .slice none 0 0, .int .i64 0] 35))
  have HLK := Lib.hid hL
  have hzr := zeroRead
  have hmm := @run_makeMap Tryz.prog
  obtain ⟨X, hX⟩ : ∃ X, readT ⟨fun s => findO s I, fun s => findO s Q⟩ l k = X := ⟨_, rfl⟩
  rw [hX]
  have HRX := Lib.hid hX
  clear h hx hxx g ho hL hX
  go_enter Tryz.func14, Tryz.ntmps14
  go_upto_region 6 with (go_at_call 40; refine HT.out.mono ?_; rintro e W1 ⟨v1, rfl, g1⟩; obtain ⟨A1, c1, rfl⟩ := own_value g1.own; have G1 := Lib.hid g1; clear g1)
  have X1 := Lib.hid (HX.out.trans G1.out.ext)
  have hpa := PaAt.start G1.out HLK.out (HOK.out.ext G1.out.ext)
  have H2 := Lib.hid hpa
  have HT2 := Lib.hid (show Calls Tryz.prog 41 #[.pointer (some ⟨W1.heap.size + 1, 0, none⟩), .int .i64 1200] ((W1.alloc (.map #[] 0)).alloc (.cells #[.slice A1 l.length c1, .int .i64 0, .pointer (some ⟨tb, 0, none⟩), .slice none 0 0, .map (some W1.heap.size), .bool false] 81)) (TPost (newF W1 A1 c1 l I Q tb) (newW W1 A1 c1 l.length tb) (.slice none 0 0) l (termN ⟨fun s => findO s I, fun s => findO s Q⟩ (5 * l.length + 5) 1200 l [])) from
    paTerm l.length l [] (.slice none 0 0) _ (5 * l.length + 5) 1200 (Nat.le_refl _) hpa (Nat.le_refl _))
  clear hpa
  go_upto_region 7 with fail
  go_upto_region 8 with (go_at_call 41; refine HT2.out.mono ?_; rintro e W3 ⟨t, A3, c3, nv3, q, ns, b3, rfl, hres, h3, s3, ht3, hl3⟩; have HRES := Lib.hid hres; have H3 := Lib.hid h3; have S3 := Lib.hid s3; have T3 := Lib.hid ht3; clear hres h3 s3 ht3 hl3)
  have hx4 := ext_box4 W3 (.cells #[.int .i64 (Tm.k t), .int .i64 (Tm.n t), .string (Tm.s t), .slice A3 (Tm.l t).length c3] 32)
  have H4 := Lib.hid (H3.out.ext hx4)
  have hwl : w.heap.size < W1.heap.size := by have := G1.out.ext.size; rw [HSZ.out] at this; omega
  have hw2 : (newW W1 A1 c1 l.length tb).heap.size = W1.heap.size + 2 := by simp [newW]
  have X3 : Hid (Ext w W3) := Lib.hid (ext_mods (X1.out.trans (newW_ext W1 A1 c1 l.length tb)) S3.out.mods (fun k hk => by simp [PF.S, newF, ownL, Value.ownBlock] at hk; omega))
  have X4 := Lib.hid (X3.out.trans hx4)
  have Z4 := Lib.hid ((((HZ.out.ext G1.out.ext).ext (newW_ext W1 A1 c1 l.length tb)).mods S3.out.mods (by simp [PF.S, newF, ownL, Value.ownBlock]; omega)).ext hx4)
  have BT := Lib.hid (Blk.new W3 32 #[.int .i64 (Tm.k t), .int .i64 (Tm.n t), .string (Tm.s t), .slice A3 (Tm.l t).length c3])
  have T4 := Lib.hid (T3.out.ext hx4)
  have hs3 := S3.out.size
  have G4 : Hid (W3.heap.size < (W3.alloc (.cells #[.int .i64 (Tm.k t), .int .i64 (Tm.n t), .string (Tm.s t), .slice A3 (Tm.l t).length c3] 32)).heap.size) := Lib.hid BT.out.lt
  have c5 : (W3.alloc (.cells #[.int .i64 (Tm.k t), .int .i64 (Tm.n t), .string (Tm.s t), .slice A3 (Tm.l t).length c3] 32)).cell? ⟨W1.heap.size + 1, 5, none⟩ = some (.bool b3) := H4.out.cells.c5
  have c3p : (W3.alloc (.cells #[.int .i64 (Tm.k t), .int .i64 (Tm.n t), .string (Tm.s t), .slice A3 (Tm.l t).length c3] 32)).cell? ⟨W1.heap.size + 1, 3, none⟩ = some nv3 := H4.out.cells.c3
  have hwl2 : W1.heap.size + 1 < W3.heap.size := by omega
  generalize W3.alloc (.cells #[.int .i64 (Tm.k t), .int .i64 (Tm.n t), .string (Tm.s t), .slice A3 (Tm.l t).length c3] 32) = W4 at *
  obtain ⟨t0, q2, hq⟩ := ToksOk.ne H4.out.suf H4.out.nil
  have HN := fun W (x : Ext W4 W) => Lib.hid (show Calls Tryz.prog 42 #[.pointer (some ⟨W1.heap.size + 1, 0, none⟩)] W (fun e w' => e = .returned (tokA t0) ∧ Ext W w') from paNext (H4.out.ext x) hq)
  unfold tokA at HN
  have F0 := tokF0 t0.kind t0.n t0.at_ t0.s t0.lay
  have F3 := tokF3 t0.kind t0.n t0.at_ t0.s t0.lay
  have hha : headA q = t0.at_ := by rw [hq]; rfl
  have HQ := Lib.hid hq
  clear hq hx4
  cases b3 with
  | true =>
    have hXe : X = (zeroR, t0.at_, 100) := by rw [← HRX.out, read_bad HRES.out, hha]
    clear hha
    go_upto_region 9 with fail
    go_wp2_with (go_at_call 42; refine (HN _ (Ext.refl _)).out.mono ?_; rintro e W9 ⟨rfl, x9⟩; have X9 := Lib.hid (X4.out.trans x9); have Z9 := Lib.hid (Z4.out.ext x9); have zc := Z9.out.cell; have zf := Z9.out.frozen; clear x9)
    have kb := blk_set6 Z9.out (.int .i64 0) (.int .i64 0) (.string ⟨#[]⟩) (.slice none 0 0) (.slice none 0 0) (.int .i64 0)
    have kc := kb.cell
    refine bodyPost_ret (v := .tuple #[.agg #[.int .i64 0, .int .i64 0, .string ⟨#[]⟩, .slice none 0 0, .slice none 0 0, .int .i64 0], .int .i64 t0.at_, .int .i64 100]) ?_ rfl ⟨_, by rw [hXe], by rw [hXe]; exact ReadAt.zero _ _, ext_set6 X9.out (Nat.le_refl _) _ _ _ _ _ _⟩
    simp [results, Tryz.results14, go_sem, kc]
  | false =>
    have hXf := HRX.out.symm.trans (read_fine HRES.out)
    have hsz := read_sz HRES.out
    have hhd : (q.map TokV.kind).head? = some t0.kind := by rw [HQ.out]; rfl
    rw [hhd, hha] at hXf
    have HCK := fun V (x : Ext W4 V) => Lib.hid (check_any t A3 c3 V _ (T4.out.ext x) (by have := HLK.out.len; omega))
    unfold tmVal at HCK
    clear hha hhd
    by_cases hk6 : t0.kind = 6
    · rw [if_pos (by rw [hk6])] at hXf
      rw [hk6] at HN F0
      obtain ⟨E0, l2, hl0⟩ : ∃ E0 l2, l = E0 :: l2 := by
        obtain ⟨M, E, e, _⟩ := HLK.out.fin
        cases l with
        | nil => simp at e
        | cons a b => exact ⟨a, b, rfl⟩
      have hla : headA l = E0.at_ := by rw [hl0]; rfl
      have htk := tok_cells H4.out.tok (k := 0) (t := E0) (by show l[0]? = some E0; rw [hl0]; rfl)
      obtain ⟨b, off, hA1, _, _, _, d3, _⟩ := htk
      have hA1' : A1 = some ⟨b, off, none⟩ := hA1
      subst hA1'
      have hll : 0 < l.length := by rw [hl0]; simp
      have hll2 : ¬ ((l.length : Int) ≤ 0) := by omega
      have hll3 : (0 : Int) < (l.length : Int) := by omega
      rw [Nat.zero_mul, Nat.add_zero] at d3
      clear hl0 hA1 hk6
      by_cases hck : chkT t = 0
      · rw [if_pos hck] at hXf
        have HXF := Lib.hid hXf
        clear hXf
        rw [hck] at HCK
        obtain ⟨n3, k3, hnv⟩ := own_value H4.out.own
        subst hnv
        have HRD := fun (V : World) (x47 : Ext W4 V) => Lib.hid (ReadAt.put (w := w) (nx := (k : Int)) (T4.out.ext x47) (fun b hb => by have h1 := hb.1; have h2 := hb.2.2.2; have h3 := G4.out; have h4 := x47.size; omega) ((Src.of_own H4.out.own).ext x47) (own_cap H4.out.own) (fun a ha => by
          have h0 : (Value.slice n3 ns.length k3).ownBlock = some a.block := by rw [ha]; rfl
          have h1 := own_lt H4.out.own h0
          have h4 := x47.size
          rcases S3.out.own a.block h0 with h2 | h2
          · simp [Value.ownBlock] at h2
          · omega) (.int .i64 (Tm.k t)) (.int .i64 (Tm.n t)) (.string (Tm.s t)) (.slice A3 (Tm.l t).length c3) (.slice n3 ns.length k3) (.int .i64 (k : Int)))
        go_upto_region 13 with (first
          | (go_at_call 42; refine (HN _ (Ext.refl _)).out.mono ?_; rintro e W5 ⟨rfl, x5⟩; have X5 := Lib.hid x5; have bt5 := (BT.out.ext x5).cell; clear x5)
          | (go_at_call 43; refine (HCK _ X5.out).out.mono ?_; rintro e W6 ⟨rfl, x6⟩; have X6 := Lib.hid (X5.out.trans x6); have bt6 := (BT.out.ext X6.out).cell; have c36 := X6.out.cell c3p; have Z6 := Lib.hid (Z4.out.ext X6.out); have z6c := Z6.out.cell; have z6f := Z6.out.frozen; clear x6))
        clear bt5 c5 c3p
        go_region
        all_goals
          go_wp2_with fail
          have kb := blk_set6 Z6.out (.int .i64 (Tm.k t)) (.int .i64 (Tm.n t)) (.string (Tm.s t)) (.slice A3 (Tm.l t).length c3) (.slice n3 ns.length k3) (.int .i64 (k : Int))
          have kc := (kb.ext (Ext.refl _).drew).cell
          have x47 := X6.out
          have hrd := (HRD _ x47).out
          refine bodyPost_ret (v := .tuple #[rdV t A3 c3 n3 ns.length k3 (k : Int), .int .i64 (k : Int), .int .i64 0]) ?_ rfl (clpost_ok HXF.out (hrd.ext (Ext.refl _).drew) (ext_set6 (X4.out.trans x47) (Nat.le_refl _) _ _ _ _ _ _).drew)
          simp [results, Tryz.results14, go_sem, kc, rdV]
      · rw [if_neg hck, hla] at hXf
        have HXF := Lib.hid hXf
        have ec : (chkT t != 0) = true := by simpa using hck
        clear hXf hck hla
        have hb1 : ¬ b = w.heap.size := by have := G1.out.far b rfl; rw [HSZ.out] at this; omega
        have hb2 : ¬ w.heap.size = b := fun e => hb1 e.symm
        generalize chkT t = ct at *
        go_upto_region 12 with (first
          | (go_at_call 42; refine (HN _ (Ext.refl _)).out.mono ?_; rintro e W5 ⟨rfl, x5⟩; have X5 := Lib.hid x5; have bt5 := (BT.out.ext x5).cell; clear x5)
          | (go_at_call 43; refine (HCK _ X5.out).out.mono ?_; rintro e W6 ⟨rfl, x6⟩; have X6 := Lib.hid (X5.out.trans x6); have d36 := X6.out.cell d3; have Z6 := Lib.hid (Z4.out.ext X6.out); have z6c := Z6.out.cell; have z6f := Z6.out.frozen; clear x6))
        clear bt5 c5 c3p
        go_region
        all_goals
          go_wp2_with fail
          have kb := blk_set6 Z6.out (.int .i64 0) (.int .i64 0) (.string ⟨#[]⟩) (.slice none 0 0) (.slice none 0 0) (.int .i64 0)
          have kc := (kb.ext (Ext.refl _).drew).cell
          refine bodyPost_ret (v := .tuple #[.agg #[.int .i64 0, .int .i64 0, .string ⟨#[]⟩, .slice none 0 0, .slice none 0 0, .int .i64 0], .int .i64 E0.at_, .int .i64 ct]) ?_ rfl ⟨_, by rw [HXF.out], by rw [HXF.out]; exact ReadAt.zero _ _, (ext_set6 (X4.out.trans X6.out) (Nat.le_refl _) _ _ _ _ _ _).drew⟩
          simp [results, Tryz.results14, go_sem, kc]
    · rw [if_neg (by simpa using hk6)] at hXf
      have e6 : (t0.kind != 6) = true := by simpa using hk6
      have HXF := Lib.hid hXf
      clear hXf hk6
      go_upto_region 9 with (go_at_call 42; refine (HN _ (Ext.refl _)).out.mono ?_; rintro e W5 ⟨rfl, x5⟩; have X5 := Lib.hid x5; clear x5)
      go_wp2_with (go_at_call 42; refine (HN _ X5.out).out.mono ?_; rintro e W9 ⟨rfl, x9⟩; have X9 := Lib.hid (X4.out.trans (X5.out.trans x9)); have Z9 := Lib.hid (Z4.out.ext (X5.out.trans x9)); have zc := Z9.out.cell; have zf := Z9.out.frozen; clear x9)
      have kb := blk_set6 Z9.out (.int .i64 0) (.int .i64 0) (.string ⟨#[]⟩) (.slice none 0 0) (.slice none 0 0) (.int .i64 0)
      have kc := kb.cell
      refine bodyPost_ret (v := .tuple #[.agg #[.int .i64 0, .int .i64 0, .string ⟨#[]⟩, .slice none 0 0, .slice none 0 0, .int .i64 0], .int .i64 t0.at_, .int .i64 100]) ?_ rfl ⟨_, by rw [HXF.out], by rw [HXF.out]; exact ReadAt.zero _ _, ext_set6 X9.out (Nat.le_refl _) _ _ _ _ _ _⟩
      simp [results, Tryz.results14, go_sem, kc]
end Go.Proofs.YtgcdhffeacdegaaGreatDoor
