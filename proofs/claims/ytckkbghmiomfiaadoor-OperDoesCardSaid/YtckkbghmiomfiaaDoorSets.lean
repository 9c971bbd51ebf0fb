/- OperSets: the walk. -/
import Derived.Test.YtckkbghmiomfiaaDoorForks
import Derived.Test.YtckkbghmiomfiaaDoorSetsP
namespace Go.Proofs.YtckkbghmiomfiaaDoor
open Go.RowKit Go.El Go.Proofs

theorem lvAllM {w W : World} {tb m1 m2 : Nat} {I Q : List OpV} (h : LvAt w W tb m1 m2 I Q) (hi : Inv I Q) :
    Calls Tryd.prog 12 #[.pointer (some ⟨tb, 0, none⟩)] W fun e w' => ∃ A c M, e = .returned (.slice A M.length c) ∧ M.Perm (I ++ Q) ∧ M.Pairwise (fun a b => ltO b a = false) ∧ El.Src w' A M.length 3 (flat opCells M) ∧ M.length ≤ 64 ∧ Ext W w' := by
  have hl := hi.len
  refine (pAll_any tb m1 m2 I Q W h.tab (by omega) (by omega)).mono fun _ _ ⟨v, M, e, p, s, o, _, x⟩ => ?_
  obtain ⟨A, c, rfl⟩ := own_value o
  exact ⟨A, c, M, e, p, s, El.Src.of_own o, by rw [p.length_eq, List.length_append]; exact hl, x⟩
theorem lvSetE {w W : World} {tb m1 m2 : Nat} {I Q : List OpV} (h : LvAt w W tb m1 m2 I Q) (hi : Inv I Q) (p t : Int) (s : ByteArray) :
    Calls Tryd.prog 24 #[.pointer (some ⟨tb, 0, none⟩), .agg #[.int .i64 p, .int .i64 t, .string s]] W fun e w' => e = .returned (.int .i64 (errT ⟨p, t, s⟩ I Q)) ∧ LvAt w w' tb m1 m2 (nextI ⟨p, t, s⟩ I Q) (nextQ ⟨p, t, s⟩ I Q) ∧ Kept W w' := by
  have hl := hi.len
  exact (pSet_any tb m1 m2 ⟨p, t, s⟩ I Q W h.types h.tab (by omega)).mono fun _ _ ⟨e, h1, h2⟩ => ⟨e, h.set_ h2 h1, kept_set h.tab h2⟩

/-- What a loop that gathers operators owns: a slice of its own that lies beyond where it began. -/
structure Gath (X wr : World) (v : Value) (F : List OpV) : Prop where
  own : wr.ownsRow 0 32 3 v F.length (flat opCells F)
  far : ∀ b, v.ownBlock = some b → X.heap.size ≤ b
  ext : Ext X wr
theorem Gath.start (X : World) : Gath X X (.slice none 0 0) [] := ⟨World.ownsRow_nil _ _ _ _, fun b hb => by simp [Value.ownBlock] at hb, Ext.refl _⟩
theorem Gath.go {X wr w' : World} {v : Value} {F : List OpV} (h : Gath X wr v F) (x : Ext wr w') : Gath X w' v F := ⟨own_ext h.own x, h.far, h.ext.trans x⟩
theorem Gath.step {X wr V w' : World} {v v' : Value} {F : List OpV} {o : OpV} (h : Gath X wr v F) (x : Ext wr V) (ho : w'.ownsRow 0 32 3 v' (F.length + 1) (flat opCells F ++ opCells o)) (hm : Mods (ownL v) V w') (hb : v'.ownBlock = v.ownBlock ∨ v'.ownBlock = some V.heap.size) : Gath X w' v' (F ++ [o]) := by
  refine ⟨?_, fun b hb' => ?_, ext_mods (h.ext.trans x) hm (fun k hk => h.far k (mem_ownL hk))⟩
  · rw [flat_append, List.length_append]
    have e : flat opCells [o] = opCells o := by simp [flat]
    rw [e]
    exact ho
  · rcases hb with e | e
    · exact h.far b (e.symm.trans hb')
    · rw [e] at hb'
      injection hb' with hb'
      subst hb'
      exact Nat.le_trans h.ext.size x.size
theorem Gath.slice {X wr : World} {v : Value} {F : List OpV} (h : Gath X wr v F) : SliceO wr v F := by
  obtain ⟨A, c, rfl⟩ := own_value h.own
  exact ⟨A, c, rfl, El.Src.of_own h.own⟩

theorem neO_cases (x o : OpV) : (x = o ∧ neO o x = false) ∨ (neO o x = true ∧ (((x.p == o.p) = false) ∨ (x.p = o.p ∧ ((x.t == o.t) = false)) ∨ (x.p = o.p ∧ x.t = o.t ∧ (x.s.toList == o.s.toList) = false))) := by
  by_cases e : x = o
  · exact .inl ⟨e, by simp [neO, e]⟩
  · refine .inr ⟨by simp [neO, e], ?_⟩
    by_cases g1 : x.p = o.p
    · by_cases g2 : x.t = o.t
      · refine .inr (.inr ⟨g1, g2, isR_bne (fun g3 => e ?_)⟩)
        cases x; cases o; simp_all
      · exact .inr (.inl ⟨g1, by simpa using g2⟩)
    · exact .inl (by simpa using g1)

theorem pre_cases (n : Int) : ((n == 4) = true ∧ preB n = true) ∨ ((n == 4) = false ∧ (n == 5) = true ∧ preB n = true) ∨ ((n == 4) = false ∧ (n == 5) = false ∧ preB n = false) := by
  unfold preB
  cases (n == 4) <;> cases (n == 5) <;> simp

set_option maxRecDepth 100000 in
set_option maxHeartbeats 8000000 in
theorem sets_any (A : Option Addr) (c : Nat) (L : List OpV) (p t : Int) (s : ByteArray) (w : World) (hT : TypesAt 0 w) (h1 : El.Src w A L.length 3 (flat opCells L)) (hL : L.length ≤ 9223372036854775807) (hs : s.size ≤ 9223372036854775807) :
    Calls Tryd.prog 5 #[.slice A L.length c, .agg #[.int .i64 p, .int .i64 t, .string s]] w fun e w' => e = .returned (.bool true) ∧ Ext w w' := by
  obtain ⟨i0, hi0, hz0, hz1, hz2⟩ := info_parts opInfo
  have HT := Lib.hid hT
  have H1 := Lib.hid h1
  clear hT h1
  by_cases hbig : 1000 < s.size ∨ 80 < L.length
  · have hbig2 : (1000 < s.size) ∨ (s.size ≤ 1000 ∧ 80 < L.length) := by omega
    clear hbig
    rcases hbig2 with hb | ⟨hb, hb2⟩
    all_goals
      go_enter Tryd.func5, Tryd.ntmps5
      go_upto_region 1 with fail
      refine wp_abs (fun W => Ext w W ∧ W.cell? ⟨w.heap.size, 0, none⟩ = some (.int .i64 p) ∧ W.cell? ⟨w.heap.size, 1, none⟩ = some (.int .i64 t) ∧ W.cell? ⟨w.heap.size, 2, none⟩ = some (.string s)) ⟨ext_box _ _, new_cell (Ext.refl _) 0, new_cell (Ext.refl _) 1, new_cell (Ext.refl _) 2⟩ ?_
      rintro W0 ⟨x0, a0, a1, a2⟩
      go_wp2_with (first | (go_at_call 8; refine (lvNew _ (HT.out.ext x0)).mono ?_; rintro e W ⟨tb, m1, m2, rfl, L0⟩) | (go_at_call 10; refine (lives_any _ L0.types).mono ?_; rintro e W1 ⟨rfl, x⟩; replace L0 := L0.go x; have b2 := L0.ext.cell a2; clear x))
      go_ret
      exact ⟨rfl, x0.trans L0.ext⟩
  · have hl1 : L.length ≤ 80 := by omega
    have hs1 : s.size ≤ 1000 := by omega
    clear hbig
    go_enter Tryd.func5, Tryd.ntmps5
    go_upto_region 1 with fail
    refine wp_abs (fun W => Ext w W ∧ W.cell? ⟨w.heap.size, 0, none⟩ = some (.int .i64 p) ∧ W.cell? ⟨w.heap.size, 1, none⟩ = some (.int .i64 t) ∧ W.cell? ⟨w.heap.size, 2, none⟩ = some (.string s)) ⟨ext_box _ _, new_cell (Ext.refl _) 0, new_cell (Ext.refl _) 1, new_cell (Ext.refl _) 2⟩ ?_
    rintro W0 ⟨x0, a0, a1, a2⟩
    have HA0 := Lib.hid a0
    have HA1 := Lib.hid a1
    have HA2 := Lib.hid a2
    clear a0 a1 a2
    go_upto_region 4 with (first | (go_at_call 8; refine (lvNew _ (HT.out.ext x0)).mono ?_; rintro e W ⟨tb, m1, m2, rfl, L0⟩) | (go_at_call 10; refine (lives_any _ L0.types).mono ?_; rintro e W1 ⟨rfl, x⟩; replace L0 := L0.go x; have b2 := L0.ext.cell HA2.out; clear x))
    clear b2
    go_wp2_with fail
    go_loopw [6] (fun i wr => ∃ (k : Nat) (I Q : List OpV), k ≤ L.length ∧ i = .int .i64 k ∧ LvAt W0 wr tb m1 m2 I Q ∧ Inv I Q) (fun i _ => L.length - (intOf i).toNat)
    case atStart => exact ⟨0, initI, initQ, Nat.zero_le _, rfl, L0, inv_init⟩
    case round =>
      clear L0
      obtain ⟨k, I, Q, hk, rfl, L0, hinv⟩ := hrel
      by_cases hlt : k < L.length
      · obtain ⟨b, off, rfl, d0, d1, d2⟩ := src_op (H1.out.ext (x0.trans L0.ext)) hlt
        go_wp2_with (go_at_call 24; refine (lvSetE L0 hinv _ _ _).mono ?_; rintro e W4 ⟨rfl, L1, k1⟩)
        go_roundw
        case rel => exact ⟨k + 1, _, _, hlt, by go_num, L1, hinv.next _⟩
        case measure => simp [intOf]; omega
      · obtain rfl : k = L.length := by omega
        go_upto_region 9 with (go_at_call 12; refine (lvAllM L0 hinv).mono ?_; rintro e W3 ⟨A1, c1, M, rfl, q1, s1, o1, z1, x⟩; replace L0 := L0.go x; clear x)
        have HQ1 := Lib.hid q1
        have HS1 := Lib.hid s1
        have HO1 := Lib.hid o1
        have b0 := L0.ext.cell HA0.out
        have b1 := L0.ext.cell HA1.out
        have b2 := L0.ext.cell HA2.out
        clear q1 s1 o1
        go_upto_region 10 with (go_at_call 24; refine (lvSetE L0 hinv _ _ _).mono ?_; rintro e W4 ⟨rfl, L1, k1⟩; clear b0 b1 b2 L0)
        go_upto_region 11 with (go_at_call 12; refine (lvAllM L1 (hinv.next _)).mono ?_; rintro e W5 ⟨A2, c2, N, rfl, q2, s2, o2, z2, x⟩; replace L1 := L1.go x; have k2 := k1.trans (Kept.ext x); clear x k1)
        have HO1' := Lib.hid (src_kept HO1.out k2)
        have HO2 := Lib.hid o2
        clear HO1 o2 k2
        by_cases he : errT ⟨p, t, s⟩ I Q = 0
        · have hl := sets_law hinv ⟨p, t, s⟩ he q2 HQ1.out s2 HS1.out
          have he' : (errT ⟨p, t, s⟩ I Q != 0) = false := by rw [he]; rfl
          have HL := Lib.hid hl
          clear hl he q2 s2 HQ1 HS1
          generalize errT ⟨p, t, s⟩ I Q = er at he'
          go_wp2_with fail
          obtain ⟨wo, rfl⟩ : ∃ wo : World, wo = wr := ⟨_, rfl⟩
          go_loopw [10, 11] (fun v i wr => ∃ k : Nat, k ≤ N.length ∧ i = .int .i64 k ∧ Hid (Gath W5 wr v ((N.take k).filter (neO ⟨p, t, s⟩)))) (fun _ i _ => N.length - (intOf i).toNat)
          case atStart => exact ⟨0, Nat.zero_le _, rfl, Gath.start _⟩
          case round =>
            obtain ⟨k, hk, rfl, HG⟩ := hrel
            by_cases hlt : k < N.length
            · obtain ⟨b, off, rfl, d0, d1, d2⟩ := src_op (HO2.out.ext HG.out.ext) hlt
              have ho : N[k]? = some N[k] := List.getElem?_eq_getElem hlt
              generalize N[k] = x at ho d0 d1 d2
              have HF := Lib.hid (filter_take (p := neO ⟨p, t, s⟩) ho)
              have y0 := L1.ext.trans HG.out.ext
              have b0 := y0.cell HA0.out
              have b1 := y0.cell HA1.out
              have b2 := y0.cell HA2.out
              clear ho y0
              rcases neO_cases x ⟨p, t, s⟩ with ⟨rfl, hn⟩ | ⟨hn, hd⟩
              · have HN := Lib.hid hn
                clear hn
                go_wp2_with fail
                go_quiet (fail)
                go_wp2_with fail
                go_roundw
                case rel => exact ⟨k + 1, hlt, by go_num, by rw [HF.out, HN.out]; simp only [Bool.false_eq_true, if_false, List.append_nil]; exact Lib.hid (HG.out.go ((Ext.refl _).drewN _))⟩
                case measure => simp [intOf]; omega
              · have HN := Lib.hid hn
                clear hn
                generalize hFF : (N.take k).filter (neO ⟨p, t, s⟩) = FF at HG HF
                have hFl : FF.length ≤ 64 := by
                  have : ((N.take k).filter (neO ⟨p, t, s⟩)).length ≤ N.length := Nat.le_trans (List.length_filter_le _ _) (by rw [List.length_take]; omega)
                  rw [hFF] at this
                  omega
                clear hFF
                obtain ⟨x1, x2, x3⟩ := x
                dsimp only at d0 d1 d2 hd
                have hown := own_value HG.out.own
                obtain ⟨A3, c3, rfl⟩ := hown
                rcases hd with hd | ⟨rfl, hd⟩ | ⟨rfl, rfl, hd⟩
                all_goals
                  go_upto_region 17 with fail
                  go_quiet (fail)
                  go_upto_region 18 with fail
                  refine wp_abs (fun V => Ext wr V ∧ V.cell? ⟨b, off + k * 3, none⟩ = some (.int .i64 _) ∧ V.cell? ⟨b, off + k * 3 + 1, none⟩ = some (.int .i64 _) ∧ V.cell? ⟨b, off + k * 3 + 2, none⟩ = some (.string _)) ⟨(Ext.refl _).drewN _, d0, d1, d2⟩ ?_
                  clear d0 d1 d2 b0 b1 b2
                  rintro V ⟨y, d0, d1, d2⟩
                  go_wp2_with (at_builtin; refine wpList_append_src (P := Tryd.prog) rfl _ _ 29 rfl 32 i0 _ 3 32 Tryd.underlying29 hi0 hz0 hz1 hz2 rfl (by omega) _ rfl _ _ _ rfl FF.length (flat opCells FF) (own_ext HG.out.own (y.alloc _)) (opCells ⟨_, _, _⟩) (El.Src.new _ #[.int .i64 _, .int .i64 _, .string _] _ 1 3 rfl) (opCells_one _) (by unfold maxLen; omega) (by omega) ?_; intro v3 w3 ho3 hm3 hb3; have hG3 := Lib.hid (Gath.step HG.out (y.alloc _) ho3 hm3 hb3); clear ho3 hm3 hb3)
                  go_roundw
                  case rel => exact ⟨k + 1, hlt, by go_num, by rw [HF.out, HN.out]; exact hG3⟩
                  case measure => simp [intOf]; omega
            · obtain rfl : k = N.length := by omega
              rw [List.take_length] at HG
              have HLf := Lib.hid HG.out.slice
              have hx5 := HG.out.ext
              clear HG hk hlt
              go_wp2_with fail
              obtain ⟨wq, rfl⟩ : ∃ wq : World, wq = wr := ⟨_, rfl⟩
              go_loopw [12, 13] (fun v i wr => ∃ k : Nat, k ≤ M.length ∧ i = .int .i64 k ∧ Hid (Gath wq wr v ((M.take k).filter (nK ⟨p, t, s⟩)))) (fun _ i _ => M.length - (intOf i).toNat)
              case atStart => exact ⟨0, Nat.zero_le _, rfl, Gath.start _⟩
              case round =>
                obtain ⟨k, hk, rfl, HG⟩ := hrel
                by_cases hlt : k < M.length
                · obtain ⟨b, off, rfl, d0, d1, d2⟩ := src_op (HO1'.out.ext (hx5.trans HG.out.ext)) hlt
                  have ho : M[k]? = some M[k] := List.getElem?_eq_getElem hlt
                  generalize M[k] = x at ho d0 d1 d2
                  have HF := Lib.hid (filter_take (p := nK ⟨p, t, s⟩) ho)
                  have y0 := (L1.ext.trans hx5).trans HG.out.ext
                  have b0 := y0.cell HA0.out
                  have b1 := y0.cell HA1.out
                  have b2 := y0.cell HA2.out
                  clear ho y0
                  generalize hFF : (M.take k).filter (nK ⟨p, t, s⟩) = FF at HG HF
                  have hFl : FF.length ≤ 64 := by
                    have : ((M.take k).filter (nK ⟨p, t, s⟩)).length ≤ M.length := Nat.le_trans (List.length_filter_le _ _) (by rw [List.length_take]; omega)
                    rw [hFF] at this
                    omega
                  clear hFF
                  obtain ⟨x1, x2, x3⟩ := x
                  dsimp only at d0 d1 d2
                  have hown := own_value HG.out.own
                  obtain ⟨A3, c3, rfl⟩ := hown
                  by_cases hs : x3 = s
                  · subst hs
                    rcases pre_cases x2 with ⟨g1, g2⟩ | ⟨g0, g1, g2⟩ | ⟨g0, g1, g2⟩ <;> rcases pre_cases t with ⟨r1, r2⟩ | ⟨r0, r1, r2⟩ | ⟨r0, r1, r2⟩
                    all_goals
                      first
                        | (have hn : nK ⟨p, t, x3⟩ ⟨x1, x2, x3⟩ = false := by simp [nK, isK, g2, r2]
                           have HN := Lib.hid hn
                           clear hn g2 r2
                           go_upto_region 24 with fail
                           go_quiet (fail)
                           go_wp2_with fail
                           go_roundw
                           case rel => exact ⟨k + 1, hlt, by go_num, by rw [HF.out, HN.out]; simp only [Bool.false_eq_true, if_false, List.append_nil]; exact Lib.hid (HG.out.go ((Ext.refl _).drewN _))⟩
                           case measure => simp [intOf]; omega)
                        | (have hn : nK ⟨p, t, x3⟩ ⟨x1, x2, x3⟩ = true := by simp [nK, isK, g2, r2]
                           have HN := Lib.hid hn
                           clear hn g2 r2
                           go_upto_region 24 with fail
                           go_quiet (fail)
                           go_upto_region 25 with fail
                           refine wp_abs (fun V => Ext wr V ∧ V.cell? ⟨b, off + k * 3, none⟩ = some (.int .i64 _) ∧ V.cell? ⟨b, off + k * 3 + 1, none⟩ = some (.int .i64 _) ∧ V.cell? ⟨b, off + k * 3 + 2, none⟩ = some (.string _)) ⟨(Ext.refl _).drewN _, d0, d1, d2⟩ ?_
                           clear d0 d1 d2 b0 b1 b2
                           rintro V ⟨y, d0, d1, d2⟩
                           go_wp2_with (at_builtin; refine wpList_append_src (P := Tryd.prog) rfl _ _ 29 rfl 32 i0 _ 3 32 Tryd.underlying29 hi0 hz0 hz1 hz2 rfl (by omega) _ rfl _ _ _ rfl FF.length (flat opCells FF) (own_ext HG.out.own (y.alloc _)) (opCells ⟨_, _, _⟩) (El.Src.new _ #[.int .i64 _, .int .i64 _, .string _] _ 1 3 rfl) (opCells_one _) (by unfold maxLen; omega) (by omega) ?_; intro v3 w3 ho3 hm3 hb3; have hG3 := Lib.hid (Gath.step HG.out (y.alloc _) ho3 hm3 hb3); clear ho3 hm3 hb3)
                           go_roundw
                           case rel => exact ⟨k + 1, hlt, by go_num, by rw [HF.out, HN.out]; exact hG3⟩
                           case measure => simp [intOf]; omega)
                  · have e1 := isR_bne hs
                    have e2 : (x3.toList != s.toList) = true := by rw [bne, e1]; rfl
                    have HN := Lib.hid (show nK ⟨p, t, s⟩ ⟨x1, x2, x3⟩ = true by simp [nK, isK, hs])
                    clear hs
                    rcases pre_cases x2 with ⟨g1, g2⟩ | ⟨g0, g1, g2⟩ | ⟨g0, g1, g2⟩
                    all_goals
                      clear g2
                      go_upto_region 24 with fail
                      go_quiet (fail)
                      go_upto_region 25 with fail
                      refine wp_abs (fun V => Ext wr V ∧ V.cell? ⟨b, off + k * 3, none⟩ = some (.int .i64 _) ∧ V.cell? ⟨b, off + k * 3 + 1, none⟩ = some (.int .i64 _) ∧ V.cell? ⟨b, off + k * 3 + 2, none⟩ = some (.string _)) ⟨(Ext.refl _).drewN _, d0, d1, d2⟩ ?_
                      clear d0 d1 d2 b0 b1 b2
                      rintro V ⟨y, d0, d1, d2⟩
                      go_wp2_with (at_builtin; refine wpList_append_src (P := Tryd.prog) rfl _ _ 29 rfl 32 i0 _ 3 32 Tryd.underlying29 hi0 hz0 hz1 hz2 rfl (by omega) _ rfl _ _ _ rfl FF.length (flat opCells FF) (own_ext HG.out.own (y.alloc _)) (opCells ⟨_, _, _⟩) (El.Src.new _ #[.int .i64 _, .int .i64 _, .string _] _ 1 3 rfl) (opCells_one _) (by unfold maxLen; omega) (by omega) ?_; intro v3 w3 ho3 hm3 hb3; have hG3 := Lib.hid (Gath.step HG.out (y.alloc _) ho3 hm3 hb3); clear ho3 hm3 hb3)
                      go_roundw
                      case rel => exact ⟨k + 1, hlt, by go_num, by rw [HF.out, HN.out]; exact hG3⟩
                      case measure => simp [intOf]; omega
                · obtain rfl : k = M.length := by omega
                  rw [List.take_length] at HG
                  obtain ⟨f1, f2⟩ := HL.out
                  have hl := HLf.out.ext HG.out.ext
                  rw [f1] at hl
                  generalize hFF : M.filter (nK ⟨p, t, s⟩) = FF at HG hl f2
                  have hFl : FF.length ≤ 64 := by
                    have : (M.filter (nK ⟨p, t, s⟩)).length ≤ M.length := List.length_filter_le _ _
                    rw [hFF] at this
                    omega
                  have y0 := (L1.ext.trans hx5).trans HG.out.ext
                  have b0 := y0.cell HA0.out
                  have HLl := Lib.hid hl
                  have HR := Lib.hid HG.out.slice
                  have hown := own_value HG.out.own
                  obtain ⟨A3, c3, rfl⟩ := hown
                  clear hFF f1 hl HG HL HLf
                  by_cases hp : p = 0
                  · have hp' : (p == 0) = true := by simpa using hp
                    clear f2 hp
                    go_wp2_with (go_at_call 11; refine (fkSame _ _ _ _ HLl.out HR.out hFl).mono ?_; rintro e W6 ⟨rfl, x⟩; replace b0 := x.cell b0; replace y0 := y0.trans x; clear x)
                    go_ret
                    exact ⟨rfl, x0.trans y0⟩
                  · have hp' : (p == 0) = false := by simpa using hp
                    have hq : ((N.length : Int) == ((FF.length : Int) + 1)) = true := by
                      have : N.length = FF.length + 1 := f2.resolve_left hp
                      simp [this]
                    clear f2 hp
                    go_wp2_with (go_at_call 11; refine (fkSame _ _ _ _ HLl.out HR.out hFl).mono ?_; rintro e W6 ⟨rfl, x⟩; replace b0 := x.cell b0; replace y0 := y0.trans x; clear x)
                    go_ret
                    exact ⟨rfl, x0.trans y0⟩
        · have hsame := sets_same hinv ⟨p, t, s⟩ he q2 HQ1.out s2 HS1.out
          have he' : (errT ⟨p, t, s⟩ I Q != 0) = true := by simpa using he
          clear he q2 s2 HQ1 HS1
          subst hsame
          go_wp2_with (go_at_call 11; refine (fkSame _ _ _ _ ⟨A1, c1, rfl, HO1'.out⟩ ⟨A2, c2, rfl, HO2.out⟩ z1).mono ?_; rintro e W6 ⟨rfl, x⟩)
          go_ret
          exact ⟨rfl, (x0.trans L1.ext).trans x⟩

end Go.Proofs.YtckkbghmiomfiaaDoor
