/- Layer 11, the program: the walk of term where no operator writes it; its contract for all terms that may be. -/
import Derived.Test.YtnedihbffiddpaaGreatDoorW24
namespace Go.Proofs.YtnedihbffiddpaaGreatDoor
open Go.RowKit Go.El

theorem szT_eq (t : Tm) : szT t = 1 + szL t.l := by cases t; rfl
theorem okT_parts {t : Tm} (h : okT t = true) : partK t.k t.n t.s t.l.length = true ∧ okL t.l = true := by
  cases t with
  | mk k n s l =>
    simp only [okT, Bool.and_eq_true] at h
    exact h
theorem part_kind {k n : Int} {s : ByteArray} {m : Nat} (h : partK k n s m = true) : k = 1 ∨ k = 2 ∨ k = 3 ∨ k = 4 := by
  unfold partK at h
  by_cases h1 : k = 1
  · exact .inl h1
  · by_cases h2 : k = 2
    · exact .inr (.inl h2)
    · by_cases h3 : k = 3
      · exact .inr (.inr (.inl h3))
      · by_cases h4 : k = 4
        · exact .inr (.inr (.inr h4))
        · simp [h1, h2, h3, h4] at h

set_option maxRecDepth 100000 in
set_option maxHeartbeats 8000000 in
theorem term_def (N : Nat) (IH : TermC N) (t : Tm) (hN : szT t ≤ N + 1) (hm : mayT t = true) (hk : t.k = 4) (hls : isLs t.k t.s t.l.length = false) (base : Nat) (w : World) (b : Nat) (v : Value) (F : List UInt8) (o : OpsV) (op : Value) (most : Int) (hX : o.bind (fun q => operF q.1 q.2 t.k t.s t.l most (a0T o t.l) (a1T o t.l)) = none) (A : Option Addr) (c : Nat) (h : WrSt base w b v F o op) (he : EnvIn w b v) (ht : TmIn (Clr w b v) w t A c) (hl : F.length + 400 * szT t ≤ 800000000) :
    Calls Tryz.prog 26 #[.pointer (some ⟨b, 0, none⟩), tmVal t A c, .int .i64 most] w fun e w' => e = .returned (.tuple #[]) ∧ WrPost base w b v F (txT o t most) o op w' := by
  have hx := ext_box w (.cells #[.int .i64 t.k, .int .i64 t.n, .string t.s, .slice A t.l.length c] 27)
  have HO := Lib.hid ((operated_all N IH t hN hm base _ b v F o op most A c (h.go hx) (he.step (WStep.ext hx)) ((WStep.ext hx).tm ht) hl).mono (R' := fun e w' => e = .returned (.bool false) ∧ Ext (w.alloc (.cells #[.int .i64 t.k, .int .i64 t.n, .string t.s, .slice A t.l.length c] 27)) w') (fun e w' hh => by
    rcases hh with ⟨Y, hY, _, _⟩ | ⟨_, he, hp⟩
    · rw [hX] at hY
      cases hY
    · exact ⟨he, hp⟩))
  have htx := tx_comp (most := most) (o := o) hk hls
  rw [hX] at htx
  have htx2 : txT o t most = quoF t.s.data.toList ++ [40] ++ rwT o t.l ++ [41] := htx
  rw [htx2]
  obtain ⟨hpk, hokl⟩ := okT_parts (mayT_iff.1 hm).1
  have hs64 : t.s.size ≤ 64 := (part_bd hpk).2.2
  have hq := quoF_le t.s.data.toList
  have hqe : t.s.data.toList.length = t.s.size := by simp
  have hsz := szT_eq t
  have hrow : ∀ (j : Nat) (u : Tm), t.l[j]? = some u → szT u ≤ N ∧ mayT u = true := fun j u hj => ⟨by have := szT_lt hj; omega, mayT_get hm hj⟩
  have hrl := rwT_le o t.l hokl
  have HRT := Lib.hid (rwT_take_le o t.l hokl)
  have HROW := Lib.hid hrow
  clear hrow
  have HQ := fun W (x : Ext w W) => Lib.hid (quoteF_any t.s.data.toList W (by omega) (TzAt.ext he.env.tz x))
  rw [strB_mk] at HQ
  have hqs := strB_size (quoF t.s.data.toList)
  have hqd := strB_toList (quoF t.s.data.toList)
  have hq2 : ((t.s.toList == [46]) = false) ∨ ((t.s.toList == [46]) = true ∧ ((t.l.length : Int) == 2) = false) := by
    by_cases hs : t.s.data.toList = [46]
    · right
      refine ⟨by rw [ByteArray.toList_eq]; simpa using hs, ?_⟩
      have := of_decide_eq_false hls
      simpa using (show ¬ (t.l.length : Int) = 2 from fun e => this ⟨hk, hs, by omega⟩)
    · exact .inl (lit_ne hs)
  have HT := Lib.hid ht
  have H := Lib.hid h
  have HE := Lib.hid he
  unfold tmVal at HO ⊢
  rw [hk] at HO hx ⊢
  generalize strB (quoF t.s.data.toList) = qs at *
  generalize hQL : quoF t.s.data.toList = QL at *
  generalize t.n = n at *
  generalize hS : t.s = s at *
  clear h he ht hls hm hN htx htx2 hX hk hQL hS hpk
  have hbig : ¬ 9223372036854775807 < QL.length + 1 := by omega
  have HB := fun (W : World) (x : Ext (w.alloc (.cells #[.int .i64 4, .int .i64 n, .string s, .slice A t.l.length c] 27)) W) => Lib.hid ((Blk.new w 27 #[.int .i64 4, .int .i64 n, .string s, .slice A t.l.length c]).ext x)
  rcases hq2 with s2 | ⟨s2, q2⟩
  all_goals
    go_enter Tryz.func26, Tryz.ntmps26
    go_upto_region 1 with (go_at_call 46; refine HO.out.mono ?_; rintro e V ⟨rfl, hv⟩; have H4 := HB V hv; have HV := Lib.hid (hx.trans hv); clear hv)
    have z2 : V.cell? ⟨w.heap.size, 2, none⟩ = some (.string s) := H4.out.cell 2
    go_region_law ((first | (go_simp; go_at_call 44; refine (HQ _ (HV.out.drew)).out.mono ?_; rintro e V2 ⟨rfl, hx⟩; have HV2 := Lib.hid (HV.out.drew.trans hx); have H42 := Lib.hid ((H4.out.drewN 1).ext hx); clear hx) | (go_simp; go_at_call 25; refine (wrString (H.out.go HV2.out) _ (by rw [ByteArray.size_append, show (⟨#[40]⟩ : ByteArray).size = 1 from rfl]; omega)).mono ?_; rintro e V3 ⟨rfl, v3, h3, s3⟩; have H3 := Lib.hid h3; have S3 := Lib.hid ((WStep.ext (b := b) (v := v) HV2.out).trans s3); have H43 := Lib.hid (H42.out.mods s3.mods (new_clr H.out (Nat.le_refl _) H42.out.lt).no); clear h3 s3)))
    all_goals
      have x3 : V3.cell? ⟨w.heap.size, 3, none⟩ = some (.slice A t.l.length c) := H43.out.cell 3
      have HR := Lib.hid (row_any N IH t.l HROW.out base V3 b v3 _ o op A c H3.out (HE.out.step S3.out) (S3.out.tm HT.out).args (by rw [List.length_append, app_list]; simp; omega) HRT.out)
      go_wp2_with (first | (go_at_call 47; refine HR.out.mono ?_; rintro e V4 ⟨rfl, v4, h4, s4⟩; have H4' := Lib.hid h4; have S4 := Lib.hid (S3.out.trans s4); clear h4 s4) | (go_at_call 48; refine (wrByte H4'.out 41 (by rw [List.length_append, List.length_append, app_list]; simp; omega)).mono ?_; rintro e V5 ⟨rfl, v5, h5, s5⟩; have H5 := Lib.hid h5; have S5 := Lib.hid (S4.out.trans s5); clear h5 s5))
      go_end0
      refine ⟨rfl, v5, ?_, S5.out⟩
      have := H5.out
      rw [app_list, hqd] at this
      simpa using this

theorem term_step (N : Nat) (IH : TermC N) : TermC (N + 1) := by
  intro t hN hm base w b v F o op most A c h he ht hl h1 h2
  obtain ⟨hpk, _⟩ := okT_parts (mayT_iff.1 hm).1
  rcases part_kind hpk with hk | hk | hk | hk
  · exact term_var t hm hk base w b v F o op most A c h he hl
  · exact term_int t hm hk base w b v F o op most A c h he hl
  · exact term_atom t hm hk base w b v F o op most A c h he hl
  · cases hls : isLs t.k t.s t.l.length
    · cases hX : o.bind (fun q => operF q.1 q.2 t.k t.s t.l most (a0T o t.l) (a1T o t.l)) with
      | none => exact term_def N IH t hN hm hk hls base w b v F o op most hX A c h he ht hl
      | some X => exact term_op N IH t hN hm hk hls base w b v F o op most X hX A c h he ht hl
    · exact term_list N IH t hN hm hk hls base w b v F o op most A c h he ht hl
/-- What term does at any term that may be. -/
theorem term_all : ∀ N, TermC N
  | 0 => fun t h => by
    have := szT_pos t
    omega
  | N + 1 => term_step N (term_all N)

end Go.Proofs.YtnedihbffiddpaaGreatDoor
