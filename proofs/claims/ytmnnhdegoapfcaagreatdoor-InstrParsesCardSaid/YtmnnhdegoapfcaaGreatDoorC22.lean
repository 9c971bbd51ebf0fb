/- Layer 8, the program: the walk of escape. -/
import Derived.Test.YtmnnhdegoapfcaaGreatDoorC21
namespace Go.Proofs.YtmnnhdegoapfcaaGreatDoor
open Go.RowKit Go.El

/-- What escape hands back. -/
def escPV : Option (UInt8 × Nat) → Value
  | none => .tuple #[.int .u8 0, .bool false]
  | some (x, _) => .tuple #[.int .u8 (x.toNat : Int), .bool true]
/-- Where escape leaves the scanner. -/
def EscAt (w w' : World) (sb b off cap : Nat) (B : List UInt8) : Option (UInt8 × Nat) → Prop
  | none => ∃ k, ScIn w w' sb b off cap B k
  | some (_, j) => ScIn w w' sb b off cap B j
theorem code_any (sb b off cap : Nat) (B : List UInt8) (j : Nat) (w : World) (h : ScAt w sb b off cap B j) :
    Calls Tryz.prog 245 #[.pointer (some ⟨sb, 0, none⟩)] w fun e w' => e = .returned (escPV (codeS B j)) ∧ EscAt w w' sb b off cap B (codeS B j) := by
  cases hn : codeS B j with
  | none => exact code_no sb b off cap B j w h hn
  | some p => exact code_yes sb b off cap B j w h p.1 p.2 hn

theorem EscAt.then {w V w' : World} {sb b off cap : Nat} {B : List UInt8} {k : Nat} {r : Option (UInt8 × Nat)} (h : ScIn w V sb b off cap B k) (g : EscAt V w' sb b off cap B r) : EscAt w w' sb b off cap B r := by
  cases r with
  | none => obtain ⟨j, hj⟩ := g; exact ⟨j, h.then hj⟩
  | some p => exact ScIn.then h g

set_option maxRecDepth 100000 in
set_option maxHeartbeats 4000000 in
theorem escape_any (sb b off cap : Nat) (B : List UInt8) (i : Nat) (w : World) (h : ScAt w sb b off cap B i) :
    Calls Tryz.prog 233 #[.pointer (some ⟨sb, 0, none⟩)] w fun e w' => e = .returned (escPV (escS B i)) ∧ EscAt w w' sb b off cap B (escS B i) := by
  have d1 := h.c0
  have d2 := h.c1
  have hat := h.at_
  have hcp := h.cap
  have hlen := h.len
  have HS := Lib.hid (ScIn.start h)
  clear h
  by_cases hlt : i < B.length
  · have ho : B[i]? = some B[i] := List.getElem?_eq_getElem hlt
    generalize B[i] = c at ho
    have d0 := HS.out.sc.cells ho
    have hck : ¬ cap = i := by omega
    have HO := Lib.hid ho
    go_enter Tryz.func233, Tryz.ntmps233
    go_upto_region 1 with fail
    go_quiet (fail)
    go_upto_region 3 with fail
    refine wp_abs (fun V => ScIn w V sb b off cap B i) (HS.out.drewN _) ?_
    clear d0 d1 d2 HS
    rintro V hV
    have d1 := hV.sc.c0
    have d2 := hV.sc.c1
    have d0 := hV.sc.cells ho
    have HS := Lib.hid hV
    clear hV
    go_quiet (fail)
    go_upto_region 4 with fail
    refine wp_abs (fun V => ScIn w V sb b off cap B i) (HS.out.drewN _) ?_
    clear d0 d1 d2 HS
    rintro U hU
    have d1 := hU.sc.c0
    have d2 := hU.sc.c1
    have f2 := hU.sc.frozen
    have HS := Lib.hid (hU.to (j := i + 1) (v := (i : Int) + 1) hlt (by omega))
    clear hU
    by_cases h110 : c = 110
    · have q1 : ((c.toNat : Int) == (110 : Int)) = true := by rw [h110]; rfl
      have HN := Lib.hid (show escS B i = some (10, i + 1) from by subst h110; exact escS_n HO.out)
      clear ho h110
      go_wp2_with fail
      go_ret2
      refine ⟨?_, ?_⟩
      · rw [HN.out]; rfl
      · rw [HN.out]; exact HS.out
    have q1 := u8_ne' (c := c) (n := 110) (z := 110) rfl (by omega) h110
    by_cases h116 : c = 116
    · have q2 : ((c.toNat : Int) == (116 : Int)) = true := by rw [h116]; rfl
      have HN := Lib.hid (show escS B i = some (9, i + 1) from by subst h116; exact escS_t HO.out)
      clear ho h116 h110
      go_wp2_with fail
      go_ret2
      refine ⟨?_, ?_⟩
      · rw [HN.out]; rfl
      · rw [HN.out]; exact HS.out
    have q2 := u8_ne' (c := c) (n := 116) (z := 116) rfl (by omega) h116
    by_cases h120 : c = 120
    · have q3 : ((c.toNat : Int) == (120 : Int)) = true := by rw [h120]; rfl
      have HN := Lib.hid (show escS B i = codeS B (i + 1) from by subst h120; exact escS_code HO.out)
      have HC := Lib.hid (code_any sb b off cap B (i + 1) _ HS.out.sc)
      cases hcd : codeS B (i + 1) with
      | none =>
        rw [hcd] at HN HC
        clear ho h110 h116 h120 hcd
        go_wp2_with (go_at_call 245; refine HC.out.mono ?_; simp only [escPV]; rintro e1 w3 ⟨rfl, ht⟩; have HT := Lib.hid (EscAt.then HS.out ht); clear ht)
        go_ret2
        exact ⟨by rw [HN.out]; rfl, by rw [HN.out]; exact HT.out⟩
      | some p =>
        obtain ⟨x, j⟩ := p
        rw [hcd] at HN HC
        clear ho h110 h116 h120 hcd
        go_wp2_with (go_at_call 245; refine HC.out.mono ?_; simp only [escPV]; rintro e1 w3 ⟨rfl, ht⟩; have HT := Lib.hid (EscAt.then HS.out ht); clear ht)
        go_ret2
        exact ⟨by rw [HN.out]; rfl, by rw [HN.out]; exact HT.out⟩
    have q3 := u8_ne' (c := c) (n := 120) (z := 120) rfl (by omega) h120
    by_cases h92 : c = 92
    · have q4 : ((c.toNat : Int) == (92 : Int)) = true := by rw [h92]; rfl
      have HN := Lib.hid (escS_self HO.out (.inl h92))
      clear ho h116 h110 h120 h92
      go_wp2_with fail
      go_ret2
      refine ⟨?_, ?_⟩
      · rw [HN.out]; rfl
      · rw [HN.out]; exact HS.out
    have q4 := u8_ne' (c := c) (n := 92) (z := 92) rfl (by omega) h92
    by_cases h39 : c = 39
    · have q5 : ((c.toNat : Int) == (39 : Int)) = true := by rw [h39]; rfl
      have HN := Lib.hid (escS_self HO.out (.inr h39))
      clear ho h116 h110 h120 h92 h39
      go_wp2_with fail
      go_ret2
      refine ⟨?_, ?_⟩
      · rw [HN.out]; rfl
      · rw [HN.out]; exact HS.out
    have q5 := u8_ne' (c := c) (n := 39) (z := 39) rfl (by omega) h39
    have HN := Lib.hid (escS_no HO.out h92 h39 h110 h116 h120)
    clear ho h116 h110 h120 h92 h39
    go_wp2_with fail
    go_ret2
    exact ⟨by rw [HN.out]; rfl, by rw [HN.out]; exact ⟨_, HS.out⟩⟩
  · have hi : i = B.length := by omega
    have HN := Lib.hid (escS_end (List.getElem?_eq_none (l := B) (i := i) (by omega)))
    subst hi
    go_enter Tryz.func233, Tryz.ntmps233
    go_upto_region 1 with fail
    go_quiet (fail)
    go_wp2_with fail
    go_ret2
    exact ⟨by rw [HN.out]; rfl, by rw [HN.out]; exact ⟨_, HS.out.drewN _⟩⟩

end Go.Proofs.YtmnnhdegoapfcaaGreatDoor

/- Layer 8, the program: the walk of quoted. -/
namespace Go.Proofs.YtmnnhdegoapfcaaGreatDoor
open Go.RowKit Go.El

/-- A scanner and the bytes that a call has gathered. -/
structure QuAt (w wr : World) (sb b off cap : Nat) (B : List UInt8) (k : Nat) (v : Value) (F : List UInt8) : Prop where
  sc : ScIn w wr sb b off cap B k
  own : wr.ownsRow 0 5 1 v F.length (F.map u8V)
  far : ∀ x, v.ownBlock = some x → w.heap.size ≤ x
  ls : sb < w.heap.size
  lb : b < w.heap.size
  lm : 1 < w.heap.size
  le : 3 < w.heap.size
theorem QuAt.start {w wr : World} {sb b off cap : Nat} {B : List UInt8} {k : Nat} (h : ScIn w wr sb b off cap B k) (ls : sb < w.heap.size) (lb : b < w.heap.size) (lm : 1 < w.heap.size) (le : 3 < w.heap.size) : QuAt w wr sb b off cap B k (.slice none 0 0) [] :=
  ⟨h, World.ownsRow_nil _ _ _ _, fun x hx => by simp [Value.ownBlock] at hx, ls, lb, lm, le⟩
theorem QuAt.go {w wr V : World} {sb b off cap : Nat} {B : List UInt8} {k : Nat} {v : Value} {F : List UInt8} (h : QuAt w wr sb b off cap B k v F) (x : Ext wr V) : QuAt w V sb b off cap B k v F :=
  ⟨h.sc.go x, own_ext h.own x, h.far, h.ls, h.lb, h.lm, h.le⟩
theorem QuAt.in_ {w wr V : World} {sb b off cap : Nat} {B : List UInt8} {k j : Nat} {v : Value} {F : List UInt8} (h : QuAt w wr sb b off cap B k v F) (g : ScIn wr V sb b off cap B j) : QuAt w V sb b off cap B j v F :=
  ⟨h.sc.then g, own_mods h.own g.mods (fun x hx hm => by
    rw [List.mem_singleton] at hm
    have := h.far x hx
    have := h.ls
    omega), h.far, h.ls, h.lb, h.lm, h.le⟩
theorem QuAt.to {w wr : World} {sb b off cap : Nat} {B : List UInt8} {k : Nat} {v : Value} {F : List UInt8} (h : QuAt w wr sb b off cap B k v F) {j : Nat} {n : Int} (hj : j ≤ B.length) (hv : n = (j : Int)) : QuAt w (wr.setCell ⟨sb, 1, none⟩ (.int .i64 n)) sb b off cap B j v F :=
  h.in_ ((ScIn.start h.sc.sc).to hj hv)
theorem ScAt.far {w w' : World} {sb b off cap : Nat} {B : List UInt8} {i : Nat} {S : List Nat} (h : ScAt w sb b off cap B i) (hm : Mods S w w') (h1 : sb ∉ S) (h2 : b ∉ S) (h3 : 1 ∉ S) (h4 : 3 ∉ S) : ScAt w' sb b off cap B i :=
  ⟨h.blk.mods hm h1, El.Src.mods h.src hm (fun a ha => by injection ha with ha; subst ha; exact h2), h.ne, h.len, h.cap, h.at_, h.glob.mods hm h3 h4, h.n1, h.n2⟩
theorem QuAt.step {w wr V w' : World} {sb b off cap : Nat} {B : List UInt8} {k : Nat} {v v' : Value} {F : List UInt8} {G : List UInt8} (h : QuAt w wr sb b off cap B k v F) (x : Ext wr V) (ho : w'.ownsRow 0 5 1 v' (F.length + G.length) (F.map u8V ++ G.map u8V)) (hm : Mods (ownL v) V w') (hb : v'.ownBlock = v.ownBlock ∨ v'.ownBlock = some V.heap.size) : QuAt w w' sb b off cap B k v' (F ++ G) := by
  have hg := h.go x
  have hno : ∀ y, y < w.heap.size → y ∉ ownL v := fun y hy hm => by have := h.far y (mem_ownL hm); omega
  have hwV : w.heap.size ≤ V.heap.size := hg.sc.mods.size
  refine ⟨⟨hg.sc.sc.far hm (hno _ h.ls) (hno _ h.lb) (hno _ h.lm) (hno _ h.le), Mods.step hg.sc.mods hm (fun y hy => .inr (h.far y (mem_ownL hy)))⟩, ?_, fun y hy => ?_, h.ls, h.lb, h.lm, h.le⟩
  · rw [List.map_append, List.length_append]
    exact ho
  · rcases hb with e | e
    · exact h.far y (e.symm.trans hy)
    · rw [e] at hy
      injection hy with hy
      omega
theorem QuAt.slice {w wr : World} {sb b off cap : Nat} {B : List UInt8} {k : Nat} {v : Value} {F : List UInt8} (h : QuAt w wr sb b off cap B k v F) : ∃ A c, v = .slice A F.length c ∧ BytesAt wr A F := by
  obtain ⟨A, c, rfl⟩ := own_value h.own
  exact ⟨A, c, rfl, El.Src.of_own h.own⟩

/-- What quoted hands back. -/
def quoPV : Option (List UInt8 × Nat) → Value
  | none => .tuple #[.string ⟨#[]⟩, .bool false]
  | some (s, _) => .tuple #[.string (strB s), .bool true]
/-- Where quoted leaves the scanner. -/
def QuoIn (w w' : World) (sb b off cap : Nat) (B : List UInt8) : Option (List UInt8 × Nat) → Prop
  | none => ∃ k, ScIn w w' sb b off cap B k
  | some (_, j) => ScIn w w' sb b off cap B j
theorem esc_no {sb b off cap : Nat} {B : List UInt8} {i : Nat} {w : World} (h : ScAt w sb b off cap B i) (hn : escS B i = none) :
    Calls Tryz.prog 233 #[.pointer (some ⟨sb, 0, none⟩)] w fun e w' => e = .returned (.tuple #[.int .u8 0, .bool false]) ∧ ∃ k, ScIn w w' sb b off cap B k := by
  have := escape_any sb b off cap B i w h
  rw [hn] at this
  exact this
theorem esc_yes {sb b off cap : Nat} {B : List UInt8} {i : Nat} {w : World} (h : ScAt w sb b off cap B i) {x : UInt8} {j : Nat} (hn : escS B i = some (x, j)) :
    Calls Tryz.prog 233 #[.pointer (some ⟨sb, 0, none⟩)] w fun e w' => e = .returned (.tuple #[.int .u8 (x.toNat : Int), .bool true]) ∧ ScIn w w' sb b off cap B j := by
  have := escape_any sb b off cap B i w h
  rw [hn] at this
  exact this

set_option maxRecDepth 100000 in
set_option maxHeartbeats 8000000 in
theorem quoted_any (sb b off cap : Nat) (B : List UInt8) (i0 : Nat) (w : World) (h : ScAt w sb b off cap B i0) (hi : i0 < B.length) (ls : sb < w.heap.size) (lb : b < w.heap.size) (lm : 1 < w.heap.size) (le : 3 < w.heap.size) :
    Calls Tryz.prog 212 #[.pointer (some ⟨sb, 0, none⟩)] w fun e w' => e = .returned (quoPV (quoS B (i0 + 1) [])) ∧ QuoIn w w' sb b off cap B (quoS B (i0 + 1) []) := by
  obtain ⟨i1, hi1, hz0, hz1, hz2⟩ := infoP u8Info
  have d1 := h.c0
  have d2 := h.c1
  have f2 := h.frozen
  have hcp := h.cap
  have hlen := h.len
  have H0 := Lib.hid (QuAt.start ((ScIn.start h).to (j := i0 + 1) (v := (i0 : Int) + 1) hi (by omega)) ls lb lm le)
  clear h ls lb lm le
  go_enter Tryz.func212, Tryz.ntmps212
  go_wp2_with fail
  go_loopw [4] (fun v wr => ∃ k : Nat, ∃ acc : List UInt8, acc.length ≤ k ∧ Hid (QuAt w wr sb b off cap B k v acc) ∧ Hid (quoS B (i0 + 1) [] = quoS B k acc)) (fun _ wr => B.length - placeOf wr sb)
  case atStart => exact ⟨i0 + 1, [], Nat.zero_le _, H0.out, rfl⟩
  case round =>
    obtain ⟨k, acc, hak, HG, HS⟩ := hrel
    obtain ⟨A1, c1, rfl, _⟩ := HG.out.slice
    clear d1 d2 f2
    have d1 := HG.out.sc.sc.c0
    have d2 := HG.out.sc.sc.c1
    have hkl := HG.out.sc.sc.at_
    have hplace := place_at HG.out.sc.sc
    by_cases hlt : k < B.length
    · have ho : B[k]? = some B[k] := List.getElem?_eq_getElem hlt
      generalize B[k] = c at ho
      have d0 := HG.out.sc.sc.cells ho
      have hck : ¬ cap = k := by omega
      have HQ := Lib.hid (quoS_eq (acc := acc) ho)
      go_upto_region 3 with fail
      go_quiet (fail)
      go_upto_region 4 with fail
      refine wp_abs (fun V => QuAt w V sb b off cap B k (.slice A1 acc.length c1) acc) (HG.out.go ((Ext.refl _).drewN _)) ?_
      clear d0 d1 d2 HG
      rintro V hV
      have d1 := hV.sc.sc.c0
      have d2 := hV.sc.sc.c1
      have d0 := hV.sc.sc.cells ho
      have HG := Lib.hid hV
      clear hV
      go_quiet (fail)
      go_upto_region 5 with fail
      refine wp_abs (fun V => QuAt w V sb b off cap B k (.slice A1 acc.length c1) acc) (HG.out.go ((Ext.refl _).drewN _)) ?_
      clear d0 d1 d2 HG
      rintro U hU
      have d1 := hU.sc.sc.c0
      have d2 := hU.sc.sc.c1
      have f2 := hU.sc.sc.frozen
      have HU := Lib.hid (hU.to (j := k + 1) (n := (k : Int) + 1) hlt (by omega))
      clear hU
      by_cases h39 : c = 39
      · have q39 : ((c.toNat : Int) == (39 : Int)) = true := by rw [h39]; rfl
        subst h39
        have hpre := pre1 (B := B) (k := k + 1) 39
        go_upto_region 6 with fail
        refine wp_abs (fun V => QuAt w V sb b off cap B (k + 1) (.slice A1 acc.length c1) acc) HU.out ?_
        clear d1 d2 f2 HU
        rintro Y hY
        have HY := Lib.hid hY
        clear hY
        by_cases h2 : B[k + 1]? = some 39
        · have hk1 : k + 1 < B.length := (List.getElem?_eq_some_iff.1 h2).1
          rw [decide_eq_true h2] at hpre
          have HP := Lib.hid hpre
          have HN := Lib.hid (HS.out.trans (show quoS B k acc = quoS B (k + 2) (acc ++ [39]) from by rw [HQ.out, if_pos ⟨rfl, h2⟩]))
          clear h2 ho hpre
          go_upto_region 7 with (go_at_call 206; refine (starts_is HY.out.sc.sc [39] true HP.out).mono ?_; rintro e1 w2 ⟨rfl, hu⟩; have HU := Lib.hid (HY.out.go hu); clear hu)
          have d1 := HU.out.sc.sc.c0
          have d2 := HU.out.sc.sc.c1
          have f2 := HU.out.sc.sc.frozen
          have HT := Lib.hid (HU.out.to (j := k + 2) (n := (k : Int) + 1 + 1) hk1 (by omega))
          go_upto_region 17 with fail
          refine wp_abs (fun V => QuAt w V sb b off cap B (k + 2) (.slice A1 acc.length c1) acc) HT.out ?_
          clear d1 d2 f2 HT HU
          rintro Z hZ
          have HZ := Lib.hid hZ
          clear hZ
          go_wp2_with (at_builtin; refine wpList_append_src (P := Tryz.prog) rfl _ _ 61 rfl 5 i1 _ 1 1 Tryz.underlying61 hi1 hz0 hz1 hz2 rfl (by omega) _ rfl _ _ _ rfl acc.length (acc.map u8V) (own_ext HZ.out.own ((Ext.refl Z).alloc _)) [.int .u8 39] (El.Src.new _ #[.int .u8 39] _ 1 1 rfl) (u8_one [39]) (by unfold maxLen; omega) (by omega) ?_; intro v3 w3 ho3 hm3 hb3; have hG3 := Lib.hid (QuAt.step (G := [39]) HZ.out ((Ext.refl Z).alloc _) ho3 hm3 hb3); clear ho3 hm3 hb3)
          go_roundw
          case rel => exact ⟨k + 2, acc ++ [39], by simp; omega, hG3, HN.out⟩
          case measure =>
            have h2 := place_at hG3.out.sc.sc
            rw [h2, hplace]
            omega
        · rw [decide_eq_false h2] at hpre
          have HP := Lib.hid hpre
          have HN := Lib.hid (HS.out.trans (show quoS B k acc = some (acc, k + 1) from by rw [HQ.out, if_neg (fun h => h2 h.2), if_pos rfl]))
          clear h2 ho hpre
          go_upto_region 9 with (go_at_call 206; refine (starts_is HY.out.sc.sc [39] false HP.out).mono ?_; rintro e1 w2 ⟨rfl, hu⟩; have HU := Lib.hid (HY.out.go hu); clear hu)
          have hcv := conv_str c1 (El.Src.of_own HU.out.own)
          go_wp2_with fail
          go_ret2
          exact ⟨by rw [HN.out]; rfl, by rw [HN.out]; exact HU.out.sc⟩
      · have q39 := u8_ne' (c := c) (n := 39) (z := 39) rfl (by omega) h39
        by_cases h92 : c = 92
        · have q92 : ((c.toNat : Int) == (92 : Int)) = true := by rw [h92]; rfl
          subst h92
          go_upto_region 11 with fail
          refine wp_abs (fun V => QuAt w V sb b off cap B (k + 1) (.slice A1 acc.length c1) acc) HU.out ?_
          clear d1 d2 f2 HU
          rintro Y hY
          have HY := Lib.hid hY
          clear hY
          cases he : escS B (k + 1) with
          | none =>
            have HN := Lib.hid (HS.out.trans (show quoS B k acc = none from by rw [HQ.out, if_neg (fun h => absurd h.1 (by decide)), if_neg (by decide), if_pos rfl, he]))
            have HE := Lib.hid (esc_no HY.out.sc.sc he)
            clear ho he h39
            go_wp2_with (go_at_call 233; refine HE.out.mono ?_; rintro e w' ⟨rfl, j, hj⟩; have HJ := Lib.hid (HY.out.sc.then hj); clear hj)
            go_ret2
            exact ⟨by rw [HN.out]; rfl, by rw [HN.out]; exact ⟨_, HJ.out⟩⟩
          | some p =>
            obtain ⟨x, j⟩ := p
            have HN := Lib.hid (HS.out.trans (show quoS B k acc = quoS B j (acc ++ [x]) from by rw [HQ.out, if_neg (fun h => absurd h.1 (by decide)), if_neg (by decide), if_pos rfl, he]))
            have HE := Lib.hid (esc_yes HY.out.sc.sc he)
            obtain ⟨hj1, hj2⟩ := escS_bd he
            clear ho he h39
            go_upto_region 17 with (go_at_call 233; refine HE.out.mono ?_; rintro e w' ⟨rfl, hj⟩; have HJ := Lib.hid (HY.out.in_ hj); clear hj)
            refine wp_abs (fun V => QuAt w V sb b off cap B j (.slice A1 acc.length c1) acc) HJ.out ?_
            clear HJ
            rintro Z hZ
            have HZ := Lib.hid hZ
            clear hZ
            go_wp2_with (at_builtin; refine wpList_append_src (P := Tryz.prog) rfl _ _ 61 rfl 5 i1 _ 1 1 Tryz.underlying61 hi1 hz0 hz1 hz2 rfl (by omega) _ rfl _ _ _ rfl acc.length (acc.map u8V) (own_ext HZ.out.own ((Ext.refl Z).alloc _)) [.int .u8 (x.toNat : Int)] (El.Src.new _ #[.int .u8 (x.toNat : Int)] _ 1 1 rfl) (u8_one [x]) (by unfold maxLen; omega) (by omega) ?_; intro v3 w3 ho3 hm3 hb3; have hG3 := Lib.hid (QuAt.step (G := [x]) HZ.out ((Ext.refl Z).alloc _) ho3 hm3 hb3); clear ho3 hm3 hb3)
            go_roundw
            case rel => exact ⟨j, acc ++ [x], by simp; omega, hG3, HN.out⟩
            case measure =>
              have h2 := place_at hG3.out.sc.sc
              rw [h2, hplace]
              omega
        · have q92 := u8_ne' (c := c) (n := 92) (z := 92) rfl (by omega) h92
          have hcl := c.toNat_lt
          by_cases h32 : c < 32 ∨ c = 127
          · have HN := Lib.hid (HS.out.trans (show quoS B k acc = none from by rw [HQ.out, if_neg (fun h => h39 h.1), if_neg h39, if_neg h92, if_pos h32]))
            have hd : c.toNat < 32 ∨ (32 ≤ c.toNat ∧ c.toNat = 127) := by
              rcases h32 with h | h
              · exact .inl (UInt8.lt_iff_toNat_lt.1 h)
              · exact .inr (by subst h; decide)
            clear ho h92 h39 h32
            rcases hd with g1 | ⟨g1, g2⟩
            all_goals
              go_wp2_with fail
              go_ret2
              exact ⟨by rw [HN.out]; rfl, by rw [HN.out]; exact ⟨_, HU.out.sc⟩⟩
          · have HN := Lib.hid (HS.out.trans (show quoS B k acc = quoS B (k + 1) (acc ++ [c]) from by rw [HQ.out, if_neg (fun h => h39 h.1), if_neg h39, if_neg h92, if_neg h32]))
            have g1 : 32 ≤ c.toNat := by
              have : ¬ c < 32 := fun h => h32 (.inl h)
              rw [UInt8.lt_iff_toNat_lt] at this
              have e : (32 : UInt8).toNat = 32 := rfl
              omega
            have q127 := u8_ne' (c := c) (n := 127) (z := 127) rfl (by omega) (fun h => h32 (.inr h))
            clear ho h92 h39 h32
            go_upto_region 17 with fail
            refine wp_abs (fun V => QuAt w V sb b off cap B (k + 1) (.slice A1 acc.length c1) acc) HU.out ?_
            clear d1 d2 f2 HU
            rintro Z hZ
            have HZ := Lib.hid hZ
            clear hZ
            go_wp2_with (at_builtin; refine wpList_append_src (P := Tryz.prog) rfl _ _ 61 rfl 5 i1 _ 1 1 Tryz.underlying61 hi1 hz0 hz1 hz2 rfl (by omega) _ rfl _ _ _ rfl acc.length (acc.map u8V) (own_ext HZ.out.own ((Ext.refl Z).alloc _)) [.int .u8 (c.toNat : Int)] (El.Src.new _ #[.int .u8 (c.toNat : Int)] _ 1 1 rfl) (u8_one [c]) (by unfold maxLen; omega) (by omega) ?_; intro v3 w3 ho3 hm3 hb3; have hG3 := Lib.hid (QuAt.step (G := [c]) HZ.out ((Ext.refl Z).alloc _) ho3 hm3 hb3); clear ho3 hm3 hb3)
            go_roundw
            case rel => exact ⟨k + 1, acc ++ [c], by simp; omega, hG3, HN.out⟩
            case measure =>
              have h2 := place_at hG3.out.sc.sc
              rw [h2, hplace]
              omega
    · obtain rfl : k = B.length := by omega
      have HN := Lib.hid (HS.out.trans (quoS_end (B := B) (acc := acc) (Nat.le_refl _)))
      go_upto_region 3 with fail
      go_quiet (fail)
      go_wp2_with fail
      go_ret2
      exact ⟨by rw [HN.out]; rfl, by rw [HN.out]; exact ⟨_, HG.out.sc.drewN _⟩⟩

end Go.Proofs.YtmnnhdegoapfcaaGreatDoor
