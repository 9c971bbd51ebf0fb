/- Layer 8, the program: the walk of quoted. -/
import Derived.Test.YtgcdhffeacdegaaGreatDoorG35
import Derived.Test.YtgcdhffeacdegaaGreatDoorG11
import Derived.Lib.QuietBelow
namespace Go.Proofs.YtgcdhffeacdegaaGreatDoor
open Go.RowKit Go.El

/-- A scanner and the bytes that a call has gathered. -/
structure QuAt (w wr : World) (sb b off cap : Nat) (B : List UInt8) (k : Nat) (v : Value) (F : List UInt8) : Prop where
  sc : ScIn w wr sb b off cap B k
  own : wr.ownsRow 0 5 1 v F.length (F.map u8V)
  far : ∀ x, v.ownBlock = some x → w.heap.size ≤ x
  ls : sb < w.heap.size
  lb : b < w.heap.size
  lm : 1 < w.heap.size
  le : 4 < w.heap.size
theorem QuAt.start {w wr : World} {sb b off cap : Nat} {B : List UInt8} {k : Nat} (h : ScIn w wr sb b off cap B k) (ls : sb < w.heap.size) (lb : b < w.heap.size) (lm : 1 < w.heap.size) (le : 4 < w.heap.size) : QuAt w wr sb b off cap B k (.slice none 0 0) [] :=
  ⟨h, World.ownsRow_nil _ _ _ _, fun x hx => by simp [Value.ownBlock] at hx, ls, lb, lm, le⟩
theorem QuAt.go {w wr V : World} {sb b off cap : Nat} {B : List UInt8} {k : Nat} {v : Value} {F : List UInt8} (h : QuAt w wr sb b off cap B k v F) (x : Ext wr V) : QuAt w V sb b off cap B k v F :=
  ⟨h.sc.go x, own_ext h.own x, h.far, h.ls, h.lb, h.lm, h.le⟩
theorem QuAt.in_ {w wr V : World} {sb b off cap : Nat} {B : List UInt8} {k j : Nat} {v : Value} {F : List UInt8} (h : QuAt w wr sb b off cap B k v F) (g : ScIn wr V sb b off cap B j) : QuAt w V sb b off cap B j v F :=
  ⟨h.sc.then g, own_mods h.own g.mods (fun x hx hm => by
    rw [List.mem_singleton] at hm
    have := h.far x hx
    have := h.ls
    omega), h.far, h.ls, h.lb, h.lm, h.le⟩
theorem QuAt.to {w wr : World} {sb b off cap : Nat} {B : List UInt8} {k : Nat} {v : Value} {F : List UInt8} (h : QuAt w wr sb b off cap B k v F) {j : Nat} {n : Int} (hj : j ≤ B.length) (hv : n = (j : Int)) : QuAt w (wr.setCell ⟨sb, 1, none⟩ (.int .i64 n)) sb b off cap B j v F :=
  h.in_ ((ScIn.start h.sc.sc).to hj hv)
theorem ScAt.far {w w' : World} {sb b off cap : Nat} {B : List UInt8} {i : Nat} {S : List Nat} (h : ScAt w sb b off cap B i) (hm : Mods S w w') (h1 : sb ∉ S) (h2 : b ∉ S) (h3 : 1 ∉ S) (h4 : 4 ∉ S) : ScAt w' sb b off cap B i :=
  ⟨h.blk.mods hm h1, El.Src.mods h.src hm (fun a ha => by injection ha with ha; subst ha; exact h2), h.ne, h.len, h.cap, h.at_, h.glob.mods hm h3 h4, h.n1, h.n2⟩
theorem QuAt.step {w wr V w' : World} {sb b off cap : Nat} {B : List UInt8} {k : Nat} {v v' : Value} {F : List UInt8} {G : List UInt8} (h : QuAt w wr sb b off cap B k v F) (x : Ext wr V) (ho : w'.ownsRow 0 5 1 v' (F.length + G.length) (F.map u8V ++ G.map u8V)) (hm : Mods (ownL v) V w') (hb : v'.ownBlock = v.ownBlock ∨ v'.ownBlock = some V.heap.size) : QuAt w w' sb b off cap B k v' (F ++ G) := by
  have hg := h.go x
  have hno : ∀ y, y < w.heap.size → y ∉ ownL v := fun y hy hm => by have := h.far y (mem_ownL hm); omega
  have hwV : w.heap.size ≤ V.heap.size := hg.sc.mods.size
  refine ⟨⟨hg.sc.sc.far hm (hno _ h.ls) (hno _ h.lb) (hno _ h.lm) (hno _ h.le), Mods.step hg.sc.mods hm (fun y hy => .inr (h.far y (mem_ownL hy)))⟩, ?_, fun y hy => ?_, h.ls, h.lb, h.lm, h.le⟩
  · rw [List.map_append, List.length_append]
    exact ho
  · rcases hb with e | e
    · exact h.far y (e.symm.trans hy)
    · rw [e] at hy
      injection hy with hy
      omega
theorem QuAt.slice {w wr : World} {sb b off cap : Nat} {B : List UInt8} {k : Nat} {v : Value} {F : List UInt8} (h : QuAt w wr sb b off cap B k v F) : ∃ A c, v = .slice A F.length c ∧ BytesAt wr A F := by
  obtain ⟨A, c, rfl⟩ := own_value h.own
  exact ⟨A, c, rfl, El.Src.of_own h.own⟩

/-- What quoted hands back. -/
def quoPV : Option (List UInt8 × Nat) → Value
  | none => .tuple #[.string ⟨#[]⟩, .bool false]
  | some (s, _) => .tuple #[.string (strB s), .bool true]
/-- Where quoted leaves the scanner. -/
def QuoIn (w w' : World) (sb b off cap : Nat) (B : List UInt8) : Option (List UInt8 × Nat) → Prop
  | none => ∃ k, ScIn w w' sb b off cap B k
  | some (_, j) => ScIn w w' sb b off cap B j
theorem esc_no {sb b off cap : Nat} {B : List UInt8} {i : Nat} {w : World} (h : ScAt w sb b off cap B i) (hn : escS B i = none) :
    Calls Tryz.prog 167 #[.pointer (some ⟨sb, 0, none⟩)] w fun e w' => e = .returned (.tuple #[.int .u8 0, .bool false]) ∧ ∃ k, ScIn w w' sb b off cap B k := by
  have := escape_any sb b off cap B i w h
  rw [hn] at this
  exact this
theorem esc_yes {sb b off cap : Nat} {B : List UInt8} {i : Nat} {w : World} (h : ScAt w sb b off cap B i) {x : UInt8} {j : Nat} (hn : escS B i = some (x, j)) :
    Calls Tryz.prog 167 #[.pointer (some ⟨sb, 0, none⟩)] w fun e w' => e = .returned (.tuple #[.int .u8 (x.toNat : Int), .bool true]) ∧ ScIn w w' sb b off cap B j := by
  have := escape_any sb b off cap B i w h
  rw [hn] at this
  exact this

set_option maxRecDepth 100000 in
set_option maxHeartbeats 8000000 in
theorem quoted_any (sb b off cap : Nat) (B : List UInt8) (i0 : Nat) (w : World) (h : ScAt w sb b off cap B i0) (hi : i0 < B.length) (ls : sb < w.heap.size) (lb : b < w.heap.size) (lm : 1 < w.heap.size) (le : 4 < w.heap.size) :
    Calls Tryz.prog 135 #[.pointer (some ⟨sb, 0, none⟩)] w fun e w' => e = .returned (quoPV (quoS B (i0 + 1) [])) ∧ QuoIn w w' sb b off cap B (quoS B (i0 + 1) []) := by
  obtain ⟨i1, hi1, hz0, hz1, hz2⟩ := infoP u8Info
  have d1 := h.c0
  have d2 := h.c1
  have f2 := h.frozen
  have hcp := h.cap
  have hlen := h.len
  have H0 := Lib.hid (QuAt.start ((ScIn.start h).to (j := i0 + 1) (v := (i0 : Int) + 1) hi (by omega)) ls lb lm le)
  clear h ls lb lm le
  go_enter Tryz.func135, Tryz.ntmps135
  go_wp2_with fail
  go_loopw [4] (fun v wr => ∃ k : Nat, ∃ acc : List UInt8, acc.length ≤ k ∧ Hid (QuAt w wr sb b off cap B k v acc) ∧ Hid (quoS B (i0 + 1) [] = quoS B k acc)) (fun _ wr => B.length - placeOf wr sb)
  case atStart => exact ⟨i0 + 1, [], Nat.zero_le _, H0.out, rfl⟩
  case round =>
    obtain ⟨k, acc, hak, HG, HS⟩ := hrel
    obtain ⟨A1, c1, rfl, _⟩ := HG.out.slice
    clear d1 d2 f2
    have d1 := HG.out.sc.sc.c0
    have d2 := HG.out.sc.sc.c1
    have hkl := HG.out.sc.sc.at_
    have hplace := place_at HG.out.sc.sc
    by_cases hlt : k < B.length
    · have ho : B[k]? = some B[k] := List.getElem?_eq_getElem hlt
      generalize B[k] = c at ho
      have d0 := HG.out.sc.sc.cells ho
      have hck : ¬ cap = k := by omega
      have HQ := Lib.hid (quoS_eq (acc := acc) ho)
      go_upto_region 3 with fail
      go_quiet (fail)
      go_upto_region 4 with fail
      refine wp_abs (fun V => QuAt w V sb b off cap B k (.slice A1 acc.length c1) acc) (HG.out.go ((Ext.refl _).drewN _)) ?_
      clear d0 d1 d2 HG
      rintro V hV
      have d1 := hV.sc.sc.c0
      have d2 := hV.sc.sc.c1
      have d0 := hV.sc.sc.cells ho
      have HG := Lib.hid hV
      clear hV
      go_quiet (fail)
      go_upto_region 5 with fail
      refine wp_abs (fun V => QuAt w V sb b off cap B k (.slice A1 acc.length c1) acc) (HG.out.go ((Ext.refl _).drewN _)) ?_
      clear d0 d1 d2 HG
      rintro U hU
      have d1 := hU.sc.sc.c0
      have d2 := hU.sc.sc.c1
      have f2 := hU.sc.sc.frozen
      have HU := Lib.hid (hU.to (j := k + 1) (n := (k : Int) + 1) hlt (by omega))
      clear hU
      by_cases h39 : c = 39
      · have q39 : ((c.toNat : Int) == (39 : Int)) = true := by rw [h39]; rfl
        subst h39
        have hpre := pre1 (B := B) (k := k + 1) 39
        go_upto_region 6 with fail
        refine wp_abs (fun V => QuAt w V sb b off cap B (k + 1) (.slice A1 acc.length c1) acc) HU.out ?_
        clear d1 d2 f2 HU
        rintro Y hY
        have HY := Lib.hid hY
        clear hY
        by_cases h2 : B[k + 1]? = some 39
        · have hk1 : k + 1 < B.length := (List.getElem?_eq_some_iff.1 h2).1
          rw [decide_eq_true h2] at hpre
          have HP := Lib.hid hpre
          have HN := Lib.hid (HS.out.trans (show quoS B k acc = quoS B (k + 2) (acc ++ [39]) from by rw [HQ.out, if_pos ⟨rfl, h2⟩]))
          clear h2 ho hpre
          go_upto_region 7 with (go_at_call 129; refine (starts_is HY.out.sc.sc [39] true HP.out).mono ?_; rintro e1 w2 ⟨rfl, hu⟩; have HU := Lib.hid (HY.out.go hu); clear hu)
          have d1 := HU.out.sc.sc.c0
          have d2 := HU.out.sc.sc.c1
          have f2 := HU.out.sc.sc.frozen
          have HT := Lib.hid (HU.out.to (j := k + 2) (n := (k : Int) + 1 + 1) hk1 (by omega))
          go_upto_region 17 with fail
          refine wp_abs (fun V => QuAt w V sb b off cap B (k + 2) (.slice A1 acc.length c1) acc) HT.out ?_
          clear d1 d2 f2 HT HU
          rintro Z hZ
          have HZ := Lib.hid hZ
          clear hZ
          go_wp2_with (at_builtin; refine wpList_append_src (P := Tryz.prog) rfl _ _ 23 rfl 5 i1 _ 1 1 Tryz.underlying23 hi1 hz0 hz1 hz2 rfl (by omega) _ rfl _ _ _ rfl acc.length (acc.map u8V) (own_ext HZ.out.own ((Ext.refl Z).alloc _)) [.int .u8 39] (El.Src.new _ #[.int .u8 39] _ 1 1 rfl) (u8_one [39]) (by unfold maxLen; omega) (by omega) ?_; intro v3 w3 ho3 hm3 hb3; have hG3 := Lib.hid (QuAt.step (G := [39]) HZ.out ((Ext.refl Z).alloc _) ho3 hm3 hb3); clear ho3 hm3 hb3)
          go_roundw
          case rel => exact ⟨k + 2, acc ++ [39], by simp; omega, hG3, HN.out⟩
          case measure =>
            have h2 := place_at hG3.out.sc.sc
            rw [h2, hplace]
            omega
        · rw [decide_eq_false h2] at hpre
          have HP := Lib.hid hpre
          have HN := Lib.hid (HS.out.trans (show quoS B k acc = some (acc, k + 1) from by rw [HQ.out, if_neg (fun h => h2 h.2), if_pos rfl]))
          clear h2 ho hpre
          go_upto_region 9 with (go_at_call 129; refine (starts_is HY.out.sc.sc [39] false HP.out).mono ?_; rintro e1 w2 ⟨rfl, hu⟩; have HU := Lib.hid (HY.out.go hu); clear hu)
          have hcv := conv_str c1 (El.Src.of_own HU.out.own)
          go_wp2_with fail
          go_ret2
          exact ⟨by rw [HN.out]; rfl, by rw [HN.out]; exact HU.out.sc⟩
      · have q39 := u8_ne' (c := c) (n := 39) (z := 39) rfl (by omega) h39
        by_cases h92 : c = 92
        · have q92 : ((c.toNat : Int) == (92 : Int)) = true := by rw [h92]; rfl
          subst h92
          go_upto_region 11 with fail
          refine wp_abs (fun V => QuAt w V sb b off cap B (k + 1) (.slice A1 acc.length c1) acc) HU.out ?_
          clear d1 d2 f2 HU
          rintro Y hY
          have HY := Lib.hid hY
          clear hY
          cases he : escS B (k + 1) with
          | none =>
            have HN := Lib.hid (HS.out.trans (show quoS B k acc = none from by rw [HQ.out, if_neg (fun h => absurd h.1 (by decide)), if_neg (by decide), if_pos rfl, he]))
            have HE := Lib.hid (esc_no HY.out.sc.sc he)
            clear ho he h39
            go_wp2_with (go_at_call 167; refine HE.out.mono ?_; rintro e w' ⟨rfl, j, hj⟩; have HJ := Lib.hid (HY.out.sc.then hj); clear hj)
            go_ret2
            exact ⟨by rw [HN.out]; rfl, by rw [HN.out]; exact ⟨_, HJ.out⟩⟩
          | some p =>
            obtain ⟨x, j⟩ := p
            have HN := Lib.hid (HS.out.trans (show quoS B k acc = quoS B j (acc ++ [x]) from by rw [HQ.out, if_neg (fun h => absurd h.1 (by decide)), if_neg (by decide), if_pos rfl, he]))
            have HE := Lib.hid (esc_yes HY.out.sc.sc he)
            obtain ⟨hj1, hj2⟩ := escS_bd he
            clear ho he h39
            go_upto_region 17 with (go_at_call 167; refine HE.out.mono ?_; rintro e w' ⟨rfl, hj⟩; have HJ := Lib.hid (HY.out.in_ hj); clear hj)
            refine wp_abs (fun V => QuAt w V sb b off cap B j (.slice A1 acc.length c1) acc) HJ.out ?_
            clear HJ
            rintro Z hZ
            have HZ := Lib.hid hZ
            clear hZ
            go_wp2_with (at_builtin; refine wpList_append_src (P := Tryz.prog) rfl _ _ 23 rfl 5 i1 _ 1 1 Tryz.underlying23 hi1 hz0 hz1 hz2 rfl (by omega) _ rfl _ _ _ rfl acc.length (acc.map u8V) (own_ext HZ.out.own ((Ext.refl Z).alloc _)) [.int .u8 (x.toNat : Int)] (El.Src.new _ #[.int .u8 (x.toNat : Int)] _ 1 1 rfl) (u8_one [x]) (by unfold maxLen; omega) (by omega) ?_; intro v3 w3 ho3 hm3 hb3; have hG3 := Lib.hid (QuAt.step (G := [x]) HZ.out ((Ext.refl Z).alloc _) ho3 hm3 hb3); clear ho3 hm3 hb3)
            go_roundw
            case rel => exact ⟨j, acc ++ [x], by simp; omega, hG3, HN.out⟩
            case measure =>
              have h2 := place_at hG3.out.sc.sc
              rw [h2, hplace]
              omega
        · have q92 := u8_ne' (c := c) (n := 92) (z := 92) rfl (by omega) h92
          have hcl := c.toNat_lt
          by_cases h32 : c < 32 ∨ c = 127
          · have HN := Lib.hid (HS.out.trans (show quoS B k acc = none from by rw [HQ.out, if_neg (fun h => h39 h.1), if_neg h39, if_neg h92, if_pos h32]))
            have hd : c.toNat < 32 ∨ (32 ≤ c.toNat ∧ c.toNat = 127) := by
              rcases h32 with h | h
              · exact .inl (UInt8.lt_iff_toNat_lt.1 h)
              · exact .inr (by subst h; decide)
            clear ho h92 h39 h32
            rcases hd with g1 | ⟨g1, g2⟩
            all_goals
              go_wp2_with fail
              go_ret2
              exact ⟨by rw [HN.out]; rfl, by rw [HN.out]; exact ⟨_, HU.out.sc⟩⟩
          · have HN := Lib.hid (HS.out.trans (show quoS B k acc = quoS B (k + 1) (acc ++ [c]) from by rw [HQ.out, if_neg (fun h => h39 h.1), if_neg h39, if_neg h92, if_neg h32]))
            have g1 : 32 ≤ c.toNat := by
              have : ¬ c < 32 := fun h => h32 (.inl h)
              rw [UInt8.lt_iff_toNat_lt] at this
              have e : (32 : UInt8).toNat = 32 := rfl
              omega
            have q127 := u8_ne' (c := c) (n := 127) (z := 127) rfl (by omega) (fun h => h32 (.inr h))
            clear ho h92 h39 h32
            go_upto_region 17 with fail
            refine wp_abs (fun V => QuAt w V sb b off cap B (k + 1) (.slice A1 acc.length c1) acc) HU.out ?_
            clear d1 d2 f2 HU
            rintro Z hZ
            have HZ := Lib.hid hZ
            clear hZ
            go_wp2_with (at_builtin; refine wpList_append_src (P := Tryz.prog) rfl _ _ 23 rfl 5 i1 _ 1 1 Tryz.underlying23 hi1 hz0 hz1 hz2 rfl (by omega) _ rfl _ _ _ rfl acc.length (acc.map u8V) (own_ext HZ.out.own ((Ext.refl Z).alloc _)) [.int .u8 (c.toNat : Int)] (El.Src.new _ #[.int .u8 (c.toNat : Int)] _ 1 1 rfl) (u8_one [c]) (by unfold maxLen; omega) (by omega) ?_; intro v3 w3 ho3 hm3 hb3; have hG3 := Lib.hid (QuAt.step (G := [c]) HZ.out ((Ext.refl Z).alloc _) ho3 hm3 hb3); clear ho3 hm3 hb3)
            go_roundw
            case rel => exact ⟨k + 1, acc ++ [c], by simp; omega, hG3, HN.out⟩
            case measure =>
              have h2 := place_at hG3.out.sc.sc
              rw [h2, hplace]
              omega
    · obtain rfl : k = B.length := by omega
      have HN := Lib.hid (HS.out.trans (quoS_end (B := B) (acc := acc) (Nat.le_refl _)))
      go_upto_region 3 with fail
      go_quiet (fail)
      go_wp2_with fail
      go_ret2
      exact ⟨by rw [HN.out]; rfl, by rw [HN.out]; exact ⟨_, HG.out.sc.drewN _⟩⟩

end Go.Proofs.YtgcdhffeacdegaaGreatDoor

/- Layer 8, the program: the walks of alone, ends, integer. -/
namespace Go.Proofs.YtgcdhffeacdegaaGreatDoor
open Go.RowKit Go.El

/-- The blocks that a scanner stands on are older than a call. -/
structure Old (w : World) (sb b : Nat) : Prop where
  ls : sb < w.heap.size
  lb : b < w.heap.size
  lm : 1 < w.heap.size
  le : 4 < w.heap.size
theorem ScIn.set {w wr : World} {sb b off cap : Nat} {B : List UInt8} {k : Nat} (h : ScIn w wr sb b off cap B k) (o : Old w sb b) {p : Addr} (hp : w.heap.size ≤ p.block) (v : Value) : ScIn w (wr.setCell p v) sb b off cap B k := by
  have hm : Mods [p.block] wr (wr.setCell p v) := (Mods.refl _ wr).setCell (.inl (by simp)) v
  have hno : ∀ y, y < w.heap.size → y ∉ [p.block] := fun y hy hm => by rw [List.mem_singleton] at hm; omega
  exact ⟨h.sc.far hm (hno _ o.ls) (hno _ o.lb) (hno _ o.lm) (hno _ o.le), Mods.step h.mods hm (fun y hy => .inr (by rw [List.mem_singleton] at hy; omega))⟩
theorem ScIn.set5 {w wr : World} {sb b off cap : Nat} {B : List UInt8} {k : Nat} (h : ScIn w wr sb b off cap B k) (o : Old w sb b) {g : Nat} (hg : w.heap.size ≤ g) (a' b' c' d' e' : Value) : ScIn w (((((wr.setCell ⟨g, 0, none⟩ a').setCell ⟨g, 1, none⟩ b').setCell ⟨g, 2, none⟩ c').setCell ⟨g, 3, none⟩ d').setCell ⟨g, 4, none⟩ e') sb b off cap B k :=
  ((((h.set o (p := ⟨g, 0, none⟩) hg a').set o (p := ⟨g, 1, none⟩) hg b').set o (p := ⟨g, 2, none⟩) hg c').set o (p := ⟨g, 3, none⟩) hg d').set o (p := ⟨g, 4, none⟩) hg e'
/-- A zero token's block, behind a scanner's moves. -/
theorem zero_in {w w' : World} {sb : Nat} (hs : sb < w.heap.size) (hm : Mods [sb] (w.alloc (.cells #[.int .i64 0, .string ⟨#[]⟩, .int .i64 0, .int .i64 0, .bool false] 55)) w') : Blk w' w.heap.size 55 #[.int .i64 0, .string ⟨#[]⟩, .int .i64 0, .int .i64 0, .bool false] :=
  (Blk.new w 55 _).mods hm (by simp; omega)

set_option maxRecDepth 100000 in
set_option maxHeartbeats 4000000 in
theorem alone_any (sb b off cap : Nat) (B : List UInt8) (i : Nat) (c : UInt8) (w : World) (h : ScAt w sb b off cap B i) (ho : B[i]? = some c) :
    Calls Tryz.prog 132 #[.pointer (some ⟨sb, 0, none⟩)] w fun e w' => e = .returned (.string (strB [c])) ∧ ScIn w w' sb b off cap B (i + 1) := by
  have d1 := h.c0
  have d2 := h.c1
  have f2 := h.frozen
  have hlt : i < B.length := (List.getElem?_eq_some_iff.1 ho).1
  have hcp := h.cap
  have hlen := h.len
  have HS := Lib.hid ((ScIn.start h).to (j := i + 1) (v := (i : Int) + 1) hlt (by omega))
  have HO := Lib.hid ho
  clear h ho
  go_enter Tryz.func132, Tryz.ntmps132
  go_upto_region 2 with fail
  refine wp_abs (fun V => ScIn w V sb b off cap B (i + 1)) HS.out ?_
  clear d1 d2 f2 HS
  rintro V hV
  have d1 := hV.sc.c0
  have d2 := hV.sc.c1
  have hcv := fun n => (hV.drewN n).sc.conv i (i + 1) (by omega) hlt
  rw [sub_one HO.out] at hcv
  have e1 : i + 1 - i = 1 := by omega
  rw [e1] at hcv
  have hci : ¬ cap = i := by omega
  have hm1 : ((i + 1 : Nat) : Int) - 1 = (i : Int) := by omega
  have hm2 : (i : Int) + 1 - 1 = (i : Int) := by omega
  have hw1 : IntKind.i64.wrap (i : Int) = (i : Int) := IntWalk.i64_in _ (by omega)
  have hce : i + 1 ≤ cap := by omega
  generalize hgs : strB [c] = z at hcv
  have HZ := Lib.hid hgs
  have HV := Lib.hid hV
  clear hgs hV
  go_quiet (fail)
  go_wp2_with fail
  go_ret
  exact ⟨by rw [HZ.out]; rfl, HV.out.drewN _⟩

end Go.Proofs.YtgcdhffeacdegaaGreatDoor

/- Layer 8, the program: the walk of ends. -/
namespace Go.Proofs.YtgcdhffeacdegaaGreatDoor
open Go.RowKit Go.El Go.Sort

theorem blank37_has (c : UInt8) : hasB ⟨#[32, 9, 10, 13, 37]⟩ c = (isBlank c || c == 37) := all_bytes (p := fun c => hasB ⟨#[32, 9, 10, 13, 37]⟩ c = (isBlank c || c == 37)) (by decide +kernel) c
theorem in8_grown (c : UInt8) (s : ByteArray) (w : World) (d : Nat) (os : Array Obj) :
    Calls Tryz.prog 85 #[.int .u8 (c.toNat : Int), .string s] (grow (redrawn w d) os) fun e w'' => e = .returned (.bool (hasB s c)) ∧ ∃ p : Regrown, w'' = grow (redrawn w p.d) p.os :=
  Calls.regrown_of ((in8_any c s _).mono (by rintro e w' ⟨rfl, rfl⟩; exact ⟨rfl, Below.refl _ _⟩))
theorem starts_grown {w : World} {sb b off cap : Nat} {B : List UInt8} {i : Nat} (h : ScAt w sb b off cap B i) (l : List UInt8) (v : Bool) (hv : l.isPrefixOf (B.drop i) = v) (d : Nat) (os : Array Obj) :
    Calls Tryz.prog 129 #[.pointer (some ⟨sb, 0, none⟩), .string ⟨l.toArray⟩] (grow (redrawn w d) os) fun e w'' => e = .returned (.bool v) ∧ ∃ p : Regrown, w'' = grow (redrawn w p.d) p.os :=
  Calls.regrown_of (starts_is (h.ext (below_regrown w d os)) l v hv)

set_option maxRecDepth 100000 in
set_option maxHeartbeats 4000000 in
theorem ends_any (sb b off cap : Nat) (B : List UInt8) (i : Nat) (c : UInt8) (w : World) (h : ScAt w sb b off cap B i) (ho : B[i]? = some c) :
    Calls Tryz.prog 131 #[.pointer (some ⟨sb, 0, none⟩)] w fun e w' => e = .returned (.bool (endsS B i c)) ∧ Ext w w' := by
  have hlt : i < B.length := (List.getElem?_eq_some_iff.1 ho).1
  have hcp := h.cap
  have hlen := h.len
  have g0 := cell_regrown h.c0
  have g1 := cell_regrown h.c1
  have hpre := pre1 (B := B) (k := i) 46
  rw [ho] at hpre
  by_cases h46 : c = 46
  · subst h46
    rw [decide_eq_true rfl] at hpre
    have cS := starts_grown h [46] true hpre
    by_cases h1 : i + 1 < B.length
    · have hd : B[i + 1]? = some B[i + 1] := List.getElem?_eq_getElem h1
      generalize B[i + 1] = d at hd
      have g2 := cell_regrown (h.cells hd)
      have HN := Lib.hid (show endsS B i 46 = hasB ⟨#[32, 9, 10, 13, 37]⟩ d from by rw [blank37_has]; unfold endsS; rw [hd]; rfl)
      have hil : ((i : Int) + 1 == (B.length : Int)) = false := by simp; omega
      have hck : ¬ cap = i := by omega
      clear hd ho hpre h
      go_enter Tryz.func131, Tryz.ntmps131
      go_upto_region 1 with fail
      refine wp_region_quiet_below (by kernel_rfl) (by kernel_rfl) ?_
      repeat (go_big_quiet_step (first | exact cS _ _ | exact in8_grown _ _ _ _ _))
      refine wpQuiet_nil ?_
      intro _ hw'
      obtain ⟨⟨dq, osq⟩, hw''⟩ := hw'
      subst hw''
      go_wp2_with fail
      go_ret
      exact ⟨ret_bool HN.out.symm, below_regrown w dq osq⟩
    · have HN := Lib.hid (show endsS B i 46 = true from by unfold endsS; rw [List.getElem?_eq_none (l := B) (i := i + 1) (by omega)]; rfl)
      have hil : ((i : Int) + 1 == (B.length : Int)) = true := by simp; omega
      clear ho hpre h
      go_enter Tryz.func131, Tryz.ntmps131
      go_upto_region 1 with fail
      refine wp_region_quiet_below (by kernel_rfl) (by kernel_rfl) ?_
      repeat (go_big_quiet_step (first | exact cS _ _ | exact in8_grown _ _ _ _ _))
      refine wpQuiet_nil ?_
      intro _ hw'
      obtain ⟨⟨dq, osq⟩, hw''⟩ := hw'
      subst hw''
      go_wp2_with fail
      go_ret
      exact ⟨ret_bool HN.out.symm, below_regrown w dq osq⟩
  · have HN := Lib.hid (ends_no (B := B) (i := i) h46)
    rw [decide_eq_false (fun e => h46 (by injection e))] at hpre
    have cS := starts_grown h [46] false hpre
    clear ho hpre h
    go_enter Tryz.func131, Tryz.ntmps131
    go_upto_region 1 with fail
    refine wp_region_quiet_below (by kernel_rfl) (by kernel_rfl) ?_
    repeat (go_big_quiet_step (first | exact cS _ _ | exact in8_grown _ _ _ _ _))
    refine wpQuiet_nil ?_
    intro _ hw'
    obtain ⟨⟨dq, osq⟩, hw''⟩ := hw'
    subst hw''
    go_wp2_with fail
    go_ret
    exact ⟨ret_bool HN.out.symm, below_regrown w dq osq⟩

end Go.Proofs.YtgcdhffeacdegaaGreatDoor
